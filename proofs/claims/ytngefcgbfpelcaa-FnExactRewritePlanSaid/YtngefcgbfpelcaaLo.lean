/- Contracts. -/
import Derived.Test.YtngefcgbfpelcaaLl
set_option linter.unusedSimpArgs false
set_option linter.unusedVariables false
namespace Go.Proofs.Try
open Go Go.Aix
set_option maxRecDepth 100000
set_option maxHeartbeats 4000000
set_option linter.unusedSimpArgs false
set_option linter.unusedVariables false
def skipOk (l : List NodeV) (k : Int) : Bool := decide ((0 ≤ k ∧ k < (l.length : Int)) ∧ ((nth l k.toNat).op = 5 ∨ (nth l k.toNat).op = 11 → 0 ≤ (nth l k.toNat).a ∧ (nth l k.toNat).a < (l.length : Int)))
theorem ent67 : Enters Try.prog 67 := ⟨Try.f67, Try.func67, by kernel_rfl, by kernel_rfl⟩
theorem go67 (plan : List NodeV) (k : Int) {r : RES} (h : ∀ (w : World) (Xs : Nat → Prop), ((0 ≤ k ∧ k < (plan.length : Int)) ∧ (if (nth plan k.toNat).op = 5 then ((0 ≤ (nth plan k.toNat).a ∧ (nth plan k.toNat).a < (plan.length : Int)) ∧ (if (nth plan (((nth plan k.toNat).a).toNat)).op = 5 then r = (.one (.pv (.sc (.int .i64 ((nth plan (((nth plan k.toNat).a).toNat)).a)))), [], 0) else r = (.one (.pv (.sc (.int .i64 k))), [], 0))) else (if (nth plan k.toNat).op = 11 then ((0 ≤ (nth plan k.toNat).a ∧ (nth plan k.toNat).a < (plan.length : Int)) ∧ (if (nth plan (((nth plan k.toNat).a).toNat)).op = 11 then r = (.one (.pv (.sc (.int .i64 ((nth plan k.toNat).a)))), [], 0) else r = (.one (.pv (.sc (.int .i64 k))), [], 0))) else r = (.one (.pv (.sc (.int .i64 k))), [], 0))))) : Ok0 Try.prog 67 [(pL tNode).enc plan, pI.enc k] r.1 r.2.1 r.2.2 := by
  obtain ⟨I, hI⟩ : ∃ I, I = real := ⟨_, rfl⟩
  show Ok0 Try.prog 67 [.one (.pv (.sl false 7 (tNode.encs plan))), .one (.pv (.sc (.int .i64 k)))] _ _ _
  obtain ⟨q0, hq0⟩ : ∃ q, q = (tNode.encs plan) := ⟨_, rfl⟩
  try rw [← hq0]
  refine Ok0_run (Y := (Tab.calls [])) xok (TabOk.calls mixed trivial) Try.func67 rfl rfl rfl 2000 hI fun w Xs => ?_; (conv => arg 4; cbv)
  replace h := h w Xs
  repeat' (first | (have hd := And.left h; replace h := And.right h) | ((with_reducible refine on_eqs ?_ ?_); (focus (with_reducible rfl)); conv => arg 4; cbv) | (with_reducible refine on_both ?_ ?_ <;> (conv => arg 4; cbv)) | (with_reducible refine on_true (by assumption) ?_; conv => arg 4; cbv) | (with_reducible refine on_false (by assumption) ?_; conv => arg 4; cbv) | (with_reducible refine on_ask (fun g => ?_) (fun g => ?_) <;> (have hc := g) <;> (try simp (disch := omega) [hI, hq0, -List.length_eq_zero_iff] at hc) <;> (try (exfalso; omega)) <;> (try (first | (revert h; (refine imp_l ?_ (fun h => ?_)); focus (first | exact hc | assumption | omega | (simpa using hc; done))) | (revert h; (refine imp_r ?_ (fun h => ?_)); focus (first | exact hc | assumption | omega | (simpa using hc; done))))) <;> (conv => arg 4; cbv)) | ((with_reducible refine on_must ?_ ?_); (focus ((simp (disch := omega) [hI, hq0]) <;> (first | omega | assumption | ((repeat' (refine And.intro ?_ ?_)) <;> (first | omega | assumption))))); conv => arg 4; cbv))
  all_goals (first | ((subst h); (with_reducible refine on_ret ?_); refine Ended_of rfl ?_))
  all_goals ((conv => lhs; cbv); (try (first | rfl | ((try simp (disch := omega) [hI, hq0, mapE_append, Ty.encs_append, encs1_I64, encs1_U8, encs1, mapE1]) <;> (first | rfl | omega | (simp; done))))))
def sh67 : Shp := fun I i b l s => .ok (.one (.pv (.sc (.int .i64 (i 0)))), [], 0)
def an67 : An (List NodeV × Int × Unit) where
  pre t := decide (t.1.length ≤ 1048576) && (skipOk t.1 t.2.1)
  i _ t := skipF t.1 t.2.1
noncomputable def en67 : En := mkE (parsC (pL tNode) (parsC pI pars0)) an67
theorem ok67 (plan : List NodeV) (k : Int) (p0 : plan.length ≤ 1048576) (p1 : skipOk plan k = true) : Ok0 Try.prog 67 [(pL tNode).enc plan, pI.enc k] ((.one (.pv (.sc (.int .i64 (skipF plan k)))), [], 0) : RES).1 ((.one (.pv (.sc (.int .i64 (skipF plan k)))), [], 0) : RES).2.1 ((.one (.pv (.sc (.int .i64 (skipF plan k)))), [], 0) : RES).2.2 := by
  have h := of_decide_eq_true p1
  refine go67 plan k fun w Xs => ?_
  unfold skipF
  (repeat' (first | (refine And.intro ?_ ?_) | (refine if_go (fun q => ?_) (fun q => ?_))))
  all_goals first | omega | (simp [*]; done) | (simp_all; done) | (simp_all; omega)
theorem s67 {I : Ops} (hI : I = real) {e : En} (he : e = en67) : Sound Try.prog 67 (callE I e sh67) := by
  refine Sound.mkE ent67 hI (fun _ => rfl) ?_ he
  rintro ⟨plan, k, ⟨⟩⟩ hp
  have hp : (decide (plan.length ≤ 1048576) && (skipOk plan k)) = true := hp
  try simp only [Bool.and_eq_true, decide_eq_true_eq] at hp
  obtain ⟨p0, p1⟩ := hp
  exact ok67 plan k p0 p1
theorem ent45 : Enters Try.prog 45 := ⟨Try.f45, Try.func45, by kernel_rfl, by kernel_rfl⟩
def G45_0 (w : World) (Xs : Nat → Prop) (r0 : List NodeV) (did : Int) (i : Int) (r : RES) : Prop := W Try.prog 45 Try.f45 (Ent0 w Xs) (Back (Ent0 w Xs) r.1 r.2.1 r.2.2) (place (bodyOf Try.f45) [1,1,1,0,1,0,0] [])
  ⟨[(4, .one (.arr 0 0 r0.length)), (5, .one (.pv (.sc (.int .i64 did)))), (6, .one (.pv (.sc (.int .i64 i))))], [(0, .row 7 (tNode.encs r0))], 1⟩
noncomputable def Y45 (I : Ops) (K : FuncId → En) : CallsA := (Tab.calls [(51, false, callIce I (callE I (K 51) sh51)), (66, true, callRd I (callE I (K 66) sh66)), (67, true, callRd I (callE I (K 67) sh67))])
theorem tY45 {I : Ops} (hI : I = real) {K : FuncId → En} (k51 : K 51 = en51) (k66 : K 66 = en66) (k67 : K 67 = en67) : CallsOk Try.prog (Y45 I K) := (TabOk.calls mixed ⟨EntryOk.own (s51 hI k51) hI, notQuiet, ⟨EntryOk.rd (s66 hI k66) hI, fun _ => callRd_quiet _ _, ⟨EntryOk.rd (s67 hI k67) hI, fun _ => callRd_quiet _ _, trivial⟩⟩⟩)
theorem st45_0 {w : World} {Xs : Nat → Prop} (r0 : List NodeV) (did : Int) (i : Int) {r : RES} (h : (if i < (r0.length : Int) then ((0 ≤ i ∧ i < (r0.length : Int)) ∧ (if 0 < readsOf ((nth r0 i.toNat).op) then ((r0.length ≤ 1048576) ∧ (((skipOk r0 ((nth r0 i.toNat).a)) = true) ∧ (if 1 < readsOf ((nth r0 i.toNat).op) then (((skipOk r0 ((nth r0 i.toNat).b)) = true) ∧ (if skipF r0 ((nth r0 i.toNat).a) = (nth r0 i.toNat).a then (if skipF r0 ((nth r0 i.toNat).b) = (nth r0 i.toNat).b then G45_0 w Xs (r0.set i.toNat (NodeV.mk ((nth r0 i.toNat).op) (skipF r0 ((nth r0 i.toNat).a)) (skipF r0 ((nth r0 i.toNat).b)) ((nth r0 i.toNat).col) ((nth r0 i.toNat).test) ((nth r0 i.toNat).value) ((nth r0 i.toNat).cells))) did (IntKind.i64.wrap (i + 1)) r else G45_0 w Xs (r0.set i.toNat (NodeV.mk ((nth r0 i.toNat).op) (skipF r0 ((nth r0 i.toNat).a)) (skipF r0 ((nth r0 i.toNat).b)) ((nth r0 i.toNat).col) ((nth r0 i.toNat).test) ((nth r0 i.toNat).value) ((nth r0 i.toNat).cells))) (IntKind.i64.wrap (did + 1)) (IntKind.i64.wrap (i + 1)) r) else G45_0 w Xs (r0.set i.toNat (NodeV.mk ((nth r0 i.toNat).op) (skipF r0 ((nth r0 i.toNat).a)) (skipF r0 ((nth r0 i.toNat).b)) ((nth r0 i.toNat).col) ((nth r0 i.toNat).test) ((nth r0 i.toNat).value) ((nth r0 i.toNat).cells))) (IntKind.i64.wrap (did + 1)) (IntKind.i64.wrap (i + 1)) r)) else (if skipF r0 ((nth r0 i.toNat).a) = (nth r0 i.toNat).a then G45_0 w Xs (r0.set i.toNat (NodeV.mk ((nth r0 i.toNat).op) (skipF r0 ((nth r0 i.toNat).a)) ((nth r0 i.toNat).b) ((nth r0 i.toNat).col) ((nth r0 i.toNat).test) ((nth r0 i.toNat).value) ((nth r0 i.toNat).cells))) did (IntKind.i64.wrap (i + 1)) r else G45_0 w Xs (r0.set i.toNat (NodeV.mk ((nth r0 i.toNat).op) (skipF r0 ((nth r0 i.toNat).a)) ((nth r0 i.toNat).b) ((nth r0 i.toNat).col) ((nth r0 i.toNat).test) ((nth r0 i.toNat).value) ((nth r0 i.toNat).cells))) (IntKind.i64.wrap (did + 1)) (IntKind.i64.wrap (i + 1)) r)))) else (if 1 < readsOf ((nth r0 i.toNat).op) then ((r0.length ≤ 1048576) ∧ (((skipOk r0 ((nth r0 i.toNat).b)) = true) ∧ (if skipF r0 ((nth r0 i.toNat).b) = (nth r0 i.toNat).b then G45_0 w Xs (r0.set i.toNat (NodeV.mk ((nth r0 i.toNat).op) ((nth r0 i.toNat).a) (skipF r0 ((nth r0 i.toNat).b)) ((nth r0 i.toNat).col) ((nth r0 i.toNat).test) ((nth r0 i.toNat).value) ((nth r0 i.toNat).cells))) did (IntKind.i64.wrap (i + 1)) r else G45_0 w Xs (r0.set i.toNat (NodeV.mk ((nth r0 i.toNat).op) ((nth r0 i.toNat).a) (skipF r0 ((nth r0 i.toNat).b)) ((nth r0 i.toNat).col) ((nth r0 i.toNat).test) ((nth r0 i.toNat).value) ((nth r0 i.toNat).cells))) (IntKind.i64.wrap (did + 1)) (IntKind.i64.wrap (i + 1)) r))) else G45_0 w Xs (r0.set i.toNat (nth r0 i.toNat)) did (IntKind.i64.wrap (i + 1)) r))) else r = (.tp [(false, [.arr 0 0 r0.length]), (false, [.pv (.sc (.int .i64 did))])], [(0, .row 7 (tNode.encs r0))], 1))) : G45_0 w Xs r0 did i r := by
  obtain ⟨I, hI⟩ : ∃ I, I = real := ⟨_, rfl⟩; obtain ⟨K, hK⟩ : ∃ K : FuncId → En, K = fun g => (lk g [(51, en51), (66, en66), (67, en67)]).getD default := ⟨_, rfl⟩; have k51 : K 51 = en51 := (by subst hK; rfl); have k66 : K 66 = en66 := (by subst hK; rfl); have k67 : K 67 = en67 := (by subst hK; rfl); clear hK
  unfold G45_0
  obtain ⟨q0, hq0⟩ : ∃ q, q = (tNode.encs r0) := ⟨_, rfl⟩
  try rw [← hq0]
  obtain ⟨q1, hq1⟩ : ∃ q, q = r0.length := ⟨_, rfl⟩
  try rw [← hq1]
  refine W_go (Y := (Y45 I K)) xok (tY45 hI k51 k66 k67) Try.func45 rfl 2000 _ hI ?_; (conv => arg 4; cbv)
  repeat' (first | (have hd := And.left h; replace h := And.right h) | ((with_reducible refine on_eqs ?_ ?_); (focus (with_reducible rfl)); conv => arg 4; cbv) | (with_reducible refine on_both ?_ ?_ <;> (conv => arg 4; cbv)) | (with_reducible refine on_true (by assumption) ?_; conv => arg 4; cbv) | (with_reducible refine on_false (by assumption) ?_; conv => arg 4; cbv) | (with_reducible refine on_ask (fun g => ?_) (fun g => ?_) <;> (have hc := g) <;> (try simp (disch := omega) [hI, k51, en51, an51, k66, en66, an66, k67, en67, an67, hq0, hq1, -List.length_eq_zero_iff] at hc) <;> (try (exfalso; omega)) <;> (try (first | (revert h; (refine imp_l ?_ (fun h => ?_)); focus (first | exact hc | assumption | omega | (simpa using hc; done))) | (revert h; (refine imp_r ?_ (fun h => ?_)); focus (first | exact hc | assumption | omega | (simpa using hc; done))))) <;> (conv => arg 4; cbv)) | ((with_reducible refine on_must ?_ ?_); (focus ((simp (disch := omega) [hI, k51, en51, an51, k66, en66, an66, k67, en67, an67, hq0, hq1]) <;> (first | omega | assumption | ((repeat' (refine And.intro ?_ ?_)) <;> (first | omega | assumption))))); conv => arg 4; cbv))
  all_goals (first | ((with_reducible have hG : G45_0 _ _ _ _ _ _ := h); unfold G45_0 at hG; (with_reducible refine on_loop ?_); simp only [List.cons_append, List.nil_append]; refine W_norm [4, 5, 6] ?_ hG) | ((subst h); (with_reducible refine on_ret ?_); refine Ended_of rfl ?_))
  all_goals ((conv => lhs; cbv); (try (first | rfl | ((try simp (disch := omega) [hI, k51, en51, an51, k66, en66, an66, k67, en67, an67, hq0, hq1, mapE_append, Ty.encs_append, encs1_I64, encs1_U8, encs1, mapE1, encs_setR, mapE_setR, Ty.nth_encs, tNode_enc, tNode_own]) <;> (first | rfl | omega | (simp; done))))))
theorem go45 (plan : List NodeV) {r : RES} (h : ∀ (w : World) (Xs : Nat → Prop), ((plan.length ≤ 1048576) ∧ (((cellsOk plan) = true) ∧ G45_0 w Xs plan 0 0 r))) : Ok0 Try.prog 45 [(pL tNode).enc plan] r.1 r.2.1 r.2.2 := by
  obtain ⟨I, hI⟩ : ∃ I, I = real := ⟨_, rfl⟩; obtain ⟨K, hK⟩ : ∃ K : FuncId → En, K = fun g => (lk g [(51, en51), (66, en66), (67, en67)]).getD default := ⟨_, rfl⟩; have k51 : K 51 = en51 := (by subst hK; rfl); have k66 : K 66 = en66 := (by subst hK; rfl); have k67 : K 67 = en67 := (by subst hK; rfl); clear hK
  show Ok0 Try.prog 45 [.one (.pv (.sl false 7 (tNode.encs plan)))] _ _ _
  obtain ⟨q0, hq0⟩ : ∃ q, q = (tNode.encs plan) := ⟨_, rfl⟩
  try rw [← hq0]
  refine Ok0_run (Y := (Y45 I K)) xok (tY45 hI k51 k66 k67) Try.func45 rfl rfl rfl 2000 hI fun w Xs => ?_; (conv => arg 4; cbv)
  replace h := h w Xs
  repeat' (first | (have hd := And.left h; replace h := And.right h) | ((with_reducible refine on_eqs ?_ ?_); (focus (with_reducible rfl)); conv => arg 4; cbv) | (with_reducible refine on_both ?_ ?_ <;> (conv => arg 4; cbv)) | (with_reducible refine on_true (by assumption) ?_; conv => arg 4; cbv) | (with_reducible refine on_false (by assumption) ?_; conv => arg 4; cbv) | (with_reducible refine on_ask (fun g => ?_) (fun g => ?_) <;> (have hc := g) <;> (try simp (disch := omega) [hI, k51, en51, an51, k66, en66, an66, k67, en67, an67, hq0, -List.length_eq_zero_iff] at hc) <;> (try (exfalso; omega)) <;> (try (first | (revert h; (refine imp_l ?_ (fun h => ?_)); focus (first | exact hc | assumption | omega | (simpa using hc; done))) | (revert h; (refine imp_r ?_ (fun h => ?_)); focus (first | exact hc | assumption | omega | (simpa using hc; done))))) <;> (conv => arg 4; cbv)) | ((with_reducible refine on_must ?_ ?_); (focus ((simp (disch := omega) [hI, k51, en51, an51, k66, en66, an66, k67, en67, an67, hq0]) <;> (first | omega | assumption | ((repeat' (refine And.intro ?_ ?_)) <;> (first | omega | assumption))))); conv => arg 4; cbv))
  all_goals (first | ((with_reducible have hG : G45_0 _ _ _ _ _ _ := h); unfold G45_0 at hG; (with_reducible refine on_loop ?_); simp only [List.cons_append, List.nil_append]; refine W_norm [4, 5, 6] ?_ hG) | ((subst h); (with_reducible refine on_ret ?_); refine Ended_of rfl ?_))
  all_goals ((conv => lhs; cbv); (try (first | rfl | ((try simp (disch := omega) [hI, k51, en51, an51, k66, en66, an66, k67, en67, an67, hq0, mapE_append, Ty.encs_append, encs1_I64, encs1_U8, encs1, mapE1, encs_setR, mapE_setR, Ty.nth_encs, tNode_enc, tNode_own]) <;> (first | rfl | omega | (simp; done))))))
end Go.Proofs.Try
