/- Contracts. -/
import Derived.Test.YtngefcgbfpelcaaLpro
set_option linter.unusedSimpArgs false
set_option linter.unusedVariables false
namespace Go.Proofs.Try
open Go Go.Aix
set_option maxRecDepth 100000
set_option maxHeartbeats 4000000
set_option linter.unusedSimpArgs false
set_option linter.unusedVariables false
theorem set_I64 (l : List Int) (i : Nat) (x : Int) : real.set (tI64.encs l) i [.sc (.int .i64 x)] = tI64.encs (l.set i x) := (encs_setR tI64 l i x).symm
theorem is_setI {l : List Int} {i j : Nat} {x : Int} (h : j < l.length) : real.isInt .i64 (real.nth (real.set (tI64.encs l) i [.sc (.int .i64 x)]) j 0) = true := by
  rw [set_I64]
  exact tI64_is (by simpa using h)
theorem as_setI (l : List Int) (i j : Nat) (x : Int) : real.asInt (real.nth (real.set (tI64.encs l) i [.sc (.int .i64 x)]) j 0) = nth (l.set i x) j := by
  rw [set_I64]
  exact tI64_rd _ _
theorem ent49 : Enters Try.prog 49 := ⟨Try.f49, Try.func49, by kernel_rfl, by kernel_rfl⟩
def G49_0 (w : World) (Xs : Nat → Prop) (plan : List NodeV) (r0 : List Int) (r1 : List NodeV) (r2 : List Int) (i : Int) (r : RES) : Prop := W Try.prog 49 Try.f49 (Ent0 w Xs) (Back (Ent0 w Xs) r.1 r.2.1 r.2.2) (place (bodyOf Try.f49) [1,1,1,1,0,1,0,0] [])
  ⟨[(0, .one (.pv (.sl false 7 (tNode.encs plan)))), (4, .one (.arr 0 0 r0.length)), (5, .one (.arr 1 0 r1.length)), (6, .one (.arr 2 0 r2.length)), (7, .one (.pv (.sc (.int .i64 i))))], [(0, .row 1 (tI64.encs r0)), (1, .row 7 (mapE tNode_own r1)), (2, .row 1 (tI64.encs r2))], 3⟩
noncomputable def Y49 (I : Ops) (K : FuncId → En) : CallsA := (Tab.calls [(33, false, callVw I (callE I (K 33) sh33)), (72, true, callRd I (callE I (K 72) sh72)), (66, true, callRd I (callE I (K 66) sh66))])
theorem tY49 {I : Ops} (hI : I = real) {K : FuncId → En} (k33 : K 33 = en33) (k72 : K 72 = en72) (k66 : K 66 = en66) : CallsOk Try.prog (Y49 I K) := (TabOk.calls mixed ⟨EntryOk.vw (s33 hI k33) hI, notQuiet, ⟨EntryOk.rd (s72 hI k72) hI, fun _ => callRd_quiet _ _, ⟨EntryOk.rd (s66 hI k66) hI, fun _ => callRd_quiet _ _, trivial⟩⟩⟩)
theorem st49_0 {w : World} {Xs : Nat → Prop} (plan : List NodeV) (r0 : List Int) (r1 : List NodeV) (r2 : List Int) (i : Int) {r : RES} (h : (if i < (plan.length : Int) then ((0 ≤ i ∧ i < (r2.length : Int)) ∧ ((r0.length ≤ 1048576) ∧ (if (decide (i ∈ r0)) = true then G49_0 w Xs plan r0 r1 (r2.set i.toNat (r1.length : Int)) (IntKind.i64.wrap (i + 1)) r else ((0 ≤ i ∧ i < (plan.length : Int)) ∧ (if 0 < readsOf ((nth plan i.toNat).op) then ((0 ≤ (nth plan i.toNat).a ∧ (nth plan i.toNat).a < (r2.length : Int)) ∧ (if 1 < readsOf ((nth plan i.toNat).op) then ((0 ≤ (nth plan i.toNat).b ∧ (nth plan i.toNat).b < (r2.length : Int)) ∧ ((((nth plan i.toNat).cells).length ≤ 17592186044416) ∧ (((r1.length + 1) ≤ 1954687338268) ∧ G49_0 w Xs plan r0 (r1 ++ [(NodeV.mk ((nth plan i.toNat).op) (nth (r2.set i.toNat (r1.length : Int)) (((nth plan i.toNat).a).toNat)) (nth (r2.set i.toNat (r1.length : Int)) (((nth plan i.toNat).b).toNat)) ((nth plan i.toNat).col) ((nth plan i.toNat).test) ((nth plan i.toNat).value) ((nth plan i.toNat).cells))]) (r2.set i.toNat (r1.length : Int)) (IntKind.i64.wrap (i + 1)) r))) else ((((nth plan i.toNat).cells).length ≤ 17592186044416) ∧ (((r1.length + 1) ≤ 1954687338268) ∧ G49_0 w Xs plan r0 (r1 ++ [(NodeV.mk ((nth plan i.toNat).op) (nth (r2.set i.toNat (r1.length : Int)) (((nth plan i.toNat).a).toNat)) ((nth plan i.toNat).b) ((nth plan i.toNat).col) ((nth plan i.toNat).test) ((nth plan i.toNat).value) ((nth plan i.toNat).cells))]) (r2.set i.toNat (r1.length : Int)) (IntKind.i64.wrap (i + 1)) r)))) else (if 1 < readsOf ((nth plan i.toNat).op) then ((0 ≤ (nth plan i.toNat).b ∧ (nth plan i.toNat).b < (r2.length : Int)) ∧ ((((nth plan i.toNat).cells).length ≤ 17592186044416) ∧ (((r1.length + 1) ≤ 1954687338268) ∧ G49_0 w Xs plan r0 (r1 ++ [(NodeV.mk ((nth plan i.toNat).op) ((nth plan i.toNat).a) (nth (r2.set i.toNat (r1.length : Int)) (((nth plan i.toNat).b).toNat)) ((nth plan i.toNat).col) ((nth plan i.toNat).test) ((nth plan i.toNat).value) ((nth plan i.toNat).cells))]) (r2.set i.toNat (r1.length : Int)) (IntKind.i64.wrap (i + 1)) r))) else ((((nth plan i.toNat).cells).length ≤ 17592186044416) ∧ (((r1.length + 1) ≤ 1954687338268) ∧ G49_0 w Xs plan r0 (r1 ++ [(nth plan i.toNat)]) (r2.set i.toNat (r1.length : Int)) (IntKind.i64.wrap (i + 1)) r)))))))) else r = (.tp [(false, [.arr 0 0 r1.length]), (false, [.pv (.sc (.int .i64 (r0.length : Int)))])], [(0, .row 7 (mapE tNode_own r1))], 1))) : G49_0 w Xs plan r0 r1 r2 i r := by
  obtain ⟨I, hI⟩ : ∃ I, I = real := ⟨_, rfl⟩; obtain ⟨K, hK⟩ : ∃ K : FuncId → En, K = fun g => (lk g [(33, en33), (72, en72), (66, en66)]).getD default := ⟨_, rfl⟩; have k33 : K 33 = en33 := (by subst hK; rfl); have k72 : K 72 = en72 := (by subst hK; rfl); have k66 : K 66 = en66 := (by subst hK; rfl); clear hK
  unfold G49_0
  obtain ⟨q0, hq0⟩ : ∃ q, q = (mapE tNode_own r1) := ⟨_, rfl⟩
  try rw [← hq0]
  obtain ⟨q1, hq1⟩ : ∃ q, q = (tNode.encs plan) := ⟨_, rfl⟩
  try rw [← hq1]
  obtain ⟨q2, hq2⟩ : ∃ q, q = (tI64.encs r0) := ⟨_, rfl⟩
  try rw [← hq2]
  obtain ⟨q3, hq3⟩ : ∃ q, q = (tI64.encs r2) := ⟨_, rfl⟩
  try rw [← hq3]
  obtain ⟨q4, hq4⟩ : ∃ q, q = r0.length := ⟨_, rfl⟩
  try rw [← hq4]
  obtain ⟨q5, hq5⟩ : ∃ q, q = r1.length := ⟨_, rfl⟩
  try rw [← hq5]
  obtain ⟨q6, hq6⟩ : ∃ q, q = r2.length := ⟨_, rfl⟩
  try rw [← hq6]
  refine W_go (Y := (Y49 I K)) xok (tY49 hI k33 k72 k66) Try.func49 rfl 2000 _ hI ?_; (conv => arg 4; cbv)
  repeat' (first | (have hd := And.left h; replace h := And.right h) | ((with_reducible refine on_eqs ?_ ?_); (focus (with_reducible rfl)); conv => arg 4; cbv) | (with_reducible refine on_both ?_ ?_ <;> (conv => arg 4; cbv)) | (with_reducible refine on_true (by assumption) ?_; conv => arg 4; cbv) | (with_reducible refine on_false (by assumption) ?_; conv => arg 4; cbv) | (with_reducible refine on_ask (fun g => ?_) (fun g => ?_) <;> (have hc := g) <;> (try simp (disch := omega) [hI, k33, en33, an33, k72, en72, an72, k66, en66, an66, hq0, hq1, hq2, hq3, hq4, hq5, hq6, is_setI, as_setI, -List.length_eq_zero_iff] at hc) <;> (try (exfalso; omega)) <;> (try (first | (revert h; (refine imp_l ?_ (fun h => ?_)); focus (first | exact hc | assumption | omega | (simpa using hc; done))) | (revert h; (refine imp_r ?_ (fun h => ?_)); focus (first | exact hc | assumption | omega | (simpa using hc; done))))) <;> (conv => arg 4; cbv)) | ((with_reducible refine on_must ?_ ?_); (focus ((simp (disch := omega) [hI, k33, en33, an33, k72, en72, an72, k66, en66, an66, hq0, hq1, hq2, hq3, hq4, hq5, hq6, is_setI, as_setI]) <;> (first | omega | assumption | ((repeat' (refine And.intro ?_ ?_)) <;> (first | omega | assumption))))); conv => arg 4; cbv))
  all_goals (first | ((with_reducible have hG : G49_0 _ _ _ _ _ _ _ _ := h); unfold G49_0 at hG; (with_reducible refine on_loop ?_); simp only [List.cons_append, List.nil_append]; refine W_norm [0, 4, 5, 6, 7] ?_ hG) | ((subst h); (with_reducible refine on_ret ?_); refine Ended_of rfl ?_))
  all_goals ((conv => lhs; cbv); (try (first | rfl | ((try simp (disch := omega) [hI, k33, en33, an33, k72, en72, an72, k66, en66, an66, hq0, hq1, hq2, hq3, hq4, hq5, hq6, is_setI, as_setI, mapE_append, Ty.encs_append, encs1_I64, encs1_U8, encs1, mapE1, rep_I64, encs_setR, tI64_enc]) <;> (first | rfl | omega | (simp; done))))))
theorem go49 (plan : List NodeV) {r : RES} (h : ∀ (w : World) (Xs : Nat → Prop), ((plan.length ≤ 100) ∧ ((0 ≤ (plan.length : Int) ∧ (plan.length : Int) ≤ 17592186044416) ∧ G49_0 w Xs plan (deadL plan) ([]) (List.replicate plan.length 0) 0 r))) : Ok0 Try.prog 49 [(pL tNode).enc plan] r.1 r.2.1 r.2.2 := by
  obtain ⟨I, hI⟩ : ∃ I, I = real := ⟨_, rfl⟩; obtain ⟨K, hK⟩ : ∃ K : FuncId → En, K = fun g => (lk g [(33, en33), (72, en72), (66, en66)]).getD default := ⟨_, rfl⟩; have k33 : K 33 = en33 := (by subst hK; rfl); have k72 : K 72 = en72 := (by subst hK; rfl); have k66 : K 66 = en66 := (by subst hK; rfl); clear hK
  show Ok0 Try.prog 49 [.one (.pv (.sl false 7 (tNode.encs plan)))] _ _ _
  obtain ⟨q0, hq0⟩ : ∃ q, q = (tNode.encs plan) := ⟨_, rfl⟩
  try rw [← hq0]
  refine Ok0_run (Y := (Y49 I K)) xok (tY49 hI k33 k72 k66) Try.func49 rfl rfl rfl 2000 hI fun w Xs => ?_; (conv => arg 4; cbv)
  replace h := h w Xs
  repeat' (first | (have hd := And.left h; replace h := And.right h) | ((with_reducible refine on_eqs ?_ ?_); (focus (with_reducible rfl)); conv => arg 4; cbv) | (with_reducible refine on_both ?_ ?_ <;> (conv => arg 4; cbv)) | (with_reducible refine on_true (by assumption) ?_; conv => arg 4; cbv) | (with_reducible refine on_false (by assumption) ?_; conv => arg 4; cbv) | (with_reducible refine on_ask (fun g => ?_) (fun g => ?_) <;> (have hc := g) <;> (try simp (disch := omega) [hI, k33, en33, an33, k72, en72, an72, k66, en66, an66, hq0, is_setI, as_setI, -List.length_eq_zero_iff] at hc) <;> (try (exfalso; omega)) <;> (try (first | (revert h; (refine imp_l ?_ (fun h => ?_)); focus (first | exact hc | assumption | omega | (simpa using hc; done))) | (revert h; (refine imp_r ?_ (fun h => ?_)); focus (first | exact hc | assumption | omega | (simpa using hc; done))))) <;> (conv => arg 4; cbv)) | ((with_reducible refine on_must ?_ ?_); (focus ((simp (disch := omega) [hI, k33, en33, an33, k72, en72, an72, k66, en66, an66, hq0, is_setI, as_setI]) <;> (first | omega | assumption | ((repeat' (refine And.intro ?_ ?_)) <;> (first | omega | assumption))))); conv => arg 4; cbv))
  all_goals (first | ((with_reducible have hG : G49_0 _ _ _ _ _ _ _ _ := h); unfold G49_0 at hG; (with_reducible refine on_loop ?_); simp only [List.cons_append, List.nil_append]; refine W_norm [0, 4, 5, 6, 7] ?_ hG) | ((subst h); (with_reducible refine on_ret ?_); refine Ended_of rfl ?_))
  all_goals ((conv => lhs; cbv); (try (first | rfl | ((try simp (disch := omega) [hI, k33, en33, an33, k72, en72, an72, k66, en66, an66, hq0, is_setI, as_setI, mapE_append, Ty.encs_append, encs1_I64, encs1_U8, encs1, mapE1, rep_I64, encs_setR, tI64_enc]) <;> (first | rfl | omega | (simp; done))))))
end Go.Proofs.Try
