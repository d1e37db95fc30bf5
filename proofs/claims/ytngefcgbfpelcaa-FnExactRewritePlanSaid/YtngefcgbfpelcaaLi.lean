/- Contracts. -/
import Derived.Test.YtngefcgbfpelcaaLh
set_option linter.unusedSimpArgs false
set_option linter.unusedVariables false
namespace Go.Proofs.Try
open Go Go.Aix
set_option maxRecDepth 100000
set_option maxHeartbeats 4000000
set_option linter.unusedSimpArgs false
set_option linter.unusedVariables false
def cellsOk (plan : List NodeV) : Bool := plan.all fun e => decide (e.cells.length ≤ 1048576)
theorem cellsOk_nth {plan : List NodeV} (h : cellsOk plan = true) {i : Nat} (hi : i < plan.length) : (nth plan i).cells.length ≤ 1048576 := by
  unfold cellsOk at h
  simp only [List.all_eq_true, decide_eq_true_eq] at h
  exact h _ (nth_mem hi)
theorem ent51 : Enters Try.prog 51 := ⟨Try.f51, Try.func51, by kernel_rfl, by kernel_rfl⟩
def G51_0 (w : World) (Xs : Nat → Prop) (m0 : Nat) (r0 : List NodeV) (i : Int) (r : RES) : Prop := W Try.prog 51 Try.f51 (Ent0 w Xs) (Back (Ent0 w Xs) r.1 r.2.1 r.2.2) (place (bodyOf Try.f51) [1,1,0,1,0,0] [])
  ⟨[(3, .one (.arr 0 0 r0.length)), (4, .one (.pv (.sc (.int .i64 i))))], [(0, .row 7 (mixE tNode_own tNode.enc r0 m0))], 1⟩
theorem st51_0 {w : World} {Xs : Nat → Prop} (m0 : Nat) (r0 : List NodeV) (i : Int) {r : RES} (h : (if i < (r0.length : Int) then ((0 ≤ i ∧ i < (r0.length : Int)) ∧ ((i.toNat = m0) ∧ ((((nth r0 m0).cells).length ≤ 17592186044416) ∧ G51_0 w Xs (m0 + 1) r0 (IntKind.i64.wrap (i + 1)) r))) else r = (.one (.arr 0 0 r0.length), [(0, .row 7 (mixE tNode_own tNode.enc r0 m0))], 1))) : G51_0 w Xs m0 r0 i r := by
  obtain ⟨I, hI⟩ : ∃ I, I = real := ⟨_, rfl⟩
  unfold G51_0
  obtain ⟨q0, hq0⟩ : ∃ q, q = (mixE tNode_own tNode.enc r0 m0) := ⟨_, rfl⟩
  try rw [← hq0]
  obtain ⟨q1, hq1⟩ : ∃ q, q = r0.length := ⟨_, rfl⟩
  try rw [← hq1]
  refine W_go (Y := (Tab.calls [])) xok (TabOk.calls mixed trivial) Try.func51 rfl 2000 _ hI ?_; (conv => arg 4; cbv)
  repeat' (first | (have hd := And.left h; replace h := And.right h) | ((with_reducible refine on_eqs ?_ ?_); (focus (with_reducible rfl)); conv => arg 4; cbv) | (with_reducible refine on_both ?_ ?_ <;> (conv => arg 4; cbv)) | (with_reducible refine on_true (by assumption) ?_; conv => arg 4; cbv) | (with_reducible refine on_false (by assumption) ?_; conv => arg 4; cbv) | (with_reducible refine on_ask (fun g => ?_) (fun g => ?_) <;> (have hc := g) <;> (try simp (disch := omega) [hI, hq0, hq1, mixE_nthN, -List.length_eq_zero_iff] at hc) <;> (try (exfalso; omega)) <;> (try (first | (revert h; (refine imp_l ?_ (fun h => ?_)); focus (first | exact hc | assumption | omega | (simpa using hc; done))) | (revert h; (refine imp_r ?_ (fun h => ?_)); focus (first | exact hc | assumption | omega | (simpa using hc; done))))) <;> (conv => arg 4; cbv)) | ((with_reducible refine on_must ?_ ?_); (focus ((simp (disch := omega) [hI, hq0, hq1, mixE_nthN]) <;> (first | omega | assumption | ((repeat' (refine And.intro ?_ ?_)) <;> (first | omega | assumption))))); conv => arg 4; cbv))
  all_goals (first | ((with_reducible have hG : G51_0 _ _ _ _ _ _ := h); unfold G51_0 at hG; (with_reducible refine on_loop ?_); simp only [List.cons_append, List.nil_append]; refine W_norm [3, 4] ?_ hG) | ((subst h); (with_reducible refine on_ret ?_); refine Ended_of rfl ?_))
  all_goals ((conv => lhs; cbv); (try (first | rfl | ((try simp (disch := omega) [hI, hq0, hq1, mixE_nthN, mapE_append, Ty.encs_append, encs1_I64, encs1_U8, encs1, mapE1]) <;> (first | rfl | omega | (simp; done))) | (simp (disch := omega) [hI, hq0, hq1, mixE_nthN, mapE_append, Ty.encs_append, encs1_I64, encs1_U8, encs1, mapE1, mixE_nthN, mixE_setN, mixE_succ, Ty.nth_encs, tNode_enc, tNode_own]; done) | (simp (disch := omega) [hI, hq0, hq1, mixE_nthN, mapE_append, Ty.encs_append, encs1_I64, encs1_U8, encs1, mapE1, mixE_nthN, mixE_setN, mixE_same, Ty.nth_encs, tNode_enc, tNode_own]; done))))
theorem go51 (plan : List NodeV) {r : RES} (h : ∀ (w : World) (Xs : Nat → Prop), ((plan.length ≤ 1954687338268) ∧ G51_0 w Xs 0 plan 0 r)) : Ok0 Try.prog 51 [(pL tNode).enc plan] r.1 r.2.1 r.2.2 := by
  obtain ⟨I, hI⟩ : ∃ I, I = real := ⟨_, rfl⟩
  show Ok0 Try.prog 51 [.one (.pv (.sl false 7 (tNode.encs plan)))] _ _ _
  obtain ⟨q0, hq0⟩ : ∃ q, q = (tNode.encs plan) := ⟨_, rfl⟩
  try rw [← hq0]
  refine Ok0_run (Y := (Tab.calls [])) xok (TabOk.calls mixed trivial) Try.func51 rfl rfl rfl 2000 hI fun w Xs => ?_; (conv => arg 4; cbv)
  replace h := h w Xs
  repeat' (first | (have hd := And.left h; replace h := And.right h) | ((with_reducible refine on_eqs ?_ ?_); (focus (with_reducible rfl)); conv => arg 4; cbv) | (with_reducible refine on_both ?_ ?_ <;> (conv => arg 4; cbv)) | (with_reducible refine on_true (by assumption) ?_; conv => arg 4; cbv) | (with_reducible refine on_false (by assumption) ?_; conv => arg 4; cbv) | (with_reducible refine on_ask (fun g => ?_) (fun g => ?_) <;> (have hc := g) <;> (try simp (disch := omega) [hI, hq0, mixE_nthN, -List.length_eq_zero_iff] at hc) <;> (try (exfalso; omega)) <;> (try (first | (revert h; (refine imp_l ?_ (fun h => ?_)); focus (first | exact hc | assumption | omega | (simpa using hc; done))) | (revert h; (refine imp_r ?_ (fun h => ?_)); focus (first | exact hc | assumption | omega | (simpa using hc; done))))) <;> (conv => arg 4; cbv)) | ((with_reducible refine on_must ?_ ?_); (focus ((simp (disch := omega) [hI, hq0, mixE_nthN]) <;> (first | omega | assumption | ((repeat' (refine And.intro ?_ ?_)) <;> (first | omega | assumption))))); conv => arg 4; cbv))
  all_goals (first | ((with_reducible have hG : G51_0 _ _ _ _ _ _ := h); unfold G51_0 at hG; (with_reducible refine on_loop ?_); simp only [List.cons_append, List.nil_append]; refine W_norm [3, 4] ?_ hG) | ((subst h); (with_reducible refine on_ret ?_); refine Ended_of rfl ?_))
  all_goals ((conv => lhs; cbv); (try (first | rfl | ((try simp (disch := omega) [hI, hq0, mixE_nthN, mapE_append, Ty.encs_append, encs1_I64, encs1_U8, encs1, mapE1]) <;> (first | rfl | omega | (simp; done))) | (simp (disch := omega) [hI, hq0, mixE_nthN, mapE_append, Ty.encs_append, encs1_I64, encs1_U8, encs1, mapE1, mixE_nthN, mixE_setN, mixE_succ, Ty.nth_encs, tNode_enc, tNode_own]; done) | (simp (disch := omega) [hI, hq0, mixE_nthN, mapE_append, Ty.encs_append, encs1_I64, encs1_U8, encs1, mapE1, mixE_nthN, mixE_setN, mixE_same, Ty.nth_encs, tNode_enc, tNode_own]; done))))
theorem lm_l8Nodes {w : World} {Xs : Nat → Prop} (l : List NodeV) (hl : l.length ≤ 1048576) (hc : cellsOk l = true) : ∀ k i : Nat, k + i = l.length → G51_0 w Xs i l i ((.one (.arr 0 0 l.length), [(0, .row 7 (mapE tNode_own l))], 1) : RES) := by
  intro k
  induction k with
  | zero =>
    intro i hk
    apply st51_0
    rw [if_neg (by omega), mixE_done _ _ (by omega)]
  | succ k ih =>
    intro i hk
    apply st51_0
    have := cellsOk_nth hc (i := i) (by omega)
    rw [if_pos (by omega), wsucc (by omega)]
    exact ⟨by omega, by omega, by omega, ih (i + 1) (by omega)⟩

def sh51 : Shp := fun I i b l s => .ok (.one (.arr 0 0 (I.len (l 0))), [(0, .row 7 (l 0))], 1)
def an51 : An (List NodeV × Unit) where
  pre t := decide (t.1.length ≤ 1048576) && (cellsOk t.1)
  l _ t := (tNode.encs t.1)
noncomputable def en51 : En := mkE (parsC (pL tNode) pars0) an51
theorem ok51 (plan : List NodeV) (p0 : plan.length ≤ 1048576) (p1 : cellsOk plan = true) : Ok0 Try.prog 51 [(pL tNode).enc plan] ((.one (.arr 0 0 plan.length), [(0, .row 7 (tNode.encs plan))], 1) : RES).1 ((.one (.arr 0 0 plan.length), [(0, .row 7 (tNode.encs plan))], 1) : RES).2.1 ((.one (.arr 0 0 plan.length), [(0, .row 7 (tNode.encs plan))], 1) : RES).2.2 := by
  have k : Ok0 Try.prog 51 [(pL tNode).enc plan] (.one (.arr 0 0 plan.length)) [(0, .row 7 (mapE tNode_own plan))] 1 := go51 plan fun w Xs => ⟨by omega, lm_l8Nodes plan p0 p1 plan.length 0 rfl⟩
  have k := k.down1
  rw [show downs (mapE tNode_own plan) = tNode.encs plan from tNode.downs_own plan] at k
  exact k
theorem s51 {I : Ops} (hI : I = real) {e : En} (he : e = en51) : Sound Try.prog 51 (callE I e sh51) := by
  refine Sound.mkR ent51 hI ?_ he
  rintro ⟨plan, ⟨⟩⟩ hp r σ n e
  have hp : (decide (plan.length ≤ 1048576) && (cellsOk plan)) = true := hp
  try simp only [Bool.and_eq_true, decide_eq_true_eq] at hp
  obtain ⟨p0, p1⟩ := hp
  have e : (R.ok ((.one (.arr 0 0 plan.length), [(0, .row 7 (tNode.encs plan))], 1) : RES) : R RES).val = some (r, σ, n) := by
    rw [← e]
    simp [sh51, an51]
  cases e
  exact ok51 plan p0 p1
theorem ent63 : Enters Try.prog 63 := ⟨Try.f63, Try.func63, by kernel_rfl, by kernel_rfl⟩
def G63_0 (w : World) (Xs : Nat → Prop) (plan : List NodeV) (m0 : Nat) (r0 : List NodeV) (x10 : Int) (r : RES) : Prop := W Try.prog 63 Try.f63 (Ent0 w Xs) (Back (Ent0 w Xs) r.1 r.2.1 r.2.2) (place (bodyOf Try.f63) [1,1,0,1,0,0] [])
  ⟨[(3, .one (.arr 0 0 r0.length)), (8, .one (.arr 0 0 r0.length)), (9, .one (.pv (.sc (.int .i64 (plan.length : Int))))), (10, .one (.pv (.sc (.int .i64 x10))))], [(0, .row 7 (mixE tNode_own tNode.enc r0 m0))], 1⟩
noncomputable def Y63 (I : Ops) (K : FuncId → En) : CallsA := (Tab.calls [(64, false, callIce I (callE I (K 64) sh64)), (90, false, callIce I (callE I (K 90) sh90))])
theorem tY63 {I : Ops} (hI : I = real) {K : FuncId → En} (k64 : K 64 = en64) (k90 : K 90 = en90) : CallsOk Try.prog (Y63 I K) := (TabOk.calls mixed ⟨EntryOk.own (s64 hI k64) hI, notQuiet, ⟨EntryOk.own (s90 hI k90) hI, notQuiet, trivial⟩⟩)
theorem st63_0 {w : World} {Xs : Nat → Prop} (plan : List NodeV) (m0 : Nat) (r0 : List NodeV) (x10 : Int) {r : RES} (h : (if x10 < (plan.length : Int) then ((0 ≤ x10 ∧ x10 < (r0.length : Int)) ∧ ((x10.toNat = m0) ∧ ((((nth r0 m0).cells).length ≤ 1048576) ∧ (if (decide (((nth r0 m0).cells) = [])) = true then G63_0 w Xs plan (m0 + 1) (r0.set m0 (NodeV.mk ((nth r0 m0).op) ((nth r0 m0).a) ((nth r0 m0).b) ((nth r0 m0).col) ((nth r0 m0).test) ((nth r0 m0).value) ([]))) (IntKind.i64.wrap (x10 + 1)) r else G63_0 w Xs plan (m0 + 1) r0 (IntKind.i64.wrap (x10 + 1)) r)))) else r = (.one (.arr 0 0 r0.length), [(0, .row 7 (mixE tNode_own tNode.enc r0 m0))], 1))) : G63_0 w Xs plan m0 r0 x10 r := by
  obtain ⟨I, hI⟩ : ∃ I, I = real := ⟨_, rfl⟩; obtain ⟨K, hK⟩ : ∃ K : FuncId → En, K = fun g => (lk g [(64, en64), (90, en90)]).getD default := ⟨_, rfl⟩; have k64 : K 64 = en64 := (by subst hK; rfl); have k90 : K 90 = en90 := (by subst hK; rfl); clear hK
  unfold G63_0
  obtain ⟨q0, hq0⟩ : ∃ q, q = (mixE tNode_own tNode.enc r0 m0) := ⟨_, rfl⟩
  try rw [← hq0]
  obtain ⟨q1, hq1⟩ : ∃ q, q = (plan.length : Int) := ⟨_, rfl⟩
  try rw [← hq1]
  obtain ⟨q2, hq2⟩ : ∃ q, q = r0.length := ⟨_, rfl⟩
  try rw [← hq2]
  refine W_go (Y := (Y63 I K)) xok (tY63 hI k64 k90) Try.func63 rfl 2000 _ hI ?_; (conv => arg 4; cbv)
  repeat' (first | (have hd := And.left h; replace h := And.right h) | ((with_reducible refine on_eqs ?_ ?_); (focus (with_reducible rfl)); conv => arg 4; cbv) | (with_reducible refine on_both ?_ ?_ <;> (conv => arg 4; cbv)) | (with_reducible refine on_true (by assumption) ?_; conv => arg 4; cbv) | (with_reducible refine on_false (by assumption) ?_; conv => arg 4; cbv) | (with_reducible refine on_ask (fun g => ?_) (fun g => ?_) <;> (have hc := g) <;> (try simp (disch := omega) [hI, k64, en64, an64, k90, en90, an90, hq0, hq1, hq2, mixE_nthN, -List.length_eq_zero_iff] at hc) <;> (try (exfalso; omega)) <;> (try (first | (revert h; (refine imp_l ?_ (fun h => ?_)); focus (first | exact hc | assumption | omega | (simpa using hc; done))) | (revert h; (refine imp_r ?_ (fun h => ?_)); focus (first | exact hc | assumption | omega | (simpa using hc; done))))) <;> (conv => arg 4; cbv)) | ((with_reducible refine on_must ?_ ?_); (focus ((simp (disch := omega) [hI, k64, en64, an64, k90, en90, an90, hq0, hq1, hq2, mixE_nthN]) <;> (first | omega | assumption | ((repeat' (refine And.intro ?_ ?_)) <;> (first | omega | assumption))))); conv => arg 4; cbv))
  all_goals (first | ((with_reducible have hG : G63_0 _ _ _ _ _ _ _ := h); unfold G63_0 at hG; (with_reducible refine on_loop ?_); simp only [List.cons_append, List.nil_append]; refine W_norm [3, 8, 9, 10] ?_ hG) | ((subst h); (with_reducible refine on_ret ?_); refine Ended_of rfl ?_))
  all_goals ((conv => lhs; cbv); (try (first | rfl | ((try simp (disch := omega) [hI, k64, en64, an64, k90, en90, an90, hq0, hq1, hq2, mixE_nthN, mapE_append, Ty.encs_append, encs1_I64, encs1_U8, encs1, mapE1]) <;> (first | rfl | omega | (simp; done))) | (simp (disch := omega) [hI, k64, en64, an64, k90, en90, an90, hq0, hq1, hq2, mixE_nthN, mapE_append, Ty.encs_append, encs1_I64, encs1_U8, encs1, mapE1, mixE_nthN, mixE_setN, mixE_succ, Ty.nth_encs, tNode_enc, tNode_own]; done) | (simp (disch := omega) [hI, k64, en64, an64, k90, en90, an90, hq0, hq1, hq2, mixE_nthN, mapE_append, Ty.encs_append, encs1_I64, encs1_U8, encs1, mapE1, mixE_nthN, mixE_setN, mixE_same, Ty.nth_encs, tNode_enc, tNode_own]; done))))
theorem go63 (plan : List NodeV) {r : RES} (h : ∀ (w : World) (Xs : Nat → Prop), ((0 < plan.length ∧ plan.length ≤ 1048576) ∧ G63_0 w Xs plan 0 plan 0 r)) : Ok0 Try.prog 63 [(pL tNode).enc plan] r.1 r.2.1 r.2.2 := by
  obtain ⟨I, hI⟩ : ∃ I, I = real := ⟨_, rfl⟩; obtain ⟨K, hK⟩ : ∃ K : FuncId → En, K = fun g => (lk g [(64, en64), (90, en90)]).getD default := ⟨_, rfl⟩; have k64 : K 64 = en64 := (by subst hK; rfl); have k90 : K 90 = en90 := (by subst hK; rfl); clear hK
  show Ok0 Try.prog 63 [.one (.pv (.sl false 7 (tNode.encs plan)))] _ _ _
  obtain ⟨q0, hq0⟩ : ∃ q, q = (tNode.encs plan) := ⟨_, rfl⟩
  try rw [← hq0]
  refine Ok0_run (Y := (Y63 I K)) xok (tY63 hI k64 k90) Try.func63 rfl rfl rfl 2000 hI fun w Xs => ?_; (conv => arg 4; cbv)
  replace h := h w Xs
  repeat' (first | (have hd := And.left h; replace h := And.right h) | ((with_reducible refine on_eqs ?_ ?_); (focus (with_reducible rfl)); conv => arg 4; cbv) | (with_reducible refine on_both ?_ ?_ <;> (conv => arg 4; cbv)) | (with_reducible refine on_true (by assumption) ?_; conv => arg 4; cbv) | (with_reducible refine on_false (by assumption) ?_; conv => arg 4; cbv) | (with_reducible refine on_ask (fun g => ?_) (fun g => ?_) <;> (have hc := g) <;> (try simp (disch := omega) [hI, k64, en64, an64, k90, en90, an90, hq0, mixE_nthN, -List.length_eq_zero_iff] at hc) <;> (try (exfalso; omega)) <;> (try (first | (revert h; (refine imp_l ?_ (fun h => ?_)); focus (first | exact hc | assumption | omega | (simpa using hc; done))) | (revert h; (refine imp_r ?_ (fun h => ?_)); focus (first | exact hc | assumption | omega | (simpa using hc; done))))) <;> (conv => arg 4; cbv)) | ((with_reducible refine on_must ?_ ?_); (focus ((simp (disch := omega) [hI, k64, en64, an64, k90, en90, an90, hq0, mixE_nthN]) <;> (first | omega | assumption | ((repeat' (refine And.intro ?_ ?_)) <;> (first | omega | assumption))))); conv => arg 4; cbv))
  all_goals (first | ((with_reducible have hG : G63_0 _ _ _ _ _ _ _ := h); unfold G63_0 at hG; (with_reducible refine on_loop ?_); simp only [List.cons_append, List.nil_append]; refine W_norm [3, 8, 9, 10] ?_ hG) | ((subst h); (with_reducible refine on_ret ?_); refine Ended_of rfl ?_))
  all_goals ((conv => lhs; cbv); (try (first | rfl | ((try simp (disch := omega) [hI, k64, en64, an64, k90, en90, an90, hq0, mixE_nthN, mapE_append, Ty.encs_append, encs1_I64, encs1_U8, encs1, mapE1]) <;> (first | rfl | omega | (simp; done))) | (simp (disch := omega) [hI, k64, en64, an64, k90, en90, an90, hq0, mixE_nthN, mapE_append, Ty.encs_append, encs1_I64, encs1_U8, encs1, mapE1, mixE_nthN, mixE_setN, mixE_succ, Ty.nth_encs, tNode_enc, tNode_own]; done) | (simp (disch := omega) [hI, k64, en64, an64, k90, en90, an90, hq0, mixE_nthN, mapE_append, Ty.encs_append, encs1_I64, encs1_U8, encs1, mapE1, mixE_nthN, mixE_setN, mixE_same, Ty.nth_encs, tNode_enc, tNode_own]; done))))
theorem nil_eta {x : NodeV} (h : x.cells = []) : NodeV.mk x.op x.a x.b x.col x.test x.value [] = x := by obtain ⟨a, b, c, d, e, f, g⟩ := x; simp at h; subst h; rfl
theorem lm_copied {w : World} {Xs : Nat → Prop} (plan l : List NodeV) (hp : plan.length = l.length) (hl : l.length ≤ 1048576) (hc : cellsOk l = true) : ∀ k i : Nat, k + i = l.length → G63_0 w Xs plan i l i ((.one (.arr 0 0 l.length), [(0, .row 7 (mapE tNode_own l))], 1) : RES) := by
  intro k
  induction k with
  | zero =>
    intro i hk
    apply st63_0
    rw [if_neg (by omega), mixE_done _ _ (by omega)]
  | succ k ih =>
    intro i hk
    apply st63_0
    have := cellsOk_nth hc (i := i) (by omega)
    rw [if_pos (by omega), wsucc (by omega)]
    refine ⟨by omega, by omega, by omega, if_go (fun h => ?_) (fun h => ih (i + 1) (by omega))⟩
    rw [nil_eta (by simpa using h), set_nth (by omega)]
    exact ih (i + 1) (by omega)

def sh63 : Shp := fun I i b l s => .ok (.one (.arr 0 0 (I.len (l 0))), [(0, .row 7 (l 0))], 1)
def an63 : An (List NodeV × Unit) where
  pre t := decide (0 < t.1.length ∧ t.1.length ≤ 1048576) && (cellsOk t.1)
  l _ t := (mapE tNode_own t.1)
noncomputable def en63 : En := mkE (parsC (pL tNode) pars0) an63
theorem ok63 (plan : List NodeV) (p0 : 0 < plan.length ∧ plan.length ≤ 1048576) (p1 : cellsOk plan = true) : Ok0 Try.prog 63 [(pL tNode).enc plan] ((.one (.arr 0 0 plan.length), [(0, .row 7 (mapE tNode_own plan))], 1) : RES).1 ((.one (.arr 0 0 plan.length), [(0, .row 7 (mapE tNode_own plan))], 1) : RES).2.1 ((.one (.arr 0 0 plan.length), [(0, .row 7 (mapE tNode_own plan))], 1) : RES).2.2 := by
  exact go63 plan fun w Xs => ⟨p0, lm_copied plan plan rfl p0.2 p1 plan.length 0 rfl⟩
theorem s63 {I : Ops} (hI : I = real) {e : En} (he : e = en63) : Sound Try.prog 63 (callE I e sh63) := by
  refine Sound.mkR ent63 hI ?_ he
  rintro ⟨plan, ⟨⟩⟩ hp r σ n e
  have hp : (decide (0 < plan.length ∧ plan.length ≤ 1048576) && (cellsOk plan)) = true := hp
  try simp only [Bool.and_eq_true, decide_eq_true_eq] at hp
  obtain ⟨p0, p1⟩ := hp
  have e : (R.ok ((.one (.arr 0 0 plan.length), [(0, .row 7 (mapE tNode_own plan))], 1) : RES) : R RES).val = some (r, σ, n) := by
    rw [← e]
    simp [sh63, an63]
  cases e
  exact ok63 plan p0 p1
end Go.Proofs.Try
