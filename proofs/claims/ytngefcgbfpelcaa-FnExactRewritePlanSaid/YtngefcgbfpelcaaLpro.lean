/- Contracts. -/
import Derived.Test.YtngefcgbfpelcaaLprn
set_option linter.unusedSimpArgs false
set_option linter.unusedVariables false
namespace Go.Proofs.Try
open Go Go.Aix
set_option maxRecDepth 100000
set_option maxHeartbeats 4000000
set_option linter.unusedSimpArgs false
set_option linter.unusedVariables false
theorem tI64_enc (x : Int) : tI64.enc x = [.sc (.int .i64 x)] := rfl
theorem rep_I64 (n : Nat) : real.rep n [.sc (.int .i64 0)] = tI64.encs (List.replicate n 0) := by
  show List.replicate n _ = _
  induction n with
  | zero => rfl
  | succ n ih => rw [List.replicate_succ, ih, List.replicate_succ]; rfl
theorem ent50 : Enters Try.prog 50 := ⟨Try.f50, Try.func50, by kernel_rfl, by kernel_rfl⟩
def G50_0 (w : World) (Xs : Nat → Prop) (plan : List NodeV) (r0 : List Int) (r1 : List Int) (r2 : List NodeV) (x17 : Int) (r : RES) : Prop := W Try.prog 50 Try.f50 (Ent0 w Xs) (Back (Ent0 w Xs) r.1 r.2.1 r.2.2) (place (bodyOf Try.f50) [1,1,0,1,0,0] [])
  ⟨[(4, .one (.arr 0 0 r0.length)), (5, .one (.arr 1 0 r1.length)), (6, .one (.arr 2 0 r2.length)), (15, .one (.pv (.sl false 7 (tNode.encs plan)))), (16, .one (.pv (.sc (.int .i64 (plan.length : Int))))), (17, .one (.pv (.sc (.int .i64 x17))))], [(0, .row 1 (tI64.encs r0)), (1, .row 1 (tI64.encs r1)), (2, .row 7 (tNode.encs r2))], 3⟩
noncomputable def Y50 (I : Ops) (K : FuncId → En) : CallsA := (Tab.calls [(36, false, callVw I (callE I (K 36) sh36)), (73, true, callRd I (callE I (K 73) sh73)), (69, true, callRd I (inl X I (Tab.calls []) Try.f69)), (74, true, callRd I (inl X I (Tab.calls []) Try.f74)), (75, true, callRd I (inl X I (Tab.calls []) Try.f75))])
theorem tY50 {I : Ops} (hI : I = real) {K : FuncId → En} (k36 : K 36 = en36) (k73 : K 73 = en73) : CallsOk Try.prog (Y50 I K) := (TabOk.calls mixed ⟨EntryOk.vw (s36 hI k36) hI, notQuiet, ⟨EntryOk.rd (s73 hI k73) hI, fun _ => callRd_quiet _ _, ⟨EntryOk.rd (s69 hI) hI, fun _ => callRd_quiet _ _, ⟨EntryOk.rd (s74 hI) hI, fun _ => callRd_quiet _ _, ⟨EntryOk.rd (s75 hI) hI, fun _ => callRd_quiet _ _, trivial⟩⟩⟩⟩⟩)
theorem st50_0 {w : World} {Xs : Nat → Prop} (plan : List NodeV) (r0 : List Int) (r1 : List Int) (r2 : List NodeV) (x17 : Int) {r : RES} (h : (if x17 < (plan.length : Int) then ((0 ≤ x17 ∧ x17 < (plan.length : Int)) ∧ ((r0.length ≤ 1048576) ∧ (if (decide (x17 ∈ r0)) = true then G50_0 w Xs plan r0 r1 r2 (IntKind.i64.wrap (x17 + 1)) r else (if (nth plan x17.toNat).op = 1 then ((0 ≤ x17 ∧ x17 < (r1.length : Int)) ∧ (((r2.length + 1) ≤ 1954687338268) ∧ G50_0 w Xs plan r0 (r1.set x17.toNat (r2.length : Int)) (r2 ++ [(nth plan x17.toNat)]) (IntKind.i64.wrap (x17 + 1)) r)) else ((0 ≤ (nth plan x17.toNat).a ∧ (nth plan x17.toNat).a < (r1.length : Int)) ∧ (if (nth plan x17.toNat).op = 4 then ((0 ≤ (nth plan x17.toNat).b ∧ (nth plan x17.toNat).b < (r1.length : Int)) ∧ ((0 ≤ x17 ∧ x17 < (r1.length : Int)) ∧ (((r2.length + 1) ≤ 1954687338268) ∧ G50_0 w Xs plan r0 (r1.set x17.toNat (r2.length : Int)) (r2 ++ [(NodeV.mk ((nth plan x17.toNat).op) (nth r1 (((nth plan x17.toNat).a).toNat)) (nth r1 (((nth plan x17.toNat).b).toNat)) ((nth plan x17.toNat).col) ((nth plan x17.toNat).test) ((nth plan x17.toNat).value) ((nth plan x17.toNat).cells))]) (IntKind.i64.wrap (x17 + 1)) r))) else (if (nth plan x17.toNat).op = 6 then ((0 ≤ (nth plan x17.toNat).b ∧ (nth plan x17.toNat).b < (r1.length : Int)) ∧ ((0 ≤ x17 ∧ x17 < (r1.length : Int)) ∧ (((r2.length + 1) ≤ 1954687338268) ∧ G50_0 w Xs plan r0 (r1.set x17.toNat (r2.length : Int)) (r2 ++ [(NodeV.mk ((nth plan x17.toNat).op) (nth r1 (((nth plan x17.toNat).a).toNat)) (nth r1 (((nth plan x17.toNat).b).toNat)) ((nth plan x17.toNat).col) ((nth plan x17.toNat).test) ((nth plan x17.toNat).value) ((nth plan x17.toNat).cells))]) (IntKind.i64.wrap (x17 + 1)) r))) else ((0 ≤ x17 ∧ x17 < (r1.length : Int)) ∧ (((r2.length + 1) ≤ 1954687338268) ∧ G50_0 w Xs plan r0 (r1.set x17.toNat (r2.length : Int)) (r2 ++ [(NodeV.mk ((nth plan x17.toNat).op) (nth r1 (((nth plan x17.toNat).a).toNat)) ((nth plan x17.toNat).b) ((nth plan x17.toNat).col) ((nth plan x17.toNat).test) ((nth plan x17.toNat).value) ((nth plan x17.toNat).cells))]) (IntKind.i64.wrap (x17 + 1)) r))))))))) else r = (.tp [(false, [.arr 0 0 r2.length]), (false, [.pv (.sc (.int .i64 (r0.length : Int)))])], [(0, .row 7 (tNode.encs r2))], 1))) : G50_0 w Xs plan r0 r1 r2 x17 r := by
  obtain ⟨I, hI⟩ : ∃ I, I = real := ⟨_, rfl⟩; obtain ⟨K, hK⟩ : ∃ K : FuncId → En, K = fun g => (lk g [(36, en36), (73, en73)]).getD default := ⟨_, rfl⟩; have k36 : K 36 = en36 := (by subst hK; rfl); have k73 : K 73 = en73 := (by subst hK; rfl); clear hK
  unfold G50_0
  obtain ⟨q0, hq0⟩ : ∃ q, q = (plan.length : Int) := ⟨_, rfl⟩
  try rw [← hq0]
  obtain ⟨q1, hq1⟩ : ∃ q, q = (tNode.encs plan) := ⟨_, rfl⟩
  try rw [← hq1]
  obtain ⟨q2, hq2⟩ : ∃ q, q = (tNode.encs r2) := ⟨_, rfl⟩
  try rw [← hq2]
  obtain ⟨q3, hq3⟩ : ∃ q, q = (tI64.encs r0) := ⟨_, rfl⟩
  try rw [← hq3]
  obtain ⟨q4, hq4⟩ : ∃ q, q = (tI64.encs r1) := ⟨_, rfl⟩
  try rw [← hq4]
  obtain ⟨q5, hq5⟩ : ∃ q, q = r0.length := ⟨_, rfl⟩
  try rw [← hq5]
  obtain ⟨q6, hq6⟩ : ∃ q, q = r1.length := ⟨_, rfl⟩
  try rw [← hq6]
  obtain ⟨q7, hq7⟩ : ∃ q, q = r2.length := ⟨_, rfl⟩
  try rw [← hq7]
  refine W_go (Y := (Y50 I K)) xok (tY50 hI k36 k73) Try.func50 rfl 2000 _ hI ?_; (conv => arg 4; cbv)
  repeat' (first | (have hd := And.left h; replace h := And.right h) | ((with_reducible refine on_eqs ?_ ?_); (focus (with_reducible rfl)); conv => arg 4; cbv) | (with_reducible refine on_both ?_ ?_ <;> (conv => arg 4; cbv)) | (with_reducible refine on_true (by assumption) ?_; conv => arg 4; cbv) | (with_reducible refine on_false (by assumption) ?_; conv => arg 4; cbv) | (with_reducible refine on_ask (fun g => ?_) (fun g => ?_) <;> (have hc := g) <;> (try simp (disch := omega) [hI, k36, en36, an36, k73, en73, an73, hq0, hq1, hq2, hq3, hq4, hq5, hq6, hq7, -List.length_eq_zero_iff] at hc) <;> (try (exfalso; omega)) <;> (try (first | (revert h; (refine imp_l ?_ (fun h => ?_)); focus (first | exact hc | assumption | omega | (simpa using hc; done))) | (revert h; (refine imp_r ?_ (fun h => ?_)); focus (first | exact hc | assumption | omega | (simpa using hc; done))))) <;> (conv => arg 4; cbv)) | ((with_reducible refine on_must ?_ ?_); (focus ((simp (disch := omega) [hI, k36, en36, an36, k73, en73, an73, hq0, hq1, hq2, hq3, hq4, hq5, hq6, hq7]) <;> (first | omega | assumption | ((repeat' (refine And.intro ?_ ?_)) <;> (first | omega | assumption))))); conv => arg 4; cbv) | ((with_reducible refine on_any ?_); refine W_early (Y := (Y50 I K)) xok (tY50 hI k36 k73) mixed hI rfl (by kernel_rfl) rfl rfl ?_; (conv => arg 4; cbv)) | ((with_reducible refine on_any ?_); refine W_any (Y := (Y50 I K)) xok (tY50 hI k36 k73) mixed hI rfl (by kernel_rfl) rfl rfl ?_; (conv => arg 4; cbv)) | ((with_reducible refine on_any ?_); refine W_behind (Y := (Y50 I K)) xok (tY50 hI k36 k73) Try.func50 rfl 2000 _ hI ?_; (conv => arg 4; cbv)))
  all_goals (first | ((with_reducible have hG : G50_0 _ _ _ _ _ _ _ _ := h); unfold G50_0 at hG; (with_reducible refine on_loop ?_); simp only [List.cons_append, List.nil_append]; refine W_norm [4, 5, 6, 15, 16, 17] ?_ hG) | ((subst h); (with_reducible refine on_ret ?_); refine Ended_of rfl ?_))
  all_goals ((conv => lhs; cbv); (try (first | rfl | ((try simp (disch := omega) [hI, k36, en36, an36, k73, en73, an73, hq0, hq1, hq2, hq3, hq4, hq5, hq6, hq7, mapE_append, Ty.encs_append, encs1_I64, encs1_U8, encs1, mapE1, rep_I64, encs_setR, tI64_enc]) <;> (first | rfl | omega | (simp; done))))))
theorem go50 (plan : List NodeV) {r : RES} (h : ∀ (w : World) (Xs : Nat → Prop), ((plan.length ≤ 100) ∧ (((planI plan) = true) ∧ ((0 ≤ (plan.length : Int) ∧ (plan.length : Int) ≤ 17592186044416) ∧ G50_0 w Xs plan (deadL plan) (List.replicate plan.length 0) ([]) 0 r)))) : Ok0 Try.prog 50 [(pL tNode).enc plan] r.1 r.2.1 r.2.2 := by
  obtain ⟨I, hI⟩ : ∃ I, I = real := ⟨_, rfl⟩; obtain ⟨K, hK⟩ : ∃ K : FuncId → En, K = fun g => (lk g [(36, en36), (73, en73)]).getD default := ⟨_, rfl⟩; have k36 : K 36 = en36 := (by subst hK; rfl); have k73 : K 73 = en73 := (by subst hK; rfl); clear hK
  show Ok0 Try.prog 50 [.one (.pv (.sl false 7 (tNode.encs plan)))] _ _ _
  obtain ⟨q0, hq0⟩ : ∃ q, q = (tNode.encs plan) := ⟨_, rfl⟩
  try rw [← hq0]
  refine Ok0_run (Y := (Y50 I K)) xok (tY50 hI k36 k73) Try.func50 rfl rfl rfl 2000 hI fun w Xs => ?_; (conv => arg 4; cbv)
  replace h := h w Xs
  repeat' (first | (have hd := And.left h; replace h := And.right h) | ((with_reducible refine on_eqs ?_ ?_); (focus (with_reducible rfl)); conv => arg 4; cbv) | (with_reducible refine on_both ?_ ?_ <;> (conv => arg 4; cbv)) | (with_reducible refine on_true (by assumption) ?_; conv => arg 4; cbv) | (with_reducible refine on_false (by assumption) ?_; conv => arg 4; cbv) | (with_reducible refine on_ask (fun g => ?_) (fun g => ?_) <;> (have hc := g) <;> (try simp (disch := omega) [hI, k36, en36, an36, k73, en73, an73, hq0, -List.length_eq_zero_iff] at hc) <;> (try (exfalso; omega)) <;> (try (first | (revert h; (refine imp_l ?_ (fun h => ?_)); focus (first | exact hc | assumption | omega | (simpa using hc; done))) | (revert h; (refine imp_r ?_ (fun h => ?_)); focus (first | exact hc | assumption | omega | (simpa using hc; done))))) <;> (conv => arg 4; cbv)) | ((with_reducible refine on_must ?_ ?_); (focus ((simp (disch := omega) [hI, k36, en36, an36, k73, en73, an73, hq0]) <;> (first | omega | assumption | ((repeat' (refine And.intro ?_ ?_)) <;> (first | omega | assumption))))); conv => arg 4; cbv) | ((with_reducible refine on_any ?_); refine W_early (Y := (Y50 I K)) xok (tY50 hI k36 k73) mixed hI rfl (by kernel_rfl) rfl rfl ?_; (conv => arg 4; cbv)) | ((with_reducible refine on_any ?_); refine W_any (Y := (Y50 I K)) xok (tY50 hI k36 k73) mixed hI rfl (by kernel_rfl) rfl rfl ?_; (conv => arg 4; cbv)) | ((with_reducible refine on_any ?_); refine W_behind (Y := (Y50 I K)) xok (tY50 hI k36 k73) Try.func50 rfl 2000 _ hI ?_; (conv => arg 4; cbv)))
  all_goals (first | ((with_reducible have hG : G50_0 _ _ _ _ _ _ _ _ := h); unfold G50_0 at hG; (with_reducible refine on_loop ?_); simp only [List.cons_append, List.nil_append]; refine W_norm [4, 5, 6, 15, 16, 17] ?_ hG) | ((subst h); (with_reducible refine on_ret ?_); refine Ended_of rfl ?_))
  all_goals ((conv => lhs; cbv); (try (first | rfl | ((try simp (disch := omega) [hI, k36, en36, an36, k73, en73, an73, hq0, mapE_append, Ty.encs_append, encs1_I64, encs1_U8, encs1, mapE1, rep_I64, encs_setR, tI64_enc]) <;> (first | rfl | omega | (simp; done))))))
end Go.Proofs.Try
