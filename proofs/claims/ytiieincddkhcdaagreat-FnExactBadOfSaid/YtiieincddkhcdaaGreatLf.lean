/- Contracts. -/
import Derived.Test.YtiieincddkhcdaaGreatLe
set_option linter.unusedSimpArgs false
set_option linter.unusedVariables false
namespace Go.Proofs.Tryz
open Go Go.Aix
set_option maxRecDepth 100000
set_option maxHeartbeats 4000000
theorem ent42 : Enters Tryz.prog 42 := ⟨Tryz.f42, Tryz.func42, by kernel_rfl, by kernel_rfl⟩
theorem s42 {I : Ops} (hI : I = real)  : Sound Tryz.prog 42 (inl X I (Tab.calls []) Tryz.f42) :=
  Sound.inl (Y := (Tab.calls [])) xok (TabOk.calls mixed trivial) ent42 Tryz.func42 rfl rfl hI
theorem ent139 : Enters Tryz.prog 139 := ⟨Tryz.f139, Tryz.func139, by kernel_rfl, by kernel_rfl⟩
theorem s139 {I : Ops} (hI : I = real)  : Sound Tryz.prog 139 (inl X I (Tab.calls []) Tryz.f139) :=
  Sound.inl (Y := (Tab.calls [])) xok (TabOk.calls mixed trivial) ent139 Tryz.func139 rfl rfl hI
theorem ent107 : Enters Tryz.prog 107 := ⟨Tryz.f107, Tryz.func107, by kernel_rfl, by kernel_rfl⟩
def G107_0 (w : World) (Xs : Nat → Prop) (plan : List NodeV) (i : Int) (k : Int) (r : RES) : Prop := W Tryz.prog 107 Tryz.f107 (Ent0 w Xs) (Back (Ent0 w Xs) r.1 r.2.1 r.2.2) (place (bodyOf Tryz.f107) [1,1,1,1,0,1,0,0] [])
  ⟨[(0, .one (.pv (.sl false 7 (tNode.encs plan)))), (1, .one (.pv (.sc (.int .i64 i)))), (5, .one (.ptr 0 0 0)), (6, .one (.pv (.sc (.int .i64 k))))], [(0, .box [.pv (.sc (.int .i64 ((nth plan i.toNat).op))), .pv (.sc (.int .i64 ((nth plan i.toNat).a))), .pv (.sc (.int .i64 ((nth plan i.toNat).b))), .pv (.sc (.int .i64 ((nth plan i.toNat).col))), .pv (.sc (.int .i64 ((nth plan i.toNat).test))), .pv (.sc (.int .i64 ((nth plan i.toNat).value))), .pv (.sl false 1 (tI64.encs ((nth plan i.toNat).cells)))])], 1⟩
def G107_1 (w : World) (Xs : Nat → Prop) (plan : List NodeV) (i : Int) (i' : Int) (r : RES) : Prop := W Tryz.prog 107 Tryz.f107 (Ent0 w Xs) (Back (Ent0 w Xs) r.1 r.2.1 r.2.2) (place (bodyOf Tryz.f107) [1,1,1,1,1,1,1,0,1,0,1,1,1,0,1,1,0,0] [])
  ⟨[(5, .one (.ptr 0 0 0)), (8, .one (.pv (.sc (.int .i64 ((wid plan ((nth plan i.toNat).a).toNat).getD 0))))), (9, .one (.pv (.sc (.int .i64 i'))))], [(0, .box [.pv (.sc (.int .i64 ((nth plan i.toNat).op))), .pv (.sc (.int .i64 ((nth plan i.toNat).a))), .pv (.sc (.int .i64 ((nth plan i.toNat).b))), .pv (.sc (.int .i64 ((nth plan i.toNat).col))), .pv (.sc (.int .i64 ((nth plan i.toNat).test))), .pv (.sc (.int .i64 ((nth plan i.toNat).value))), .pv (.sl false 1 (tI64.encs ((nth plan i.toNat).cells)))])], 1⟩
theorem st107_0 {w : World} {Xs : Nat → Prop} (plan : List NodeV) (i : Int) (k : Int) {r : RES} (h : (if k < readsOf ((nth plan i.toNat).op) then (if k = 1 then (if 0 ≤ (nth plan i.toNat).b then (if (nth plan i.toNat).b ≤ (IntKind.i64.wrap (i - 1)) then ((0 ≤ (nth plan i.toNat).b ∧ (nth plan i.toNat).b < (plan.length : Int)) ∧ (if (nth plan (((nth plan i.toNat).b).toNat)).op = 12 then r = (.one (.pv (.sc (.int .i64 3))), [], 0) else G107_0 w Xs plan i (IntKind.i64.wrap (k + 1)) r)) else r = (.one (.pv (.sc (.int .i64 3))), [], 0)) else r = (.one (.pv (.sc (.int .i64 3))), [], 0)) else (if 0 ≤ (nth plan i.toNat).a then (if (nth plan i.toNat).a ≤ (IntKind.i64.wrap (i - 1)) then ((0 ≤ (nth plan i.toNat).a ∧ (nth plan i.toNat).a < (plan.length : Int)) ∧ (if (nth plan (((nth plan i.toNat).a).toNat)).op = 12 then r = (.one (.pv (.sc (.int .i64 3))), [], 0) else G107_0 w Xs plan i (IntKind.i64.wrap (k + 1)) r)) else r = (.one (.pv (.sc (.int .i64 3))), [], 0)) else r = (.one (.pv (.sc (.int .i64 3))), [], 0))) else (if (nth plan i.toNat).op = 1 then (if 1 ≤ (nth plan i.toNat).col then (if (nth plan i.toNat).col ≤ 3 then r = (.one (.pv (.sc (.int .i64 0))), [], 0) else r = (.one (.pv (.sc (.int .i64 3))), [], 0)) else r = (.one (.pv (.sc (.int .i64 3))), [], 0)) else ((0 ≤ ((nth plan i.toNat).a) ∧ ((nth plan i.toNat).a) < 100) ∧ ((((nth plan i.toNat).a) < plan.length) ∧ ((plan.length < 4611686018427387904) ∧ ((((wid plan ((nth plan i.toNat).a).toNat).isSome) = true) ∧ (if (nth plan i.toNat).op = 2 then (if 0 ≤ (nth plan i.toNat).col then (if (nth plan i.toNat).col ≤ (IntKind.i64.wrap ((wid plan ((nth plan i.toNat).a).toNat).getD 0 - 1)) then (if 0 ≤ (nth plan i.toNat).test then (if (nth plan i.toNat).test ≤ 2 then (if (-1000000000) ≤ (nth plan i.toNat).value then (if (nth plan i.toNat).value ≤ 1000000000 then r = (.one (.pv (.sc (.int .i64 0))), [], 0) else r = (.one (.pv (.sc (.int .i64 3))), [], 0)) else r = (.one (.pv (.sc (.int .i64 3))), [], 0)) else r = (.one (.pv (.sc (.int .i64 3))), [], 0)) else r = (.one (.pv (.sc (.int .i64 3))), [], 0)) else r = (.one (.pv (.sc (.int .i64 3))), [], 0)) else r = (.one (.pv (.sc (.int .i64 3))), [], 0)) else (if (nth plan i.toNat).op = 3 then (if (((nth plan i.toNat).cells).length : Int) < 1 then r = (.one (.pv (.sc (.int .i64 2))), [], 0) else (if 4 < (((nth plan i.toNat).cells).length : Int) then r = (.one (.pv (.sc (.int .i64 2))), [], 0) else G107_1 w Xs plan i 0 r)) else (if (nth plan i.toNat).op = 4 then ((0 ≤ ((nth plan i.toNat).b) ∧ ((nth plan i.toNat).b) < 100) ∧ ((((nth plan i.toNat).b) < plan.length) ∧ ((((wid plan ((nth plan i.toNat).b).toNat).isSome) = true) ∧ (if (wid plan ((nth plan i.toNat).a).toNat).getD 0 = (wid plan ((nth plan i.toNat).b).toNat).getD 0 then r = (.one (.pv (.sc (.int .i64 0))), [], 0) else r = (.one (.pv (.sc (.int .i64 1))), [], 0))))) else (if (nth plan i.toNat).op = 6 then ((0 ≤ ((nth plan i.toNat).b) ∧ ((nth plan i.toNat).b) < 100) ∧ ((((nth plan i.toNat).b) < plan.length) ∧ ((((wid plan ((nth plan i.toNat).b).toNat).isSome) = true) ∧ (if (wid plan ((nth plan i.toNat).a).toNat).getD 0 < (wid plan ((nth plan i.toNat).b).toNat).getD 0 then (if 1 ≤ (nth plan i.toNat).col then (if (nth plan i.toNat).col ≤ (wid plan ((nth plan i.toNat).a).toNat).getD 0 then (if 4 < (IntKind.i64.wrap ((IntKind.i64.wrap ((wid plan ((nth plan i.toNat).a).toNat).getD 0 + (wid plan ((nth plan i.toNat).b).toNat).getD 0)) - (nth plan i.toNat).col)) then r = (.one (.pv (.sc (.int .i64 2))), [], 0) else r = (.one (.pv (.sc (.int .i64 0))), [], 0)) else r = (.one (.pv (.sc (.int .i64 3))), [], 0)) else r = (.one (.pv (.sc (.int .i64 3))), [], 0)) else (if 1 ≤ (nth plan i.toNat).col then (if (nth plan i.toNat).col ≤ (wid plan ((nth plan i.toNat).b).toNat).getD 0 then (if 4 < (IntKind.i64.wrap ((IntKind.i64.wrap ((wid plan ((nth plan i.toNat).a).toNat).getD 0 + (wid plan ((nth plan i.toNat).b).toNat).getD 0)) - (nth plan i.toNat).col)) then r = (.one (.pv (.sc (.int .i64 2))), [], 0) else r = (.one (.pv (.sc (.int .i64 0))), [], 0)) else r = (.one (.pv (.sc (.int .i64 3))), [], 0)) else r = (.one (.pv (.sc (.int .i64 3))), [], 0)))))) else (if (nth plan i.toNat).op = 7 then (if (wid plan ((nth plan i.toNat).a).toNat).getD 0 < 3 then (if 0 ≤ (nth plan i.toNat).col then (if (nth plan i.toNat).col ≤ (wid plan ((nth plan i.toNat).a).toNat).getD 0 then r = (.one (.pv (.sc (.int .i64 0))), [], 0) else r = (.one (.pv (.sc (.int .i64 3))), [], 0)) else r = (.one (.pv (.sc (.int .i64 3))), [], 0)) else (if 0 ≤ (nth plan i.toNat).col then (if (nth plan i.toNat).col ≤ 3 then r = (.one (.pv (.sc (.int .i64 0))), [], 0) else r = (.one (.pv (.sc (.int .i64 3))), [], 0)) else r = (.one (.pv (.sc (.int .i64 3))), [], 0))) else (if (nth plan i.toNat).op = 8 then (if 0 ≤ (nth plan i.toNat).col then (if (nth plan i.toNat).col ≤ (IntKind.i64.wrap ((wid plan ((nth plan i.toNat).a).toNat).getD 0 - 1)) then r = (.one (.pv (.sc (.int .i64 0))), [], 0) else r = (.one (.pv (.sc (.int .i64 3))), [], 0)) else r = (.one (.pv (.sc (.int .i64 3))), [], 0)) else (if (nth plan i.toNat).op = 9 then (if 0 ≤ (nth plan i.toNat).col then (if (nth plan i.toNat).col ≤ (IntKind.i64.wrap ((wid plan ((nth plan i.toNat).a).toNat).getD 0 - 1)) then r = (.one (.pv (.sc (.int .i64 0))), [], 0) else r = (.one (.pv (.sc (.int .i64 3))), [], 0)) else r = (.one (.pv (.sc (.int .i64 3))), [], 0)) else (if (nth plan i.toNat).op = 10 then (if 0 ≤ (nth plan i.toNat).col then (if (nth plan i.toNat).col ≤ (IntKind.i64.wrap ((wid plan ((nth plan i.toNat).a).toNat).getD 0 - 1)) then r = (.one (.pv (.sc (.int .i64 0))), [], 0) else r = (.one (.pv (.sc (.int .i64 3))), [], 0)) else r = (.one (.pv (.sc (.int .i64 3))), [], 0)) else r = (.one (.pv (.sc (.int .i64 0))), [], 0)))))))))))))))) : G107_0 w Xs plan i k r := by
  obtain ⟨I, hI⟩ : ∃ I, I = real := ⟨_, rfl⟩; obtain ⟨K, k136, k137, k138⟩ : ∃ K : FuncId → En, K 136 = en136 ∧ K 137 = en137 ∧ K 138 = (en138 100) := ⟨fun g => (lk g [(136, en136), (137, en137), (138, (en138 100))]).getD default, rfl, rfl, rfl⟩
  unfold G107_0
  obtain ⟨q0, hq0⟩ := eqv (tI64.encs ((nth plan i.toNat).cells))
  try rw [← hq0]
  obtain ⟨q1, hq1⟩ := eqv ((nth plan i.toNat).value)
  try rw [← hq1]
  obtain ⟨q2, hq2⟩ := eqv ((nth plan i.toNat).test)
  try rw [← hq2]
  obtain ⟨q3, hq3⟩ := eqv ((nth plan i.toNat).col)
  try rw [← hq3]
  obtain ⟨q4, hq4⟩ := eqv ((nth plan i.toNat).op)
  try rw [← hq4]
  obtain ⟨q5, hq5⟩ := eqv ((nth plan i.toNat).a)
  try rw [← hq5]
  obtain ⟨q6, hq6⟩ := eqv ((nth plan i.toNat).b)
  try rw [← hq6]
  obtain ⟨q7, hq7⟩ := eqv (tNode.encs plan)
  try rw [← hq7]
  refine W_go (Y := (Tab.calls [(42, true, callRd I (inl X I (Tab.calls []) Tryz.f42)), (136, true, callRd I (callE I (K 136) sh136)), (137, true, callRd I (callE I (K 137) sh137)), (138, true, callRd I (callE I (K 138) sh138)), (139, true, callRd I (inl X I (Tab.calls []) Tryz.f139))])) xok (TabOk.calls mixed ⟨EntryOk.rd (s42 hI) hI, fun _ => callRd_quiet _ _, ⟨EntryOk.rd (s136 hI k136) hI, fun _ => callRd_quiet _ _, ⟨EntryOk.rd (s137 hI k137) hI, fun _ => callRd_quiet _ _, ⟨EntryOk.rd (s138 hI k138) hI, fun _ => callRd_quiet _ _, ⟨EntryOk.rd (s139 hI) hI, fun _ => callRd_quiet _ _, trivial⟩⟩⟩⟩⟩) Tryz.func107 rfl 2000 _ hI ?_; (conv => arg 4; cbv)
  repeat' (first | (have hd := And.left h; replace h := And.right h) | ((first | ((with_reducible refine on_eqs ?_ ?_); (focus (with_reducible rfl))) | (with_reducible refine on_both ?_ ?_) | (with_reducible refine on_true (by assumption) ?_) | (with_reducible refine on_false (by assumption) ?_) | (with_reducible refine on_ask (fun g => ?_) (fun g => ?_) <;> (have hc := g) <;> (try simp (disch := omega) [hI, k136, en136, an136, k137, en137, an137, k138, en138, an138, hq0, hq1, hq2, hq3, hq4, hq5, hq6, hq7, -List.length_eq_zero_iff] at hc) <;> (try (exfalso; omega)) <;> (try (first | (revert h; (refine imp_l ?_ (fun h => ?_)); focus (first | exact hc | assumption | omega | (simpa using hc; done) | (simp (disch := omega) only [wrap_id]; omega))) | (revert h; (refine imp_r ?_ (fun h => ?_)); focus (first | exact hc | assumption | omega | (simpa using hc; done) | (simp (disch := omega) only [wrap_id]; omega)))))) | ((with_reducible refine on_must ?_ ?_); (focus ((simp (disch := omega) [hI, k136, en136, an136, k137, en137, an137, k138, en138, an138, hq0, hq1, hq2, hq3, hq4, hq5, hq6, hq7]) <;> (first | omega | assumption | ((repeat' (refine And.intro ?_ ?_)) <;> (first | omega | assumption))))))) <;> (conv => arg 4; cbv)))
  all_goals (first | ((with_reducible have hG : G107_0 _ _ _ _ _ _ := h); unfold G107_0 at hG; (with_reducible refine on_loop ?_); simp only [List.cons_append, List.nil_append]; refine W_norm [0, 1, 5, 6] ?_ hG) | ((with_reducible have hG : G107_1 _ _ _ _ _ _ := h); unfold G107_1 at hG; (with_reducible refine on_loop ?_); simp only [List.cons_append, List.nil_append]; refine W_norm [5, 8, 9] ?_ hG) | ((subst h); (with_reducible refine on_ret ?_); refine Ended_of rfl ?_))
  all_goals ((conv => lhs; cbv); (try (first | rfl | ((try simp (disch := omega) [hI, k136, en136, an136, k137, en137, an137, k138, en138, an138, hq0, hq1, hq2, hq3, hq4, hq5, hq6, hq7, mapE_append, Ty.encs_append, encs1_I64, encs1_U8, encs1, mapE1]) <;> (first | rfl | omega | (simp; done))))))
theorem st107_1 {w : World} {Xs : Nat → Prop} (plan : List NodeV) (i : Int) (i' : Int) {r : RES} (h : (if i' < (((nth plan i.toNat).cells).length : Int) then ((0 ≤ i' ∧ i' < (((nth plan i.toNat).cells).length : Int)) ∧ (if 0 ≤ (nth ((nth plan i.toNat).cells) i'.toNat) then (if (nth ((nth plan i.toNat).cells) i'.toNat) ≤ (IntKind.i64.wrap ((wid plan ((nth plan i.toNat).a).toNat).getD 0 - 1)) then G107_1 w Xs plan i (IntKind.i64.wrap (i' + 1)) r else r = (.one (.pv (.sc (.int .i64 3))), [], 0)) else r = (.one (.pv (.sc (.int .i64 3))), [], 0))) else r = (.one (.pv (.sc (.int .i64 0))), [], 0))) : G107_1 w Xs plan i i' r := by
  obtain ⟨I, hI⟩ : ∃ I, I = real := ⟨_, rfl⟩; obtain ⟨K, k136, k137, k138⟩ : ∃ K : FuncId → En, K 136 = en136 ∧ K 137 = en137 ∧ K 138 = (en138 100) := ⟨fun g => (lk g [(136, en136), (137, en137), (138, (en138 100))]).getD default, rfl, rfl, rfl⟩
  unfold G107_1
  obtain ⟨q0, hq0⟩ := eqv ((wid plan ((nth plan i.toNat).a).toNat).getD 0)
  try rw [← hq0]
  obtain ⟨q1, hq1⟩ := eqv (tI64.encs ((nth plan i.toNat).cells))
  try rw [← hq1]
  obtain ⟨q2, hq2⟩ := eqv ((nth plan i.toNat).value)
  try rw [← hq2]
  obtain ⟨q3, hq3⟩ := eqv ((nth plan i.toNat).test)
  try rw [← hq3]
  obtain ⟨q4, hq4⟩ := eqv ((nth plan i.toNat).col)
  try rw [← hq4]
  obtain ⟨q5, hq5⟩ := eqv ((nth plan i.toNat).op)
  try rw [← hq5]
  obtain ⟨q6, hq6⟩ := eqv ((nth plan i.toNat).a)
  try rw [← hq6]
  obtain ⟨q7, hq7⟩ := eqv ((nth plan i.toNat).b)
  try rw [← hq7]
  refine W_go (Y := (Tab.calls [(42, true, callRd I (inl X I (Tab.calls []) Tryz.f42)), (136, true, callRd I (callE I (K 136) sh136)), (137, true, callRd I (callE I (K 137) sh137)), (138, true, callRd I (callE I (K 138) sh138)), (139, true, callRd I (inl X I (Tab.calls []) Tryz.f139))])) xok (TabOk.calls mixed ⟨EntryOk.rd (s42 hI) hI, fun _ => callRd_quiet _ _, ⟨EntryOk.rd (s136 hI k136) hI, fun _ => callRd_quiet _ _, ⟨EntryOk.rd (s137 hI k137) hI, fun _ => callRd_quiet _ _, ⟨EntryOk.rd (s138 hI k138) hI, fun _ => callRd_quiet _ _, ⟨EntryOk.rd (s139 hI) hI, fun _ => callRd_quiet _ _, trivial⟩⟩⟩⟩⟩) Tryz.func107 rfl 2000 _ hI ?_; (conv => arg 4; cbv)
  repeat' (first | (have hd := And.left h; replace h := And.right h) | ((first | ((with_reducible refine on_eqs ?_ ?_); (focus (with_reducible rfl))) | (with_reducible refine on_both ?_ ?_) | (with_reducible refine on_true (by assumption) ?_) | (with_reducible refine on_false (by assumption) ?_) | (with_reducible refine on_ask (fun g => ?_) (fun g => ?_) <;> (have hc := g) <;> (try simp (disch := omega) [hI, k136, en136, an136, k137, en137, an137, k138, en138, an138, hq0, hq1, hq2, hq3, hq4, hq5, hq6, hq7, -List.length_eq_zero_iff] at hc) <;> (try (exfalso; omega)) <;> (try (first | (revert h; (refine imp_l ?_ (fun h => ?_)); focus (first | exact hc | assumption | omega | (simpa using hc; done) | (simp (disch := omega) only [wrap_id]; omega))) | (revert h; (refine imp_r ?_ (fun h => ?_)); focus (first | exact hc | assumption | omega | (simpa using hc; done) | (simp (disch := omega) only [wrap_id]; omega)))))) | ((with_reducible refine on_must ?_ ?_); (focus ((simp (disch := omega) [hI, k136, en136, an136, k137, en137, an137, k138, en138, an138, hq0, hq1, hq2, hq3, hq4, hq5, hq6, hq7]) <;> (first | omega | assumption | ((repeat' (refine And.intro ?_ ?_)) <;> (first | omega | assumption))))))) <;> (conv => arg 4; cbv)))
  all_goals (first | ((with_reducible have hG : G107_0 _ _ _ _ _ _ := h); unfold G107_0 at hG; (with_reducible refine on_loop ?_); simp only [List.cons_append, List.nil_append]; refine W_norm [0, 1, 5, 6] ?_ hG) | ((with_reducible have hG : G107_1 _ _ _ _ _ _ := h); unfold G107_1 at hG; (with_reducible refine on_loop ?_); simp only [List.cons_append, List.nil_append]; refine W_norm [5, 8, 9] ?_ hG) | ((subst h); (with_reducible refine on_ret ?_); refine Ended_of rfl ?_))
  all_goals ((conv => lhs; cbv); (try (first | rfl | ((try simp (disch := omega) [hI, k136, en136, an136, k137, en137, an137, k138, en138, an138, hq0, hq1, hq2, hq3, hq4, hq5, hq6, hq7, mapE_append, Ty.encs_append, encs1_I64, encs1_U8, encs1, mapE1]) <;> (first | rfl | omega | (simp; done))))))
theorem go107 (plan : List NodeV) (i : Int) {r : RES} (h : ∀ (w : World) (Xs : Nat → Prop), ((0 ≤ i ∧ i < (plan.length : Int)) ∧ (if 1 ≤ (nth plan i.toNat).op then (if (nth plan i.toNat).op ≤ 12 then (if (named (nth plan i.toNat)) = true then G107_0 w Xs plan i 0 r else r = (.one (.pv (.sc (.int .i64 1))), [], 0)) else r = (.one (.pv (.sc (.int .i64 5))), [], 0)) else r = (.one (.pv (.sc (.int .i64 5))), [], 0)))) : Ok0 Tryz.prog 107 [(pL tNode).enc plan, pI.enc i] r.1 r.2.1 r.2.2 := by
  obtain ⟨I, hI⟩ : ∃ I, I = real := ⟨_, rfl⟩; obtain ⟨K, k136, k137, k138⟩ : ∃ K : FuncId → En, K 136 = en136 ∧ K 137 = en137 ∧ K 138 = (en138 100) := ⟨fun g => (lk g [(136, en136), (137, en137), (138, (en138 100))]).getD default, rfl, rfl, rfl⟩
  show Ok0 Tryz.prog 107 [.one (.pv (.sl false 7 (tNode.encs plan))), .one (.pv (.sc (.int .i64 i)))] _ _ _
  obtain ⟨q0, hq0⟩ := eqv (tNode.encs plan)
  try rw [← hq0]
  refine Ok0_run (Y := (Tab.calls [(42, true, callRd I (inl X I (Tab.calls []) Tryz.f42)), (136, true, callRd I (callE I (K 136) sh136)), (137, true, callRd I (callE I (K 137) sh137)), (138, true, callRd I (callE I (K 138) sh138)), (139, true, callRd I (inl X I (Tab.calls []) Tryz.f139))])) xok (TabOk.calls mixed ⟨EntryOk.rd (s42 hI) hI, fun _ => callRd_quiet _ _, ⟨EntryOk.rd (s136 hI k136) hI, fun _ => callRd_quiet _ _, ⟨EntryOk.rd (s137 hI k137) hI, fun _ => callRd_quiet _ _, ⟨EntryOk.rd (s138 hI k138) hI, fun _ => callRd_quiet _ _, ⟨EntryOk.rd (s139 hI) hI, fun _ => callRd_quiet _ _, trivial⟩⟩⟩⟩⟩) Tryz.func107 rfl rfl rfl 2000 hI fun w Xs => ?_; (conv => arg 4; cbv)
  replace h := h w Xs
  repeat' (first | (have hd := And.left h; replace h := And.right h) | ((first | ((with_reducible refine on_eqs ?_ ?_); (focus (with_reducible rfl))) | (with_reducible refine on_both ?_ ?_) | (with_reducible refine on_true (by assumption) ?_) | (with_reducible refine on_false (by assumption) ?_) | (with_reducible refine on_ask (fun g => ?_) (fun g => ?_) <;> (have hc := g) <;> (try simp (disch := omega) [hI, k136, en136, an136, k137, en137, an137, k138, en138, an138, hq0, -List.length_eq_zero_iff] at hc) <;> (try (exfalso; omega)) <;> (try (first | (revert h; (refine imp_l ?_ (fun h => ?_)); focus (first | exact hc | assumption | omega | (simpa using hc; done) | (simp (disch := omega) only [wrap_id]; omega))) | (revert h; (refine imp_r ?_ (fun h => ?_)); focus (first | exact hc | assumption | omega | (simpa using hc; done) | (simp (disch := omega) only [wrap_id]; omega)))))) | ((with_reducible refine on_must ?_ ?_); (focus ((simp (disch := omega) [hI, k136, en136, an136, k137, en137, an137, k138, en138, an138, hq0]) <;> (first | omega | assumption | ((repeat' (refine And.intro ?_ ?_)) <;> (first | omega | assumption))))))) <;> (conv => arg 4; cbv)))
  all_goals (first | ((with_reducible have hG : G107_0 _ _ _ _ _ _ := h); unfold G107_0 at hG; (with_reducible refine on_loop ?_); simp only [List.cons_append, List.nil_append]; refine W_norm [0, 1, 5, 6] ?_ hG) | ((with_reducible have hG : G107_1 _ _ _ _ _ _ := h); unfold G107_1 at hG; (with_reducible refine on_loop ?_); simp only [List.cons_append, List.nil_append]; refine W_norm [5, 8, 9] ?_ hG) | ((subst h); (with_reducible refine on_ret ?_); refine Ended_of rfl ?_))
  all_goals ((conv => lhs; cbv); (try (first | rfl | ((try simp (disch := omega) [hI, k136, en136, an136, k137, en137, an137, k138, en138, an138, hq0, mapE_append, Ty.encs_append, encs1_I64, encs1_U8, encs1, mapE1]) <;> (first | rfl | omega | (simp; done))))))
def widsOk (plan : List NodeV) (n : Nat) : Bool := (List.range n).all fun j => (wid plan j).isSome
theorem widsOk_iff {plan : List NodeV} {n : Nat} : widsOk plan n = true ↔ ∀ j, j < n → (wid plan j).isSome = true := by
  unfold widsOk
  rw [List.all_eq_true]
  exact ⟨fun h j hj => h j (List.mem_range.2 hj), fun h j hj => h j (List.mem_range.1 hj)⟩
theorem lm_node1 {w : World} {Xs : Nat → Prop} {plan : List NodeV} {a : Int} {x : NodeV} (hx : nth plan a.toNat = x) (hl : x.cells.length ≤ 4) : ∀ k i : Nat, k + i = x.cells.length → G107_1 w Xs plan a i (rI (cellsF (x.cells.drop i) (IntKind.i64.wrap ((wid plan x.a.toNat).getD 0 - 1)))) := by
  intro k
  induction k with
  | zero =>
    intro i hk
    apply st107_1
    simp only [Int.toNat_natCast, hx]
    rw [if_neg (by omega), drop_nil (l := x.cells) (by omega)]
    rfl
  | succ k ih =>
    intro i hk
    apply st107_1
    have := ih (i + 1) (by omega)
    simp only [Int.toNat_natCast, hx]
    rw [if_pos (by omega), nth_drop (l := x.cells) (i := i) (by omega), wsucc (by omega), cellsF]
    refine ⟨by omega, if_go (fun h1 => if_go (fun h2 => ?_) (fun h2 => ?_)) (fun h1 => ?_)⟩
    · rw [if_pos ⟨h1, h2⟩]; exact this
    · rw [if_neg (by omega)]
    · rw [if_neg (by omega)]
theorem wid_lt {plan : List NodeV} {i : Nat} {k : Int} (h : ¬ badRead plan i k) : 0 ≤ k ∧ k < (i : Int) := by have := bad_not h; omega
theorem lm_node {w : World} {Xs : Nat → Prop} (plan : List NodeV) (hpl : plan.length < 4611686018427387904) (i : Nat) (hi : i < plan.length) (hi2 : i < 100) (hW : ∀ j, j < i → (wid plan j).isSome = true)
    (x : NodeV) (hx : nth plan i = x) (hop : 1 ≤ x.op ∧ x.op ≤ 12) (hn : named x = true) : G107_0 w Xs plan i 0 (rI (nodeF plan i)) := by
  have hr := readsOf_cases x.op
  have e : nodeF plan i = (if 0 < readsOf x.op ∧ badRead plan i x.a then 3 else if 1 < readsOf x.op ∧ badRead plan i x.b then 3 else fieldF x (wat plan x.a) (wat plan x.b)) := by
    unfold nodeF
    rw [hx, if_neg (by omega), if_neg (by simp [hn])]
  have hw1 : IntKind.i64.wrap ((i : Int) - 1) = (i : Int) - 1 := by rw [IntKind.wrap_i64]; omega
  have tail : (x.op ≠ 1 → ¬ badRead plan i x.a) → (x.op = 4 ∨ x.op = 6 → ¬ badRead plan i x.b) → G107_0 w Xs plan i (readsOf x.op) (rI (fieldF x (wat plan x.a) (wat plan x.b))) := by
    intro hA hB
    have hA2 := fun h => wid_lt (hA h)
    have hB2 := fun h => wid_lt (hB h)
    have wA := fun h => hW _ (show x.a.toNat < i by have := hA2 h; omega)
    have wB := fun h => hW _ (show x.b.toNat < i by have := hB2 h; omega)
    apply st107_0
    simp only [Int.toNat_natCast, hx]
    rw [if_neg (by omega)]
    (repeat' (first | (refine And.intro ?_ ?_) | (refine if_go (fun q => ?_) (fun q => ?_))))
    all_goals first
      | omega
      | (have := hA2 (by omega); omega)
      | (have := hB2 (by omega); omega)
      | (exact wA (by omega))
      | (exact wB (by omega))
      | (refine congrArg rI ?_; simp only [fieldF, wat]; (repeat' (refine ite_go (fun q => ?_) (fun q => ?_))) <;> first | rfl | (exfalso; omega))
      | (refine Eq.subst (motive := fun z => G107_1 w Xs plan i 0 (rI z)) ?_ (lm_node1 (a := (i : Int)) (by rw [Int.toNat_natCast]; exact hx) (by omega) x.cells.length 0 rfl)
         refine Eq.symm ?_; simp only [fieldF, wat]; (repeat' (refine ite_go (fun q => ?_) (fun q => ?_))) <;> first | rfl | (exfalso; omega))
  have b3 : ∀ {k : Int}, (badRead plan i k → nodeF plan i = 3) → badRead plan i k → rI (nodeF plan i) = rI 3 := fun h hb => by rw [h hb]
  rcases hr with ⟨h1, h2⟩ | ⟨h1, h2⟩ | ⟨h1, h2⟩
  · rw [h2] at tail e
    rw [e, if_neg (by omega), if_neg (by omega)]
    exact tail (by omega) (by omega)
  · rw [h2] at tail e
    have ba : badRead plan i x.a → rI (nodeF plan i) = rI 3 := fun hb => by rw [e, if_pos ⟨by omega, hb⟩]
    have bb : badRead plan i x.b → rI (nodeF plan i) = rI 3 := fun hb => by
      rw [e]
      split
      · rfl
      · rw [if_pos ⟨by omega, hb⟩]
    apply st107_0
    simp only [Int.toNat_natCast, hx, h2]
    rw [if_pos (by omega), if_neg (by omega), hw1]
    refine if_go (fun q1 => if_go (fun q2 => ⟨by omega, if_go (fun q3 => ba (bad2 q3)) (fun q3 => ?_)⟩) (fun q2 => ba (bad1 (by omega)))) (fun q1 => ba (bad1 (by omega)))
    have nA : ¬ badRead plan i x.a := by rintro (h | h); exact h ⟨q1, q2⟩; exact q3 h
    apply st107_0
    simp only [Int.toNat_natCast, hx, h2]
    rw [if_pos (by decide), if_pos (by decide), hw1]
    refine if_go (fun q4 => if_go (fun q5 => ⟨by omega, if_go (fun q6 => bb (bad2 q6)) (fun q6 => ?_)⟩) (fun q5 => bb (bad1 (by omega)))) (fun q4 => bb (bad1 (by omega)))
    have nB : ¬ badRead plan i x.b := by rintro (h | h); exact h ⟨q4, q5⟩; exact q6 h
    rw [e, if_neg (fun h => nA h.2), if_neg (fun h => nB h.2)]
    exact tail (fun _ => nA) (fun _ => nB)
  · rw [h2] at tail e
    have ba : badRead plan i x.a → rI (nodeF plan i) = rI 3 := fun hb => by rw [e, if_pos ⟨by omega, hb⟩]
    apply st107_0
    simp only [Int.toNat_natCast, hx, h2]
    rw [if_pos (by omega), if_neg (by omega), hw1]
    refine if_go (fun q1 => if_go (fun q2 => ⟨by omega, if_go (fun q3 => ba (bad2 q3)) (fun q3 => ?_)⟩) (fun q2 => ba (bad1 (by omega)))) (fun q1 => ba (bad1 (by omega)))
    have nA : ¬ badRead plan i x.a := by rintro (h | h); exact h ⟨q1, q2⟩; exact q3 h
    rw [e, if_neg (fun h => nA h.2), if_neg (by omega)]
    exact tail (fun _ => nA) (by omega)
def sh107 : Shp := fun I i b l s => .ok (.one (.pv (.sc (.int .i64 (i 0)))), [], 0)
def an107 : An (List NodeV × Int × Unit) where
  pre t := decide (0 ≤ t.2.1 ∧ t.2.1 < t.1.length) && decide (t.2.1 < 100) && decide (t.1.length < 4611686018427387904) && (widsOk t.1 t.2.1.toNat)
  i _ t := nodeF t.1 t.2.1.toNat
noncomputable def en107 : En := mkE (parsC (pL tNode) (parsC pI pars0)) an107
attribute [simp] en107 an107
theorem ok107 (plan : List NodeV) (i : Int) (p0 : 0 ≤ i ∧ i < plan.length) (p1 : i < 100) (p2 : plan.length < 4611686018427387904) (p3 : widsOk plan i.toNat = true) : Ok0 Tryz.prog 107 [(pL tNode).enc plan, pI.enc i] ((.one (.pv (.sc (.int .i64 (nodeF plan i.toNat)))), [], 0) : RES).1 ((.one (.pv (.sc (.int .i64 (nodeF plan i.toNat)))), [], 0) : RES).2.1 ((.one (.pv (.sc (.int .i64 (nodeF plan i.toNat)))), [], 0) : RES).2.2 := by
  refine go107 plan i fun w Xs => ?_
  obtain ⟨j, rfl⟩ : ∃ j : Nat, i = j := ⟨i.toNat, by omega⟩
  simp only [Int.toNat_natCast] at *
  obtain ⟨x, hx⟩ : ∃ x, nth plan j = x := ⟨_, rfl⟩
  simp only [hx]
  have e5 : ¬ (1 ≤ x.op ∧ x.op ≤ 12) → nodeF plan j = 5 := fun h => by unfold nodeF; rw [hx, if_pos h]
  refine ⟨p0, if_go (fun h1 => if_go (fun h2 => if_go (fun h3 => ?_) (fun h3 => ?_)) (fun h2 => by rw [e5 (by omega)])) (fun h1 => by rw [e5 (by omega)])⟩
  · exact lm_node plan p2 j (by omega) (by omega) (widsOk_iff.1 p3) x hx ⟨h1, h2⟩ h3
  · have : nodeF plan j = 1 := by unfold nodeF; rw [hx, if_neg (by omega), if_pos (by simpa using h3)]
    rw [this]
theorem s107 {I : Ops} (hI : I = real) {e : En} (he : e = en107) : Sound Tryz.prog 107 (callE I e sh107) := by
  refine Sound.mkE ent107 hI (fun _ => rfl) ?_ he
  rintro ⟨plan, i, ⟨⟩⟩ hp
  have hp : (decide (0 ≤ i ∧ i < plan.length) && decide (i < 100) && decide (plan.length < 4611686018427387904) && (widsOk plan i.toNat)) = true := hp
  try simp only [Bool.and_eq_true, decide_eq_true_eq] at hp
  obtain ⟨⟨⟨p0, p1⟩, p2⟩, p3⟩ := hp
  exact ok107 plan i p0 p1 p2 p3
end Go.Proofs.Tryz
