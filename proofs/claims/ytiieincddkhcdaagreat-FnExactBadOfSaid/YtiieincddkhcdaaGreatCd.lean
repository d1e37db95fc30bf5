/- Contracts. -/
import Derived.Test.YtiieincddkhcdaaGreatCc
set_option linter.unusedSimpArgs false
set_option linter.unusedVariables false
namespace Go.Proofs.Tryz
open Go Go.Aix
set_option maxRecDepth 100000
set_option maxHeartbeats 4000000
theorem ent146 : Enters Tryz.prog 146 := ⟨Tryz.f146, Tryz.func146, by kernel_rfl, by kernel_rfl⟩
theorem s146 {I : Ops} (hI : I = real)  : Sound Tryz.prog 146 (inl X I (Tab.calls []) Tryz.f146) :=
  Sound.inl (Y := (Tab.calls [])) xok (TabOk.calls mixed trivial) ent146 Tryz.func146 rfl rfl hI
theorem ent111 : Enters Tryz.prog 111 := ⟨Tryz.f111, Tryz.func111, by kernel_rfl, by kernel_rfl⟩
theorem go111 (plan : List NodeV) (node : Int) (side : Int) (epoch : Int) (z : List EntryV) {r : RES} (h : ∀ (w : World) (Xs : Nat → Prop), (if 0 ≤ node then (if node ≤ (IntKind.i64.wrap ((plan.length : Int) - 1)) then ((0 ≤ node ∧ node < (plan.length : Int)) ∧ (if readsOf ((nth plan node.toNat).op) = 0 then r = (.one (.pv (.sc (.int .i64 3))), [], 0) else (if 0 ≤ side then (if side ≤ (IntKind.i64.wrap (readsOf ((nth plan node.toNat).op) - 1)) then (if 0 ≤ epoch then (if epoch ≤ 1000 then (if side = 1 then ((0 ≤ ((nth plan node.toNat).b) ∧ ((nth plan node.toNat).b) < 100) ∧ ((((nth plan node.toNat).b) < plan.length) ∧ ((plan.length < 4611686018427387904) ∧ ((((wid plan ((nth plan node.toNat).b).toNat).isSome) = true) ∧ (if wdF z ((wid plan ((nth plan node.toNat).b).toNat).getD 0) = 0 then (if (z.length : Int) = 0 then r = (.one (.pv (.sc (.int .i64 1))), [], 0) else r = (.one (.pv (.sc (.int .i64 0))), [], 0)) else r = (.one (.pv (.sc (.int .i64 (wdF z ((wid plan ((nth plan node.toNat).b).toNat).getD 0))))), [], 0)))))) else ((0 ≤ ((nth plan node.toNat).a) ∧ ((nth plan node.toNat).a) < 100) ∧ ((((nth plan node.toNat).a) < plan.length) ∧ ((plan.length < 4611686018427387904) ∧ ((((wid plan ((nth plan node.toNat).a).toNat).isSome) = true) ∧ (if wdF z ((wid plan ((nth plan node.toNat).a).toNat).getD 0) = 0 then (if (z.length : Int) = 0 then r = (.one (.pv (.sc (.int .i64 1))), [], 0) else r = (.one (.pv (.sc (.int .i64 0))), [], 0)) else r = (.one (.pv (.sc (.int .i64 (wdF z ((wid plan ((nth plan node.toNat).a).toNat).getD 0))))), [], 0))))))) else r = (.one (.pv (.sc (.int .i64 3))), [], 0)) else r = (.one (.pv (.sc (.int .i64 3))), [], 0)) else r = (.one (.pv (.sc (.int .i64 3))), [], 0)) else r = (.one (.pv (.sc (.int .i64 3))), [], 0)))) else r = (.one (.pv (.sc (.int .i64 3))), [], 0)) else r = (.one (.pv (.sc (.int .i64 3))), [], 0))) : Ok0 Tryz.prog 111 [(pL tNode).enc plan, pI.enc node, pI.enc side, pI.enc epoch, (pL tEntry).enc z] r.1 r.2.1 r.2.2 := by
  obtain ⟨I, hI⟩ : ∃ I, I = real := ⟨_, rfl⟩; obtain ⟨K, k137, k138, k145⟩ : ∃ K : FuncId → En, K 137 = en137 ∧ K 138 = (en138 100) ∧ K 145 = en145 := ⟨fun g => (lk g [(137, en137), (138, (en138 100)), (145, en145)]).getD default, rfl, rfl, rfl⟩
  show Ok0 Tryz.prog 111 [.one (.pv (.sl false 7 (tNode.encs plan))), .one (.pv (.sc (.int .i64 node))), .one (.pv (.sc (.int .i64 side))), .one (.pv (.sc (.int .i64 epoch))), .one (.pv (.sl false 2 (tEntry.encs z)))] _ _ _
  obtain ⟨q0, hq0⟩ := eqv (tNode.encs plan)
  try rw [← hq0]
  obtain ⟨q1, hq1⟩ := eqv (tEntry.encs z)
  try rw [← hq1]
  refine Ok0_run (Y := (Tab.calls [(42, true, callRd I (inl X I (Tab.calls []) Tryz.f42)), (137, true, callRd I (callE I (K 137) sh137)), (146, true, callRd I (inl X I (Tab.calls []) Tryz.f146)), (138, true, callRd I (callE I (K 138) sh138)), (145, true, callRd I (callE I (K 145) sh145))])) xok (TabOk.calls mixed ⟨EntryOk.rd (s42 hI) hI, fun _ => callRd_quiet _ _, ⟨EntryOk.rd (s137 hI k137) hI, fun _ => callRd_quiet _ _, ⟨EntryOk.rd (s146 hI) hI, fun _ => callRd_quiet _ _, ⟨EntryOk.rd (s138 hI k138) hI, fun _ => callRd_quiet _ _, ⟨EntryOk.rd (s145 hI k145) hI, fun _ => callRd_quiet _ _, trivial⟩⟩⟩⟩⟩) Tryz.func111 rfl rfl rfl 2000 hI fun w Xs => ?_; (conv => arg 4; cbv)
  replace h := h w Xs
  repeat' (first | (have hd := And.left h; replace h := And.right h) | ((first | ((with_reducible refine on_eqs ?_ ?_); (focus (with_reducible rfl))) | (with_reducible refine on_both ?_ ?_) | (with_reducible refine on_true (by assumption) ?_) | (with_reducible refine on_false (by assumption) ?_) | (with_reducible refine on_ask (fun g => ?_) (fun g => ?_) <;> (have hc := g) <;> (try simp (disch := omega) [hI, k137, en137, an137, k138, en138, an138, k145, en145, an145, hq0, hq1, -List.length_eq_zero_iff] at hc) <;> (try (exfalso; omega)) <;> (try (first | (revert h; (refine imp_l ?_ (fun h => ?_)); focus (first | exact hc | assumption | omega | (simpa using hc; done) | (simp (disch := omega) only [wrap_id]; omega))) | (revert h; (refine imp_r ?_ (fun h => ?_)); focus (first | exact hc | assumption | omega | (simpa using hc; done) | (simp (disch := omega) only [wrap_id]; omega)))))) | ((with_reducible refine on_must ?_ ?_); (focus ((simp (disch := omega) [hI, k137, en137, an137, k138, en138, an138, k145, en145, an145, hq0, hq1]) <;> (first | omega | assumption | ((repeat' (refine And.intro ?_ ?_)) <;> (first | omega | assumption))))))) <;> (conv => arg 4; cbv)))
  all_goals (first | ((subst h); (with_reducible refine on_ret ?_); refine Ended_of rfl ?_))
  all_goals ((conv => lhs; cbv); (try (first | rfl | ((try simp (disch := omega) [hI, k137, en137, an137, k138, en138, an138, k145, en145, an145, hq0, hq1, mapE_append, Ty.encs_append, encs1_I64, encs1_U8, encs1, mapE1]) <;> (first | rfl | omega | (simp; done))))))
def sh111 : Shp := fun I i b l s => .ok (.one (.pv (.sc (.int .i64 (i 0)))), [], 0)
def an111 : An (List NodeV × Int × Int × Int × List EntryV × Unit) where
  pre t := decide (planF t.1 = 0)
  i _ t := dataF t.1 t.2.1 t.2.2.1 t.2.2.2.1 t.2.2.2.2.1
noncomputable def en111 : En := mkE (parsC (pL tNode) (parsC pI (parsC pI (parsC pI (parsC (pL tEntry) pars0))))) an111
attribute [simp] en111 an111
theorem ok111 (plan : List NodeV) (node : Int) (side : Int) (epoch : Int) (z : List EntryV) (p0 : planF plan = 0) : Ok0 Tryz.prog 111 [(pL tNode).enc plan, pI.enc node, pI.enc side, pI.enc epoch, (pL tEntry).enc z] ((.one (.pv (.sc (.int .i64 (dataF plan node side epoch z)))), [], 0) : RES).1 ((.one (.pv (.sc (.int .i64 (dataF plan node side epoch z)))), [], 0) : RES).2.1 ((.one (.pv (.sc (.int .i64 (dataF plan node side epoch z)))), [], 0) : RES).2.2 := by
  have h8 := (planF_wid p0).1
  have hI := PlanI.of p0
  have hW := (planF_wid p0).2
  have hwr : IntKind.i64.wrap ((plan.length : Int) - 1) = (plan.length : Int) - 1 := by rw [IntKind.wrap_i64]; omega
  have hr := readsOf_cases (nth plan node.toNat).op
  have hwr2 : IntKind.i64.wrap (readsOf (nth plan node.toNat).op - 1) = readsOf (nth plan node.toNat).op - 1 := by rw [IntKind.wrap_i64]; omega
  refine go111 plan node side epoch z fun w Xs => ?_
  rw [hwr, hwr2]
  by_cases hn : 0 ≤ node ∧ node ≤ (plan.length : Int) - 1
  · have ha := hI.a node.toNat (by omega)
    have hb := hI.b node.toNat (by omega)
    have hWa := fun q => hW (nth plan node.toNat).a.toNat (by have := ha q; omega)
    have hWb := fun q => hW (nth plan node.toNat).b.toNat (by have := hb q; omega)
    unfold dataF wat
    (repeat' (first | (refine And.intro ?_ ?_) | (refine if_go (fun q => ?_) (fun q => ?_))))
    all_goals first
      | omega
      | exact hWa (by omega)
      | exact hWb (by omega)
      | (refine congrArg rI ?_; (repeat' split) <;> first | rfl | omega | (simp_all; done))
  · unfold dataF
    (repeat' (first | (refine And.intro ?_ ?_) | (refine if_go (fun q => ?_) (fun q => ?_))))
    all_goals first
      | omega
      | (refine congrArg rI ?_; (repeat' split) <;> first | rfl | omega)
theorem s111 {I : Ops} (hI : I = real) {e : En} (he : e = en111) : Sound Tryz.prog 111 (callE I e sh111) := by
  refine Sound.mkE ent111 hI (fun _ => rfl) ?_ he
  rintro ⟨plan, node, side, epoch, z, ⟨⟩⟩ hp
  have hp : (decide (planF plan = 0)) = true := hp
  try simp only [Bool.and_eq_true, decide_eq_true_eq] at hp
  have p0 := hp
  exact ok111 plan node side epoch z p0
theorem ent158 : Enters Tryz.prog 158 := ⟨Tryz.f158, Tryz.func158, by kernel_rfl, by kernel_rfl⟩
theorem s158 {I : Ops} (hI : I = real)  : Sound Tryz.prog 158 (inl X I (Tab.calls []) Tryz.f158) :=
  Sound.inl (Y := (Tab.calls [])) xok (TabOk.calls mixed trivial) ent158 Tryz.func158 rfl rfl hI
theorem ent127 : Enters Tryz.prog 127 := ⟨Tryz.f127, Tryz.func127, by kernel_rfl, by kernel_rfl⟩
noncomputable def Y127 (I : Ops) (K : FuncId → En) : CallsA := (Tab.calls [(48, true, callRd I (inl X I (Tab.calls []) Tryz.f48)), (47, true, callRd I (inl X I (Tab.calls []) Tryz.f47)), (151, true, callRd I (inl X I (Tab.calls []) Tryz.f151)), (158, true, callRd I (inl X I (Tab.calls []) Tryz.f158)), (125, true, callRd I (callE I (K 125) sh125))])
theorem tY127 {I : Ops} (hI : I = real) {K : FuncId → En} (k125 : K 125 = en125) : CallsOk Tryz.prog (Y127 I K) := (TabOk.calls mixed ⟨EntryOk.rd (s48 hI) hI, fun _ => callRd_quiet _ _, ⟨EntryOk.rd (s47 hI) hI, fun _ => callRd_quiet _ _, ⟨EntryOk.rd (s151 hI) hI, fun _ => callRd_quiet _ _, ⟨EntryOk.rd (s158 hI) hI, fun _ => callRd_quiet _ _, ⟨EntryOk.rd (s125 hI k125) hI, fun _ => callRd_quiet _ _, trivial⟩⟩⟩⟩⟩)
theorem go127 (plan : List NodeV) (widths : List Int) (node : Int) (side : Int) (epoch : Int) (z : List EntryV) {r : RES} (h : ∀ (w : World) (Xs : Nat → Prop), (if 0 ≤ node then (if node ≤ (IntKind.i64.wrap ((plan.length : Int) - 1)) then ((0 ≤ node ∧ node < (plan.length : Int)) ∧ (if (nth plan node.toNat).op = 1 then r = (.one (.pv (.sc (.int .i64 3))), [], 0) else (if 0 ≤ side then (if side ≤ 1 then (if side = 1 then (if (nth plan node.toNat).op = 4 then (if 0 ≤ epoch then (if epoch ≤ 1000 then ((0 ≤ (nth plan node.toNat).b ∧ (nth plan node.toNat).b < (widths.length : Int)) ∧ (if wdF z (nth widths (((nth plan node.toNat).b).toNat)) = 0 then (if (z.length : Int) = 0 then r = (.one (.pv (.sc (.int .i64 1))), [], 0) else r = (.one (.pv (.sc (.int .i64 0))), [], 0)) else r = (.one (.pv (.sc (.int .i64 (wdF z (nth widths (((nth plan node.toNat).b).toNat)))))), [], 0))) else r = (.one (.pv (.sc (.int .i64 3))), [], 0)) else r = (.one (.pv (.sc (.int .i64 3))), [], 0)) else (if (nth plan node.toNat).op = 6 then (if 0 ≤ epoch then (if epoch ≤ 1000 then ((0 ≤ (nth plan node.toNat).b ∧ (nth plan node.toNat).b < (widths.length : Int)) ∧ (if wdF z (nth widths (((nth plan node.toNat).b).toNat)) = 0 then (if (z.length : Int) = 0 then r = (.one (.pv (.sc (.int .i64 1))), [], 0) else r = (.one (.pv (.sc (.int .i64 0))), [], 0)) else r = (.one (.pv (.sc (.int .i64 (wdF z (nth widths (((nth plan node.toNat).b).toNat)))))), [], 0))) else r = (.one (.pv (.sc (.int .i64 3))), [], 0)) else r = (.one (.pv (.sc (.int .i64 3))), [], 0)) else r = (.one (.pv (.sc (.int .i64 3))), [], 0))) else (if 0 ≤ epoch then (if epoch ≤ 1000 then ((0 ≤ (nth plan node.toNat).a ∧ (nth plan node.toNat).a < (widths.length : Int)) ∧ (if wdF z (nth widths (((nth plan node.toNat).a).toNat)) = 0 then (if (z.length : Int) = 0 then r = (.one (.pv (.sc (.int .i64 1))), [], 0) else r = (.one (.pv (.sc (.int .i64 0))), [], 0)) else r = (.one (.pv (.sc (.int .i64 (wdF z (nth widths (((nth plan node.toNat).a).toNat)))))), [], 0))) else r = (.one (.pv (.sc (.int .i64 3))), [], 0)) else r = (.one (.pv (.sc (.int .i64 3))), [], 0))) else r = (.one (.pv (.sc (.int .i64 3))), [], 0)) else r = (.one (.pv (.sc (.int .i64 3))), [], 0)))) else r = (.one (.pv (.sc (.int .i64 3))), [], 0)) else r = (.one (.pv (.sc (.int .i64 3))), [], 0))) : Ok0 Tryz.prog 127 [(pL tNode).enc plan, (pL tI64).enc widths, pI.enc node, pI.enc side, pI.enc epoch, (pL tEntry).enc z] r.1 r.2.1 r.2.2 := by
  obtain ⟨I, hI⟩ : ∃ I, I = real := ⟨_, rfl⟩; obtain ⟨K, k125⟩ : ∃ K : FuncId → En, K 125 = en125 := ⟨fun g => (lk g [(125, en125)]).getD default, rfl⟩
  show Ok0 Tryz.prog 127 [.one (.pv (.sl false 7 (tNode.encs plan))), .one (.pv (.sl false 1 (tI64.encs widths))), .one (.pv (.sc (.int .i64 node))), .one (.pv (.sc (.int .i64 side))), .one (.pv (.sc (.int .i64 epoch))), .one (.pv (.sl false 2 (tEntry.encs z)))] _ _ _
  obtain ⟨q0, hq0⟩ := eqv (tI64.encs widths)
  try rw [← hq0]
  obtain ⟨q1, hq1⟩ := eqv (tNode.encs plan)
  try rw [← hq1]
  obtain ⟨q2, hq2⟩ := eqv (tEntry.encs z)
  try rw [← hq2]
  have hS := And.intro hI (And.intro k125 (And.intro hq0 (And.intro hq1 hq2)))
  refine Ok0_run (Y := (Y127 I K)) xok (tY127 hI k125) Tryz.func127 rfl rfl rfl 2000 hI fun w Xs => ?_; (conv => arg 4; cbv)
  replace h := h w Xs
  exact fin
def sh127 : Shp := fun I i b l s => .ok (.one (.pv (.sc (.int .i64 (i 0)))), [], 0)
def an127 : An (List NodeV × List Int × Int × Int × Int × List EntryV × Unit) where
  pre t := decide (planF t.1 = 0) && decide (t.2.1 = wsOf t.1 t.1.length)
  i _ t := dataF t.1 t.2.2.1 t.2.2.2.1 t.2.2.2.2.1 t.2.2.2.2.2.1
noncomputable def en127 : En := mkE (parsC (pL tNode) (parsC (pL tI64) (parsC pI (parsC pI (parsC pI (parsC (pL tEntry) pars0)))))) an127
attribute [simp] en127 an127
theorem ok127 (plan : List NodeV) (widths : List Int) (node : Int) (side : Int) (epoch : Int) (z : List EntryV) (p0 : planF plan = 0) (p1 : widths = wsOf plan plan.length) : Ok0 Tryz.prog 127 [(pL tNode).enc plan, (pL tI64).enc widths, pI.enc node, pI.enc side, pI.enc epoch, (pL tEntry).enc z] ((.one (.pv (.sc (.int .i64 (dataF plan node side epoch z)))), [], 0) : RES).1 ((.one (.pv (.sc (.int .i64 (dataF plan node side epoch z)))), [], 0) : RES).2.1 ((.one (.pv (.sc (.int .i64 (dataF plan node side epoch z)))), [], 0) : RES).2.2 := by
  have h8 := (planF_wid p0).1
  have hI := PlanI.of p0
  have hW := (planF_wid p0).2
  have hwr : IntKind.i64.wrap ((plan.length : Int) - 1) = (plan.length : Int) - 1 := by rw [IntKind.wrap_i64]; omega
  have hL := wsOf_len plan plan.length
  refine go127 plan widths node side epoch z fun w Xs => ?_
  subst p1
  rw [hwr, hL]
  by_cases hn : 0 ≤ node ∧ node ≤ (plan.length : Int) - 1
  · have ha := hI.a node.toNat (by omega)
    have hb := hI.b node.toNat (by omega)
    have ea := fun q => wsOf_wat (plan := plan) (a := (nth plan node.toNat).a) (by have := ha q; omega)
    have eb := fun q => wsOf_wat (plan := plan) (a := (nth plan node.toNat).b) (by have := hb q; omega)
    unfold dataF
    by_cases h1 : (nth plan node.toNat).op = 1
    · (repeat' (first | (refine And.intro ?_ ?_) | (refine if_go (fun q => ?_) (fun q => ?_))))
      all_goals first
        | omega
        | (refine congrArg rI ?_; (repeat' split) <;> first | rfl | omega)
    · rw [ea h1]
      by_cases h2 : (nth plan node.toNat).op = 4 ∨ (nth plan node.toNat).op = 6
      · rw [eb h2]
        (repeat' (first | (refine And.intro ?_ ?_) | (refine if_go (fun q => ?_) (fun q => ?_))))
        all_goals first
          | omega
          | (refine congrArg rI ?_; (repeat' split) <;> first | rfl | omega | (simp_all; done))
      · (repeat' (first | (refine And.intro ?_ ?_) | (refine if_go (fun q => ?_) (fun q => ?_))))
        all_goals first
          | omega
          | (refine congrArg rI ?_; (repeat' split) <;> first | rfl | omega | (simp_all; done))
  · unfold dataF
    (repeat' (first | (refine And.intro ?_ ?_) | (refine if_go (fun q => ?_) (fun q => ?_))))
    all_goals first
      | omega
      | (refine congrArg rI ?_; (repeat' split) <;> first | rfl | omega)
theorem s127 {I : Ops} (hI : I = real) {e : En} (he : e = en127) : Sound Tryz.prog 127 (callE I e sh127) := by
  refine Sound.mkE ent127 hI (fun _ => rfl) ?_ he
  rintro ⟨plan, widths, node, side, epoch, z, ⟨⟩⟩ hp
  have hp : (decide (planF plan = 0) && decide (widths = wsOf plan plan.length)) = true := hp
  try simp only [Bool.and_eq_true, decide_eq_true_eq] at hp
  obtain ⟨p0, p1⟩ := hp
  exact ok127 plan widths node side epoch z p0 p1
end Go.Proofs.Tryz
