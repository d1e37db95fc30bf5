/- Contracts. -/
import Derived.Test.YtngefcgbfpelcaaLprr
import Derived.Test.YtngefcgbfpelcaaMk
set_option linter.unusedSimpArgs false
set_option linter.unusedVariables false
namespace Go.Proofs.Try
open Go Go.Aix
set_option maxRecDepth 100000
set_option maxHeartbeats 4000000
set_option linter.unusedSimpArgs false
set_option linter.unusedVariables false
theorem pruneF_ok {plan : List NodeV} (hz : planF plan = 0) (h : cellsOk plan = true) : (pruneF plan).1.length ≤ plan.length ∧ cellsOk (pruneF plan).1 = true := ⟨pruneF_len plan, pruneF_cells h⟩
theorem ent42 : Enters Try.prog 42 := ⟨Try.f42, Try.func42, by kernel_rfl, by kernel_rfl⟩
noncomputable def Y42 (I : Ops) (K : FuncId → En) : CallsA := (Tab.calls [(35, true, callRd I (inl X I (Y35 I K) Try.f35)), (63, false, callVw I (callE I (K 63) sh63)), (50, false, callIce I (callE I (K 50) sh50))])
theorem tY42 {I : Ops} (hI : I = real) {K : FuncId → En} (k57 : K 57 = en57) (k63 : K 63 = en63) (k50 : K 50 = en50) : CallsOk Try.prog (Y42 I K) := (TabOk.calls mixed ⟨EntryOk.rd (s35 hI k57) hI, fun _ => callRd_quiet _ _, ⟨EntryOk.vw (s63 hI k63) hI, notQuiet, ⟨EntryOk.own (s50 hI k50) hI, notQuiet, trivial⟩⟩⟩)
theorem s42 {I : Ops} (hI : I = real) {K : FuncId → En} (k57 : K 57 = en57) (k63 : K 63 = en63) (k50 : K 50 = en50) : Sound Try.prog 42 (inl X I (Y42 I K) Try.f42) :=
  Sound.inl (Y := (Y42 I K)) xok (tY42 hI k57 k63 k50) ent42 Try.func42 rfl rfl hI
theorem ent27 : Enters Try.prog 27 := ⟨Try.f27, Try.func27, by kernel_rfl, by kernel_rfl⟩
noncomputable def Y27 (I : Ops) (K : FuncId → En) : CallsA := (Tab.calls [(32, true, callRd I (callE I (K 32) sh32)), (49, false, callIce I (callE I (K 49) sh49))])
theorem tY27 {I : Ops} (hI : I = real) {K : FuncId → En} (k32 : K 32 = en32) (k49 : K 49 = en49) : CallsOk Try.prog (Y27 I K) := (TabOk.calls mixed ⟨EntryOk.rd (s32 hI k32) hI, fun _ => callRd_quiet _ _, ⟨EntryOk.own (s49 hI k49) hI, notQuiet, trivial⟩⟩)
theorem go27 (plan : List NodeV) {r : RES} (h : ∀ (w : World) (Xs : Nat → Prop), ((plan.length < 4611686018427387904) ∧ (if planF plan = 0 then (((rwI plan) = true) ∧ ((0 < plan.length ∧ plan.length ≤ 8) ∧ (((cellsOk plan) = true) ∧ r = (.ag [.pv (.sc (.int .i64 0)), .pv (.sc (.int .i64 ((pruneF plan).2))), .arr 0 0 (((pruneF plan).1).length)], [(0, .row 7 (tNode.encs ((pruneF plan).1)))], 1)))) else r = (.ag [.pv (.sc (.int .i64 (planF plan))), .pv (.sc (.int .i64 0)), .pv .nl], [], 0)))) : Ok0 Try.prog 27 [(pL tNode).enc plan] r.1 r.2.1 r.2.2 := by
  obtain ⟨I, hI⟩ : ∃ I, I = real := ⟨_, rfl⟩; obtain ⟨K, hK⟩ : ∃ K : FuncId → En, K = fun g => (lk g [(32, en32), (49, en49)]).getD default := ⟨_, rfl⟩; have k32 : K 32 = en32 := (by subst hK; rfl); have k49 : K 49 = en49 := (by subst hK; rfl); clear hK
  show Ok0 Try.prog 27 [.one (.pv (.sl false 7 (tNode.encs plan)))] _ _ _
  obtain ⟨q0, hq0⟩ : ∃ q, q = (tNode.encs plan) := ⟨_, rfl⟩
  try rw [← hq0]
  refine Ok0_run (Y := (Y27 I K)) xok (tY27 hI k32 k49) Try.func27 rfl rfl rfl 2000 hI fun w Xs => ?_; (conv => arg 4; cbv)
  replace h := h w Xs
  repeat' (first | (have hd := And.left h; replace h := And.right h) | ((with_reducible refine on_eqs ?_ ?_); (focus (with_reducible rfl)); conv => arg 4; cbv) | (with_reducible refine on_both ?_ ?_ <;> (conv => arg 4; cbv)) | (with_reducible refine on_true (by assumption) ?_; conv => arg 4; cbv) | (with_reducible refine on_false (by assumption) ?_; conv => arg 4; cbv) | (with_reducible refine on_ask (fun g => ?_) (fun g => ?_) <;> (have hc := g) <;> (try simp (disch := omega) [hI, k32, en32, an32, k49, en49, an49, hq0, -List.length_eq_zero_iff] at hc) <;> (try (exfalso; omega)) <;> (try (first | (revert h; (refine imp_l ?_ (fun h => ?_)); focus (first | exact hc | assumption | omega | (simpa using hc; done))) | (revert h; (refine imp_r ?_ (fun h => ?_)); focus (first | exact hc | assumption | omega | (simpa using hc; done))))) <;> (conv => arg 4; cbv)) | ((with_reducible refine on_must ?_ ?_); (focus ((simp (disch := omega) [hI, k32, en32, an32, k49, en49, an49, hq0]) <;> (first | omega | assumption | ((repeat' (refine And.intro ?_ ?_)) <;> (first | omega | assumption))))); conv => arg 4; cbv))
  all_goals (first | ((subst h); (with_reducible refine on_ret ?_); refine Ended_of rfl ?_))
  all_goals ((conv => lhs; cbv); (try (first | rfl | ((try simp (disch := omega) [hI, k32, en32, an32, k49, en49, an49, hq0, mapE_append, Ty.encs_append, encs1_I64, encs1_U8, encs1, mapE1]) <;> (first | rfl | omega | (simp; done))))))
def sh27 : Shp := fun I i b l s => .ask (b 0) fun t => match t with | true => .ok (.ag [.pv (.sc (.int .i64 (i 0))), .pv (.sc (.int .i64 0)), .pv .nl], [], 0) | false => .ok (.ag [.pv (.sc (.int .i64 0)), .pv (.sc (.int .i64 (i 1))), .arr 0 0 (I.len (l 0))], [(0, .row 7 (l 0))], 1)
noncomputable def an27 : An (List NodeV × Unit) where
  pre t := (okPlan t.1) && (cellsOk t.1)
  i j t := match j with | 0 => planF t.1 | _ => (pruneF t.1).2
  b _ t := (decide (planF t.1 ≠ 0))
  l _ t := (tNode.encs ((pruneF t.1).1))
noncomputable def en27 : En := mkE (parsC (pL tNode) pars0) an27
theorem ok27 (plan : List NodeV) (p0 : okPlan plan = true) (p1 : cellsOk plan = true) : Ok0 Try.prog 27 [(pL tNode).enc plan] (if (decide (planF plan ≠ 0)) = true then ((.ag [.pv (.sc (.int .i64 (planF plan))), .pv (.sc (.int .i64 0)), .pv .nl], [], 0) : RES) else ((.ag [.pv (.sc (.int .i64 0)), .pv (.sc (.int .i64 ((pruneF plan).2))), .arr 0 0 ((pruneF plan).1).length], [(0, .row 7 (tNode.encs ((pruneF plan).1)))], 1) : RES) : RES).1 (if (decide (planF plan ≠ 0)) = true then ((.ag [.pv (.sc (.int .i64 (planF plan))), .pv (.sc (.int .i64 0)), .pv .nl], [], 0) : RES) else ((.ag [.pv (.sc (.int .i64 0)), .pv (.sc (.int .i64 ((pruneF plan).2))), .arr 0 0 ((pruneF plan).1).length], [(0, .row 7 (tNode.encs ((pruneF plan).1)))], 1) : RES) : RES).2.1 (if (decide (planF plan ≠ 0)) = true then ((.ag [.pv (.sc (.int .i64 (planF plan))), .pv (.sc (.int .i64 0)), .pv .nl], [], 0) : RES) else ((.ag [.pv (.sc (.int .i64 0)), .pv (.sc (.int .i64 ((pruneF plan).2))), .arr 0 0 ((pruneF plan).1).length], [(0, .row 7 (tNode.encs ((pruneF plan).1)))], 1) : RES) : RES).2.2 := by
  have hl := okPlan_len p0
  by_cases hz : planF plan = 0
  · obtain ⟨f1, f2⟩ := pruneF_ok hz p1
    have h8 := (planF_wid hz).1
    have hR := rwI_iff.2 (RwI.of hz)
    have f0 := pruneF_pos (PlanI.of hz) h8.1
    rw [if_neg (by simpa using hz)]
    refine go27 plan fun w Xs => ?_
    first
      | exact ⟨p0, by rw [if_pos hz]; exact ⟨hR, h8, p1, by omega, f2, rfl⟩⟩
      | exact ⟨hl, by rw [if_pos hz]; exact ⟨hR, h8, p1, rfl⟩⟩
      | exact ⟨p0, by rw [if_pos hz]; exact ⟨p1, by omega, f2, rfl⟩⟩
      | exact ⟨hl, by rw [if_pos hz]; exact ⟨p1, rfl⟩⟩
  · rw [if_pos (by simpa using hz)]
    refine go27 plan fun w Xs => ?_
    first
      | exact ⟨p0, by rw [if_neg hz]⟩
      | exact ⟨hl, by rw [if_neg hz]⟩
theorem s27 {I : Ops} (hI : I = real) {e : En} (he : e = en27) : Sound Try.prog 27 (callE I e sh27) := by
  refine Sound.mkR ent27 hI ?_ he
  rintro ⟨plan, ⟨⟩⟩ hp r σ n e
  have hp : ((okPlan plan) && (cellsOk plan)) = true := hp
  try simp only [Bool.and_eq_true, decide_eq_true_eq] at hp
  obtain ⟨p0, p1⟩ := hp
  have e : (R.ok (if (decide (planF plan ≠ 0)) = true then ((.ag [.pv (.sc (.int .i64 (planF plan))), .pv (.sc (.int .i64 0)), .pv .nl], [], 0) : RES) else ((.ag [.pv (.sc (.int .i64 0)), .pv (.sc (.int .i64 ((pruneF plan).2))), .arr 0 0 ((pruneF plan).1).length], [(0, .row 7 (tNode.encs ((pruneF plan).1)))], 1) : RES) : RES) : R RES).val = some (r, σ, n) := by
    rw [← e]
    cases hb : ((decide (planF plan ≠ 0)) : Bool) <;> (try simp at hb) <;> simp [sh27, an27, hb, val_ask]
  have k := ok27 plan p0 p1
  rw [Option.some.inj e] at k
  exact k
theorem ent28 : Enters Try.prog 28 := ⟨Try.f28, Try.func28, by kernel_rfl, by kernel_rfl⟩
noncomputable def Y28 (I : Ops) (K : FuncId → En) : CallsA := (Tab.calls [(42, false, callIce I (inl X I (Y42 I K) Try.f42)), (50, false, callIce I (callE I (K 50) sh50))])
theorem tY28 {I : Ops} (hI : I = real) {K : FuncId → En} (k57 : K 57 = en57) (k63 : K 63 = en63) (k50 : K 50 = en50) : CallsOk Try.prog (Y28 I K) := (TabOk.calls mixed ⟨EntryOk.own (s42 hI k57 k63 k50) hI, notQuiet, ⟨EntryOk.own (s50 hI k50) hI, notQuiet, trivial⟩⟩)
theorem go28 (plan : List NodeV) {r : RES} (h : ∀ (w : World) (Xs : Nat → Prop), (((okPlan plan) = true) ∧ (if planF plan = 0 then (((rwI plan) = true) ∧ ((0 < plan.length ∧ plan.length ≤ 8) ∧ (((cellsOk plan) = true) ∧ ((0 < ((pruneF plan).1).length ∧ ((pruneF plan).1).length ≤ 1048576) ∧ (((cellsOk ((pruneF plan).1)) = true) ∧ r = (.ag [.pv (.sc (.int .i64 0)), .pv (.sc (.int .i64 ((pruneF plan).2))), .arr 0 0 (((pruneF plan).1).length)], [(0, .row 7 (mapE tNode_own ((pruneF plan).1)))], 1)))))) else r = (.ag [.pv (.sc (.int .i64 (planF plan))), .pv (.sc (.int .i64 0)), .pv .nl], [], 0)))) : Ok0 Try.prog 28 [(pL tNode).enc plan] r.1 r.2.1 r.2.2 := by
  obtain ⟨I, hI⟩ : ∃ I, I = real := ⟨_, rfl⟩; obtain ⟨K, hK⟩ : ∃ K : FuncId → En, K = fun g => (lk g [(57, en57), (63, en63), (50, en50)]).getD default := ⟨_, rfl⟩; have k57 : K 57 = en57 := (by subst hK; rfl); have k63 : K 63 = en63 := (by subst hK; rfl); have k50 : K 50 = en50 := (by subst hK; rfl); clear hK
  show Ok0 Try.prog 28 [.one (.pv (.sl false 7 (tNode.encs plan)))] _ _ _
  obtain ⟨q0, hq0⟩ : ∃ q, q = (tNode.encs plan) := ⟨_, rfl⟩
  try rw [← hq0]
  refine Ok0_run (Y := (Y28 I K)) xok (tY28 hI k57 k63 k50) Try.func28 rfl rfl rfl 2000 hI fun w Xs => ?_; (conv => arg 4; cbv)
  replace h := h w Xs
  repeat' (first | (have hd := And.left h; replace h := And.right h) | ((with_reducible refine on_eqs ?_ ?_); (focus (with_reducible rfl)); conv => arg 4; cbv) | (with_reducible refine on_both ?_ ?_ <;> (conv => arg 4; cbv)) | (with_reducible refine on_true (by assumption) ?_; conv => arg 4; cbv) | (with_reducible refine on_false (by assumption) ?_; conv => arg 4; cbv) | (with_reducible refine on_ask (fun g => ?_) (fun g => ?_) <;> (have hc := g) <;> (try simp (disch := omega) [hI, k57, en57, an57, k63, en63, an63, k50, en50, an50, hq0, -List.length_eq_zero_iff] at hc) <;> (try (exfalso; omega)) <;> (try (first | (revert h; (refine imp_l ?_ (fun h => ?_)); focus (first | exact hc | assumption | omega | (simpa using hc; done))) | (revert h; (refine imp_r ?_ (fun h => ?_)); focus (first | exact hc | assumption | omega | (simpa using hc; done))))) <;> (conv => arg 4; cbv)) | ((with_reducible refine on_must ?_ ?_); (focus ((simp (disch := omega) [hI, k57, en57, an57, k63, en63, an63, k50, en50, an50, hq0]) <;> (first | omega | assumption | ((repeat' (refine And.intro ?_ ?_)) <;> (first | omega | assumption))))); conv => arg 4; cbv))
  all_goals (first | ((subst h); (with_reducible refine on_ret ?_); refine Ended_of rfl ?_))
  all_goals ((conv => lhs; cbv); (try (first | rfl | ((try simp (disch := omega) [hI, k57, en57, an57, k63, en63, an63, k50, en50, an50, hq0, mapE_append, Ty.encs_append, encs1_I64, encs1_U8, encs1, mapE1]) <;> (first | rfl | omega | (simp; done))))))
def sh28 : Shp := fun I i b l s => .ask (b 0) fun t => match t with | true => .ok (.ag [.pv (.sc (.int .i64 (i 0))), .pv (.sc (.int .i64 0)), .pv .nl], [], 0) | false => .ok (.ag [.pv (.sc (.int .i64 0)), .pv (.sc (.int .i64 (i 1))), .arr 0 0 (I.len (l 0))], [(0, .row 7 (l 0))], 1)
noncomputable def an28 : An (List NodeV × Unit) where
  pre t := (okPlan t.1) && (cellsOk t.1)
  i j t := match j with | 0 => planF t.1 | _ => (pruneF t.1).2
  b _ t := (decide (planF t.1 ≠ 0))
  l _ t := (mapE tNode_own ((pruneF t.1).1))
noncomputable def en28 : En := mkE (parsC (pL tNode) pars0) an28
theorem ok28 (plan : List NodeV) (p0 : okPlan plan = true) (p1 : cellsOk plan = true) : Ok0 Try.prog 28 [(pL tNode).enc plan] (if (decide (planF plan ≠ 0)) = true then ((.ag [.pv (.sc (.int .i64 (planF plan))), .pv (.sc (.int .i64 0)), .pv .nl], [], 0) : RES) else ((.ag [.pv (.sc (.int .i64 0)), .pv (.sc (.int .i64 ((pruneF plan).2))), .arr 0 0 ((pruneF plan).1).length], [(0, .row 7 (mapE tNode_own ((pruneF plan).1)))], 1) : RES) : RES).1 (if (decide (planF plan ≠ 0)) = true then ((.ag [.pv (.sc (.int .i64 (planF plan))), .pv (.sc (.int .i64 0)), .pv .nl], [], 0) : RES) else ((.ag [.pv (.sc (.int .i64 0)), .pv (.sc (.int .i64 ((pruneF plan).2))), .arr 0 0 ((pruneF plan).1).length], [(0, .row 7 (mapE tNode_own ((pruneF plan).1)))], 1) : RES) : RES).2.1 (if (decide (planF plan ≠ 0)) = true then ((.ag [.pv (.sc (.int .i64 (planF plan))), .pv (.sc (.int .i64 0)), .pv .nl], [], 0) : RES) else ((.ag [.pv (.sc (.int .i64 0)), .pv (.sc (.int .i64 ((pruneF plan).2))), .arr 0 0 ((pruneF plan).1).length], [(0, .row 7 (mapE tNode_own ((pruneF plan).1)))], 1) : RES) : RES).2.2 := by
  have hl := okPlan_len p0
  by_cases hz : planF plan = 0
  · obtain ⟨f1, f2⟩ := pruneF_ok hz p1
    have h8 := (planF_wid hz).1
    have hR := rwI_iff.2 (RwI.of hz)
    have f0 := pruneF_pos (PlanI.of hz) h8.1
    rw [if_neg (by simpa using hz)]
    refine go28 plan fun w Xs => ?_
    first
      | exact ⟨p0, by rw [if_pos hz]; exact ⟨hR, h8, p1, by omega, f2, rfl⟩⟩
      | exact ⟨hl, by rw [if_pos hz]; exact ⟨hR, h8, p1, rfl⟩⟩
      | exact ⟨p0, by rw [if_pos hz]; exact ⟨p1, by omega, f2, rfl⟩⟩
      | exact ⟨hl, by rw [if_pos hz]; exact ⟨p1, rfl⟩⟩
  · rw [if_pos (by simpa using hz)]
    refine go28 plan fun w Xs => ?_
    first
      | exact ⟨p0, by rw [if_neg hz]⟩
      | exact ⟨hl, by rw [if_neg hz]⟩
theorem s28 {I : Ops} (hI : I = real) {e : En} (he : e = en28) : Sound Try.prog 28 (callE I e sh28) := by
  refine Sound.mkR ent28 hI ?_ he
  rintro ⟨plan, ⟨⟩⟩ hp r σ n e
  have hp : ((okPlan plan) && (cellsOk plan)) = true := hp
  try simp only [Bool.and_eq_true, decide_eq_true_eq] at hp
  obtain ⟨p0, p1⟩ := hp
  have e : (R.ok (if (decide (planF plan ≠ 0)) = true then ((.ag [.pv (.sc (.int .i64 (planF plan))), .pv (.sc (.int .i64 0)), .pv .nl], [], 0) : RES) else ((.ag [.pv (.sc (.int .i64 0)), .pv (.sc (.int .i64 ((pruneF plan).2))), .arr 0 0 ((pruneF plan).1).length], [(0, .row 7 (mapE tNode_own ((pruneF plan).1)))], 1) : RES) : RES) : R RES).val = some (r, σ, n) := by
    rw [← e]
    cases hb : ((decide (planF plan ≠ 0)) : Bool) <;> (try simp at hb) <;> simp [sh28, an28, hb, val_ask]
  have k := ok28 plan p0 p1
  rw [Option.some.inj e] at k
  exact k
end Go.Proofs.Try
