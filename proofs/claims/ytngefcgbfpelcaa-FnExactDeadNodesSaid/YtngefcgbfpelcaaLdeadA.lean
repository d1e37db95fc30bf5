/- Contracts. -/
import Derived.Test.YtngefcgbfpelcaaLz
import Derived.Test.YtngefcgbfpelcaaMk
set_option linter.unusedSimpArgs false
set_option linter.unusedVariables false
namespace Go.Proofs.Try
open Go Go.Aix
set_option maxRecDepth 100000
set_option maxHeartbeats 4000000
set_option linter.unusedSimpArgs false
set_option linter.unusedVariables false
theorem ent10 : Enters Try.prog 10 := ⟨Try.f10, Try.func10, by kernel_rfl, by kernel_rfl⟩
theorem go10 (plan : List NodeV) {r : RES} (h : ∀ (w : World) (Xs : Nat → Prop), ((plan.length < 4611686018427387904) ∧ (if planF plan = 0 then ((plan.length ≤ 100) ∧ r = (.ag [.pv (.sc (.int .i64 0)), .arr 0 0 ((deadL plan).length)], [(0, .row 1 (tI64.encs (deadL plan)))], 1)) else r = (.ag [.pv (.sc (.int .i64 (planF plan))), .pv .nl], [], 0)))) : Ok0 Try.prog 10 [(pL tNode).enc plan] r.1 r.2.1 r.2.2 := by
  obtain ⟨I, hI⟩ : ∃ I, I = real := ⟨_, rfl⟩; obtain ⟨K, hK⟩ : ∃ K : FuncId → En, K = fun g => (lk g [(32, en32), (33, en33)]).getD default := ⟨_, rfl⟩; have k32 : K 32 = en32 := (by subst hK; rfl); have k33 : K 33 = en33 := (by subst hK; rfl); clear hK
  show Ok0 Try.prog 10 [.one (.pv (.sl false 7 (tNode.encs plan)))] _ _ _
  obtain ⟨q0, hq0⟩ : ∃ q, q = (tNode.encs plan) := ⟨_, rfl⟩
  try rw [← hq0]
  refine Ok0_run (Y := (Tab.calls [(32, true, callRd I (callE I (K 32) sh32)), (33, false, callVw I (callE I (K 33) sh33))])) xok (TabOk.calls mixed ⟨EntryOk.rd (s32 hI k32) hI, fun _ => callRd_quiet _ _, ⟨EntryOk.vw (s33 hI k33) hI, notQuiet, trivial⟩⟩) Try.func10 rfl rfl rfl 2000 hI fun w Xs => ?_; (conv => arg 4; cbv)
  replace h := h w Xs
  repeat' (first | (have hd := And.left h; replace h := And.right h) | ((with_reducible refine on_eqs ?_ ?_); (focus (with_reducible rfl)); conv => arg 4; cbv) | (with_reducible refine on_both ?_ ?_ <;> (conv => arg 4; cbv)) | (with_reducible refine on_true (by assumption) ?_; conv => arg 4; cbv) | (with_reducible refine on_false (by assumption) ?_; conv => arg 4; cbv) | (with_reducible refine on_ask (fun g => ?_) (fun g => ?_) <;> (have hc := g) <;> (try simp (disch := omega) [hI, k32, en32, an32, k33, en33, an33, hq0, -List.length_eq_zero_iff] at hc) <;> (try (exfalso; omega)) <;> (try (first | (revert h; (refine imp_l ?_ (fun h => ?_)); focus (first | exact hc | assumption | omega | (simpa using hc; done))) | (revert h; (refine imp_r ?_ (fun h => ?_)); focus (first | exact hc | assumption | omega | (simpa using hc; done))))) <;> (conv => arg 4; cbv)) | ((with_reducible refine on_must ?_ ?_); (focus (first | (simp (disch := omega) [hI, k32, en32, an32, k33, en33, an33, hq0]; done) | (simp (disch := omega) [hI, k32, en32, an32, k33, en33, an33, hq0]; omega) | (simp (disch := omega) [hI, k32, en32, an32, k33, en33, an33, hq0]; assumption) | (simp (disch := omega) [hI, k32, en32, an32, k33, en33, an33, hq0]; (refine And.intro ?_ ?_) <;> (first | omega | assumption)) | (simp (disch := omega) [hI, k32, en32, an32, k33, en33, an33, hq0]; (repeat' (refine And.intro ?_ ?_)) <;> (first | omega | assumption)))); conv => arg 4; cbv))
  all_goals (first | ((subst h); (with_reducible refine on_ret ?_); refine Ended_of rfl ?_; (conv => lhs; cbv); (try (first | rfl | (simp (disch := omega) [hI, k32, en32, an32, k33, en33, an33, hq0, mapE_append, Ty.encs_append, encs1_I64, encs1_U8, encs1, mapE1]; done) | ((try simp (disch := omega) [hI, k32, en32, an32, k33, en33, an33, hq0, mapE_append, Ty.encs_append, encs1_I64, encs1_U8, encs1, mapE1]); first | rfl | omega | (simp; done))))))
def sh10 : Shp := fun I i b l s => .ask (b 0) fun t => match t with | true => .ok (.ag [.pv (.sc (.int .i64 (i 0))), .pv .nl], [], 0) | false => .ok (.ag [.pv (.sc (.int .i64 0)), .arr 0 0 (I.len (l 0))], [(0, .row 1 (l 0))], 1)
noncomputable def an10 : An (List NodeV × Unit) where
  pre t := (okPlan t.1) && (cellsOk t.1)
  i _ t := planF t.1
  b _ t := (decide (planF t.1 ≠ 0))
  l _ t := (tI64.encs (deadL t.1))
noncomputable def en10 : En := mkE (parsC (pL tNode) pars0) an10
theorem ok10 (plan : List NodeV) (p0 : okPlan plan = true) (p1 : cellsOk plan = true) : Ok0 Try.prog 10 [(pL tNode).enc plan] (if (decide (planF plan ≠ 0)) = true then ((.ag [.pv (.sc (.int .i64 (planF plan))), .pv .nl], [], 0) : RES) else ((.ag [.pv (.sc (.int .i64 0)), .arr 0 0 (deadL plan).length], [(0, .row 1 (tI64.encs (deadL plan)))], 1) : RES) : RES).1 (if (decide (planF plan ≠ 0)) = true then ((.ag [.pv (.sc (.int .i64 (planF plan))), .pv .nl], [], 0) : RES) else ((.ag [.pv (.sc (.int .i64 0)), .arr 0 0 (deadL plan).length], [(0, .row 1 (tI64.encs (deadL plan)))], 1) : RES) : RES).2.1 (if (decide (planF plan ≠ 0)) = true then ((.ag [.pv (.sc (.int .i64 (planF plan))), .pv .nl], [], 0) : RES) else ((.ag [.pv (.sc (.int .i64 0)), .arr 0 0 (deadL plan).length], [(0, .row 1 (tI64.encs (deadL plan)))], 1) : RES) : RES).2.2 := by
  have hl := okPlan_len p0
  by_cases hz : planF plan = 0
  · have h8 := (planF_wid hz).1
    have hI := planI_iff.2 (PlanI.of hz)
    rw [if_neg (by simpa using hz)]
    refine go10 plan fun w Xs => ?_
    first
      | exact ⟨p0, by rw [if_pos hz]; exact ⟨by omega, rfl⟩⟩
      | exact ⟨hl, by rw [if_pos hz]; exact ⟨by omega, rfl⟩⟩
      | exact ⟨p0, by rw [if_pos hz]; exact ⟨by omega, hI, rfl⟩⟩
      | exact ⟨hl, by rw [if_pos hz]; exact ⟨by omega, hI, rfl⟩⟩
  · rw [if_pos (by simpa using hz)]
    refine go10 plan fun w Xs => ?_
    first
      | exact ⟨p0, by rw [if_neg hz]⟩
      | exact ⟨hl, by rw [if_neg hz]⟩
theorem s10 {I : Ops} (hI : I = real) {e : En} (he : e = en10) : Sound Try.prog 10 (callE I e sh10) := by
  refine Sound.mkR ent10 hI ?_ he
  rintro ⟨plan, ⟨⟩⟩ hp r σ n e
  have hp : ((okPlan plan) && (cellsOk plan)) = true := hp
  try simp only [Bool.and_eq_true, decide_eq_true_eq] at hp
  obtain ⟨p0, p1⟩ := hp
  have e : (R.ok (if (decide (planF plan ≠ 0)) = true then ((.ag [.pv (.sc (.int .i64 (planF plan))), .pv .nl], [], 0) : RES) else ((.ag [.pv (.sc (.int .i64 0)), .arr 0 0 (deadL plan).length], [(0, .row 1 (tI64.encs (deadL plan)))], 1) : RES) : RES) : R RES).val = some (r, σ, n) := by
    rw [← e]
    cases hb : ((decide (planF plan ≠ 0)) : Bool) <;> (try simp at hb) <;> simp [sh10, an10, hb, val_ask]
  have k := ok10 plan p0 p1
  rw [Option.some.inj e] at k
  exact k
theorem ent12 : Enters Try.prog 12 := ⟨Try.f12, Try.func12, by kernel_rfl, by kernel_rfl⟩
theorem go12 (plan : List NodeV) {r : RES} (h : ∀ (w : World) (Xs : Nat → Prop), (((okPlan plan) = true) ∧ (if planF plan = 0 then ((plan.length ≤ 100) ∧ (((planI plan) = true) ∧ r = (.ag [.pv (.sc (.int .i64 0)), .arr 0 0 ((deadL plan).length)], [(0, .row 1 (tI64.encs (deadL plan)))], 1))) else r = (.ag [.pv (.sc (.int .i64 (planF plan))), .pv .nl], [], 0)))) : Ok0 Try.prog 12 [(pL tNode).enc plan] r.1 r.2.1 r.2.2 := by
  obtain ⟨I, hI⟩ : ∃ I, I = real := ⟨_, rfl⟩; obtain ⟨K, hK⟩ : ∃ K : FuncId → En, K = fun g => (lk g [(57, en57), (36, en36)]).getD default := ⟨_, rfl⟩; have k57 : K 57 = en57 := (by subst hK; rfl); have k36 : K 36 = en36 := (by subst hK; rfl); clear hK
  show Ok0 Try.prog 12 [.one (.pv (.sl false 7 (tNode.encs plan)))] _ _ _
  obtain ⟨q0, hq0⟩ : ∃ q, q = (tNode.encs plan) := ⟨_, rfl⟩
  try rw [← hq0]
  refine Ok0_run (Y := (Tab.calls [(35, true, callRd I (inl X I (Tab.calls [(57, false, callIce I (callE I (K 57) sh57))]) Try.f35)), (36, false, callVw I (callE I (K 36) sh36))])) xok (TabOk.calls mixed ⟨EntryOk.rd (s35 hI k57) hI, fun _ => callRd_quiet _ _, ⟨EntryOk.vw (s36 hI k36) hI, notQuiet, trivial⟩⟩) Try.func12 rfl rfl rfl 2000 hI fun w Xs => ?_; (conv => arg 4; cbv)
  replace h := h w Xs
  repeat' (first | (have hd := And.left h; replace h := And.right h) | ((with_reducible refine on_eqs ?_ ?_); (focus (with_reducible rfl)); conv => arg 4; cbv) | (with_reducible refine on_both ?_ ?_ <;> (conv => arg 4; cbv)) | (with_reducible refine on_true (by assumption) ?_; conv => arg 4; cbv) | (with_reducible refine on_false (by assumption) ?_; conv => arg 4; cbv) | (with_reducible refine on_ask (fun g => ?_) (fun g => ?_) <;> (have hc := g) <;> (try simp (disch := omega) [hI, k57, en57, an57, k36, en36, an36, hq0, -List.length_eq_zero_iff] at hc) <;> (try (exfalso; omega)) <;> (try (first | (revert h; (refine imp_l ?_ (fun h => ?_)); focus (first | exact hc | assumption | omega | (simpa using hc; done))) | (revert h; (refine imp_r ?_ (fun h => ?_)); focus (first | exact hc | assumption | omega | (simpa using hc; done))))) <;> (conv => arg 4; cbv)) | ((with_reducible refine on_must ?_ ?_); (focus (first | (simp (disch := omega) [hI, k57, en57, an57, k36, en36, an36, hq0]; done) | (simp (disch := omega) [hI, k57, en57, an57, k36, en36, an36, hq0]; omega) | (simp (disch := omega) [hI, k57, en57, an57, k36, en36, an36, hq0]; assumption) | (simp (disch := omega) [hI, k57, en57, an57, k36, en36, an36, hq0]; (refine And.intro ?_ ?_) <;> (first | omega | assumption)) | (simp (disch := omega) [hI, k57, en57, an57, k36, en36, an36, hq0]; (repeat' (refine And.intro ?_ ?_)) <;> (first | omega | assumption)))); conv => arg 4; cbv))
  all_goals (first | ((subst h); (with_reducible refine on_ret ?_); refine Ended_of rfl ?_; (conv => lhs; cbv); (try (first | rfl | (simp (disch := omega) [hI, k57, en57, an57, k36, en36, an36, hq0, mapE_append, Ty.encs_append, encs1_I64, encs1_U8, encs1, mapE1]; done) | ((try simp (disch := omega) [hI, k57, en57, an57, k36, en36, an36, hq0, mapE_append, Ty.encs_append, encs1_I64, encs1_U8, encs1, mapE1]); first | rfl | omega | (simp; done))))))
def sh12 : Shp := fun I i b l s => .ask (b 0) fun t => match t with | true => .ok (.ag [.pv (.sc (.int .i64 (i 0))), .pv .nl], [], 0) | false => .ok (.ag [.pv (.sc (.int .i64 0)), .arr 0 0 (I.len (l 0))], [(0, .row 1 (l 0))], 1)
noncomputable def an12 : An (List NodeV × Unit) where
  pre t := (okPlan t.1) && (cellsOk t.1)
  i _ t := planF t.1
  b _ t := (decide (planF t.1 ≠ 0))
  l _ t := (tI64.encs (deadL t.1))
noncomputable def en12 : En := mkE (parsC (pL tNode) pars0) an12
theorem ok12 (plan : List NodeV) (p0 : okPlan plan = true) (p1 : cellsOk plan = true) : Ok0 Try.prog 12 [(pL tNode).enc plan] (if (decide (planF plan ≠ 0)) = true then ((.ag [.pv (.sc (.int .i64 (planF plan))), .pv .nl], [], 0) : RES) else ((.ag [.pv (.sc (.int .i64 0)), .arr 0 0 (deadL plan).length], [(0, .row 1 (tI64.encs (deadL plan)))], 1) : RES) : RES).1 (if (decide (planF plan ≠ 0)) = true then ((.ag [.pv (.sc (.int .i64 (planF plan))), .pv .nl], [], 0) : RES) else ((.ag [.pv (.sc (.int .i64 0)), .arr 0 0 (deadL plan).length], [(0, .row 1 (tI64.encs (deadL plan)))], 1) : RES) : RES).2.1 (if (decide (planF plan ≠ 0)) = true then ((.ag [.pv (.sc (.int .i64 (planF plan))), .pv .nl], [], 0) : RES) else ((.ag [.pv (.sc (.int .i64 0)), .arr 0 0 (deadL plan).length], [(0, .row 1 (tI64.encs (deadL plan)))], 1) : RES) : RES).2.2 := by
  have hl := okPlan_len p0
  by_cases hz : planF plan = 0
  · have h8 := (planF_wid hz).1
    have hI := planI_iff.2 (PlanI.of hz)
    rw [if_neg (by simpa using hz)]
    refine go12 plan fun w Xs => ?_
    first
      | exact ⟨p0, by rw [if_pos hz]; exact ⟨by omega, rfl⟩⟩
      | exact ⟨hl, by rw [if_pos hz]; exact ⟨by omega, rfl⟩⟩
      | exact ⟨p0, by rw [if_pos hz]; exact ⟨by omega, hI, rfl⟩⟩
      | exact ⟨hl, by rw [if_pos hz]; exact ⟨by omega, hI, rfl⟩⟩
  · rw [if_pos (by simpa using hz)]
    refine go12 plan fun w Xs => ?_
    first
      | exact ⟨p0, by rw [if_neg hz]⟩
      | exact ⟨hl, by rw [if_neg hz]⟩
theorem s12 {I : Ops} (hI : I = real) {e : En} (he : e = en12) : Sound Try.prog 12 (callE I e sh12) := by
  refine Sound.mkR ent12 hI ?_ he
  rintro ⟨plan, ⟨⟩⟩ hp r σ n e
  have hp : ((okPlan plan) && (cellsOk plan)) = true := hp
  try simp only [Bool.and_eq_true, decide_eq_true_eq] at hp
  obtain ⟨p0, p1⟩ := hp
  have e : (R.ok (if (decide (planF plan ≠ 0)) = true then ((.ag [.pv (.sc (.int .i64 (planF plan))), .pv .nl], [], 0) : RES) else ((.ag [.pv (.sc (.int .i64 0)), .arr 0 0 (deadL plan).length], [(0, .row 1 (tI64.encs (deadL plan)))], 1) : RES) : RES) : R RES).val = some (r, σ, n) := by
    rw [← e]
    cases hb : ((decide (planF plan ≠ 0)) : Bool) <;> (try simp at hb) <;> simp [sh12, an12, hb, val_ask]
  have k := ok12 plan p0 p1
  rw [Option.some.inj e] at k
  exact k
end Go.Proofs.Try
