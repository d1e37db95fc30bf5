/- Contracts. -/
import Derived.Test.YtngefcgbfpelcaaLdblA
import Derived.Test.YtngefcgbfpelcaaLp
import Derived.Test.YtngefcgbfpelcaaMk
set_option linter.unusedSimpArgs false
set_option linter.unusedVariables false
namespace Go.Proofs.Try
open Go Go.Aix
set_option maxRecDepth 100000
set_option maxHeartbeats 4000000
set_option linter.unusedSimpArgs false
set_option linter.unusedVariables false
theorem ent42 : Enters Try.prog 42 := ⟨Try.f42, Try.func42, by kernel_rfl, by kernel_rfl⟩
theorem s42 {I : Ops} (hI : I = real) {K : FuncId → En} (k57 : K 57 = en57) (k63 : K 63 = en63) (k46 : K 46 = en46) : Sound Try.prog 42 (inl X I (Tab.calls [(35, true, callRd I (inl X I (Tab.calls [(57, false, callIce I (callE I (K 57) sh57))]) Try.f35)), (63, false, callVw I (callE I (K 63) sh63)), (46, false, callIce I (callE I (K 46) sh46))]) Try.f42) :=
  Sound.inl (Y := (Tab.calls [(35, true, callRd I (inl X I (Tab.calls [(57, false, callIce I (callE I (K 57) sh57))]) Try.f35)), (63, false, callVw I (callE I (K 63) sh63)), (46, false, callIce I (callE I (K 46) sh46))])) xok (TabOk.calls mixed ⟨EntryOk.rd (s35 hI k57) hI, fun _ => callRd_quiet _ _, ⟨EntryOk.vw (s63 hI k63) hI, notQuiet, ⟨EntryOk.own (s46 hI k46) hI, notQuiet, trivial⟩⟩⟩) ent42 Try.func42 rfl rfl hI
theorem ent23 : Enters Try.prog 23 := ⟨Try.f23, Try.func23, by kernel_rfl, by kernel_rfl⟩
theorem go23 (plan : List NodeV) {r : RES} (h : ∀ (w : World) (Xs : Nat → Prop), ((plan.length < 4611686018427387904) ∧ (if planF plan = 0 then (((cellsOk plan) = true) ∧ r = (.ag [.pv (.sc (.int .i64 0)), .pv (.sc (.int .i64 ((dblF plan).2))), .arr 0 0 (((dblF plan).1).length)], [(0, .row 7 (tNode.encs ((dblF plan).1)))], 1)) else r = (.ag [.pv (.sc (.int .i64 (planF plan))), .pv (.sc (.int .i64 0)), .pv .nl], [], 0)))) : Ok0 Try.prog 23 [(pL tNode).enc plan] r.1 r.2.1 r.2.2 := by
  obtain ⟨I, hI⟩ : ∃ I, I = real := ⟨_, rfl⟩; obtain ⟨K, hK⟩ : ∃ K : FuncId → En, K = fun g => (lk g [(32, en32), (45, en45)]).getD default := ⟨_, rfl⟩; have k32 : K 32 = en32 := (by subst hK; rfl); have k45 : K 45 = en45 := (by subst hK; rfl); clear hK
  show Ok0 Try.prog 23 [.one (.pv (.sl false 7 (tNode.encs plan)))] _ _ _
  obtain ⟨q0, hq0⟩ : ∃ q, q = (tNode.encs plan) := ⟨_, rfl⟩
  try rw [← hq0]
  refine Ok0_run (Y := (Tab.calls [(32, true, callRd I (callE I (K 32) sh32)), (45, false, callIce I (callE I (K 45) sh45))])) xok (TabOk.calls mixed ⟨EntryOk.rd (s32 hI k32) hI, fun _ => callRd_quiet _ _, ⟨EntryOk.own (s45 hI k45) hI, notQuiet, trivial⟩⟩) Try.func23 rfl rfl rfl 2000 hI fun w Xs => ?_; (conv => arg 4; cbv)
  replace h := h w Xs
  repeat' (first | (have hd := And.left h; replace h := And.right h) | ((with_reducible refine on_eqs ?_ ?_); (focus (with_reducible rfl)); conv => arg 4; cbv) | (with_reducible refine on_both ?_ ?_ <;> (conv => arg 4; cbv)) | (with_reducible refine on_true (by assumption) ?_; conv => arg 4; cbv) | (with_reducible refine on_false (by assumption) ?_; conv => arg 4; cbv) | (with_reducible refine on_ask (fun g => ?_) (fun g => ?_) <;> (have hc := g) <;> (try simp (disch := omega) [hI, k32, en32, an32, k45, en45, an45, hq0, -List.length_eq_zero_iff] at hc) <;> (try (exfalso; omega)) <;> (try (first | (revert h; (refine imp_l ?_ (fun h => ?_)); focus (first | exact hc | assumption | omega | (simpa using hc; done))) | (revert h; (refine imp_r ?_ (fun h => ?_)); focus (first | exact hc | assumption | omega | (simpa using hc; done))))) <;> (conv => arg 4; cbv)) | ((with_reducible refine on_must ?_ ?_); (focus (first | (simp (disch := omega) [hI, k32, en32, an32, k45, en45, an45, hq0]; done) | (simp (disch := omega) [hI, k32, en32, an32, k45, en45, an45, hq0]; omega) | (simp (disch := omega) [hI, k32, en32, an32, k45, en45, an45, hq0]; assumption) | (simp (disch := omega) [hI, k32, en32, an32, k45, en45, an45, hq0]; (refine And.intro ?_ ?_) <;> (first | omega | assumption)))); conv => arg 4; cbv))
  all_goals (first | ((subst h); (with_reducible refine on_ret ?_); refine Ended_of rfl ?_; (conv => lhs; cbv); (try (first | rfl | (simp (disch := omega) [hI, k32, en32, an32, k45, en45, an45, hq0, mapE_append, Ty.encs_append, encs1_I64, encs1_U8, encs1, mapE1]; done) | ((try simp (disch := omega) [hI, k32, en32, an32, k45, en45, an45, hq0, mapE_append, Ty.encs_append, encs1_I64, encs1_U8, encs1, mapE1]); first | rfl | omega | (simp; done))))))
def sh23 : Shp := fun I i b l s => .ask (b 0) fun t => match t with | true => .ok (.ag [.pv (.sc (.int .i64 (i 0))), .pv (.sc (.int .i64 0)), .pv .nl], [], 0) | false => .ok (.ag [.pv (.sc (.int .i64 0)), .pv (.sc (.int .i64 (i 1))), .arr 0 0 (I.len (l 0))], [(0, .row 7 (l 0))], 1)
def an23 : An (List NodeV × Unit) where
  pre t := (okPlan t.1) && (cellsOk t.1)
  i j t := match j with | 0 => planF t.1 | _ => (dblF t.1).2
  b _ t := (decide (planF t.1 ≠ 0))
  l _ t := (tNode.encs ((dblF t.1).1))
noncomputable def en23 : En := mkE (parsC (pL tNode) pars0) an23
theorem ok23 (plan : List NodeV) (p0 : okPlan plan = true) (p1 : cellsOk plan = true) : Ok0 Try.prog 23 [(pL tNode).enc plan] (if (decide (planF plan ≠ 0)) = true then ((.ag [.pv (.sc (.int .i64 (planF plan))), .pv (.sc (.int .i64 0)), .pv .nl], [], 0) : RES) else ((.ag [.pv (.sc (.int .i64 0)), .pv (.sc (.int .i64 ((dblF plan).2))), .arr 0 0 ((dblF plan).1).length], [(0, .row 7 (tNode.encs ((dblF plan).1)))], 1) : RES) : RES).1 (if (decide (planF plan ≠ 0)) = true then ((.ag [.pv (.sc (.int .i64 (planF plan))), .pv (.sc (.int .i64 0)), .pv .nl], [], 0) : RES) else ((.ag [.pv (.sc (.int .i64 0)), .pv (.sc (.int .i64 ((dblF plan).2))), .arr 0 0 ((dblF plan).1).length], [(0, .row 7 (tNode.encs ((dblF plan).1)))], 1) : RES) : RES).2.1 (if (decide (planF plan ≠ 0)) = true then ((.ag [.pv (.sc (.int .i64 (planF plan))), .pv (.sc (.int .i64 0)), .pv .nl], [], 0) : RES) else ((.ag [.pv (.sc (.int .i64 0)), .pv (.sc (.int .i64 ((dblF plan).2))), .arr 0 0 ((dblF plan).1).length], [(0, .row 7 (tNode.encs ((dblF plan).1)))], 1) : RES) : RES).2.2 := by
  have hl := okPlan_len p0
  by_cases hz : planF plan = 0
  · obtain ⟨f1, f2⟩ := dblF_ok hz p1
    have h8 := (planF_wid hz).1
    rw [if_neg (by simpa using hz)]
    refine go23 plan fun w Xs => ?_
    first
      | exact ⟨p0, by rw [if_pos hz]; exact ⟨hz, p1, by omega, f2, rfl⟩⟩
      | exact ⟨hl, by rw [if_pos hz]; exact ⟨hz, p1, rfl⟩⟩
      | exact ⟨p0, by rw [if_pos hz]; exact ⟨p1, by omega, f2, rfl⟩⟩
      | exact ⟨hl, by rw [if_pos hz]; exact ⟨p1, rfl⟩⟩
  · rw [if_pos (by simpa using hz)]
    refine go23 plan fun w Xs => ?_
    first
      | exact ⟨p0, by rw [if_neg hz]⟩
      | exact ⟨hl, by rw [if_neg hz]⟩
theorem s23 {I : Ops} (hI : I = real) {e : En} (he : e = en23) : Sound Try.prog 23 (callE I e sh23) := by
  refine Sound.mkR ent23 hI ?_ he
  rintro ⟨plan, ⟨⟩⟩ hp r σ n e
  have hp : ((okPlan plan) && (cellsOk plan)) = true := hp
  try simp only [Bool.and_eq_true, decide_eq_true_eq] at hp
  obtain ⟨p0, p1⟩ := hp
  have e : (R.ok (if (decide (planF plan ≠ 0)) = true then ((.ag [.pv (.sc (.int .i64 (planF plan))), .pv (.sc (.int .i64 0)), .pv .nl], [], 0) : RES) else ((.ag [.pv (.sc (.int .i64 0)), .pv (.sc (.int .i64 ((dblF plan).2))), .arr 0 0 ((dblF plan).1).length], [(0, .row 7 (tNode.encs ((dblF plan).1)))], 1) : RES) : RES) : R RES).val = some (r, σ, n) := by
    rw [← e]
    cases hb : ((decide (planF plan ≠ 0)) : Bool) <;> (try simp at hb) <;> simp [sh23, an23, hb, val_ask]
  have k := ok23 plan p0 p1
  rw [Option.some.inj e] at k
  exact k
theorem ent24 : Enters Try.prog 24 := ⟨Try.f24, Try.func24, by kernel_rfl, by kernel_rfl⟩
theorem go24 (plan : List NodeV) {r : RES} (h : ∀ (w : World) (Xs : Nat → Prop), (((okPlan plan) = true) ∧ (if planF plan = 0 then (((cellsOk plan) = true) ∧ ((0 < ((dblF plan).1).length ∧ ((dblF plan).1).length ≤ 1048576) ∧ (((cellsOk ((dblF plan).1)) = true) ∧ r = (.ag [.pv (.sc (.int .i64 0)), .pv (.sc (.int .i64 ((dblF plan).2))), .arr 0 0 (((dblF plan).1).length)], [(0, .row 7 (mapE tNode_own ((dblF plan).1)))], 1)))) else r = (.ag [.pv (.sc (.int .i64 (planF plan))), .pv (.sc (.int .i64 0)), .pv .nl], [], 0)))) : Ok0 Try.prog 24 [(pL tNode).enc plan] r.1 r.2.1 r.2.2 := by
  obtain ⟨I, hI⟩ : ∃ I, I = real := ⟨_, rfl⟩; obtain ⟨K, hK⟩ : ∃ K : FuncId → En, K = fun g => (lk g [(57, en57), (63, en63), (46, en46)]).getD default := ⟨_, rfl⟩; have k57 : K 57 = en57 := (by subst hK; rfl); have k63 : K 63 = en63 := (by subst hK; rfl); have k46 : K 46 = en46 := (by subst hK; rfl); clear hK
  show Ok0 Try.prog 24 [.one (.pv (.sl false 7 (tNode.encs plan)))] _ _ _
  obtain ⟨q0, hq0⟩ : ∃ q, q = (tNode.encs plan) := ⟨_, rfl⟩
  try rw [← hq0]
  refine Ok0_run (Y := (Tab.calls [(42, false, callIce I (inl X I (Tab.calls [(35, true, callRd I (inl X I (Tab.calls [(57, false, callIce I (callE I (K 57) sh57))]) Try.f35)), (63, false, callVw I (callE I (K 63) sh63)), (46, false, callIce I (callE I (K 46) sh46))]) Try.f42)), (46, false, callIce I (callE I (K 46) sh46))])) xok (TabOk.calls mixed ⟨EntryOk.own (s42 hI k57 k63 k46) hI, notQuiet, ⟨EntryOk.own (s46 hI k46) hI, notQuiet, trivial⟩⟩) Try.func24 rfl rfl rfl 2000 hI fun w Xs => ?_; (conv => arg 4; cbv)
  replace h := h w Xs
  repeat' (first | (have hd := And.left h; replace h := And.right h) | ((with_reducible refine on_eqs ?_ ?_); (focus (with_reducible rfl)); conv => arg 4; cbv) | (with_reducible refine on_both ?_ ?_ <;> (conv => arg 4; cbv)) | (with_reducible refine on_true (by assumption) ?_; conv => arg 4; cbv) | (with_reducible refine on_false (by assumption) ?_; conv => arg 4; cbv) | (with_reducible refine on_ask (fun g => ?_) (fun g => ?_) <;> (have hc := g) <;> (try simp (disch := omega) [hI, k57, en57, an57, k63, en63, an63, k46, en46, an46, hq0, -List.length_eq_zero_iff] at hc) <;> (try (exfalso; omega)) <;> (try (first | (revert h; (refine imp_l ?_ (fun h => ?_)); focus (first | exact hc | assumption | omega | (simpa using hc; done))) | (revert h; (refine imp_r ?_ (fun h => ?_)); focus (first | exact hc | assumption | omega | (simpa using hc; done))))) <;> (conv => arg 4; cbv)) | ((with_reducible refine on_must ?_ ?_); (focus (first | (simp (disch := omega) [hI, k57, en57, an57, k63, en63, an63, k46, en46, an46, hq0]; done) | (simp (disch := omega) [hI, k57, en57, an57, k63, en63, an63, k46, en46, an46, hq0]; omega) | (simp (disch := omega) [hI, k57, en57, an57, k63, en63, an63, k46, en46, an46, hq0]; assumption) | (simp (disch := omega) [hI, k57, en57, an57, k63, en63, an63, k46, en46, an46, hq0]; (refine And.intro ?_ ?_) <;> (first | omega | assumption)))); conv => arg 4; cbv))
  all_goals (first | ((subst h); (with_reducible refine on_ret ?_); refine Ended_of rfl ?_; (conv => lhs; cbv); (try (first | rfl | (simp (disch := omega) [hI, k57, en57, an57, k63, en63, an63, k46, en46, an46, hq0, mapE_append, Ty.encs_append, encs1_I64, encs1_U8, encs1, mapE1]; done) | ((try simp (disch := omega) [hI, k57, en57, an57, k63, en63, an63, k46, en46, an46, hq0, mapE_append, Ty.encs_append, encs1_I64, encs1_U8, encs1, mapE1]); first | rfl | omega | (simp; done))))))
def sh24 : Shp := fun I i b l s => .ask (b 0) fun t => match t with | true => .ok (.ag [.pv (.sc (.int .i64 (i 0))), .pv (.sc (.int .i64 0)), .pv .nl], [], 0) | false => .ok (.ag [.pv (.sc (.int .i64 0)), .pv (.sc (.int .i64 (i 1))), .arr 0 0 (I.len (l 0))], [(0, .row 7 (l 0))], 1)
def an24 : An (List NodeV × Unit) where
  pre t := (okPlan t.1) && (cellsOk t.1)
  i j t := match j with | 0 => planF t.1 | _ => (dblF t.1).2
  b _ t := (decide (planF t.1 ≠ 0))
  l _ t := (mapE tNode_own ((dblF t.1).1))
noncomputable def en24 : En := mkE (parsC (pL tNode) pars0) an24
theorem ok24 (plan : List NodeV) (p0 : okPlan plan = true) (p1 : cellsOk plan = true) : Ok0 Try.prog 24 [(pL tNode).enc plan] (if (decide (planF plan ≠ 0)) = true then ((.ag [.pv (.sc (.int .i64 (planF plan))), .pv (.sc (.int .i64 0)), .pv .nl], [], 0) : RES) else ((.ag [.pv (.sc (.int .i64 0)), .pv (.sc (.int .i64 ((dblF plan).2))), .arr 0 0 ((dblF plan).1).length], [(0, .row 7 (mapE tNode_own ((dblF plan).1)))], 1) : RES) : RES).1 (if (decide (planF plan ≠ 0)) = true then ((.ag [.pv (.sc (.int .i64 (planF plan))), .pv (.sc (.int .i64 0)), .pv .nl], [], 0) : RES) else ((.ag [.pv (.sc (.int .i64 0)), .pv (.sc (.int .i64 ((dblF plan).2))), .arr 0 0 ((dblF plan).1).length], [(0, .row 7 (mapE tNode_own ((dblF plan).1)))], 1) : RES) : RES).2.1 (if (decide (planF plan ≠ 0)) = true then ((.ag [.pv (.sc (.int .i64 (planF plan))), .pv (.sc (.int .i64 0)), .pv .nl], [], 0) : RES) else ((.ag [.pv (.sc (.int .i64 0)), .pv (.sc (.int .i64 ((dblF plan).2))), .arr 0 0 ((dblF plan).1).length], [(0, .row 7 (mapE tNode_own ((dblF plan).1)))], 1) : RES) : RES).2.2 := by
  have hl := okPlan_len p0
  by_cases hz : planF plan = 0
  · obtain ⟨f1, f2⟩ := dblF_ok hz p1
    have h8 := (planF_wid hz).1
    rw [if_neg (by simpa using hz)]
    refine go24 plan fun w Xs => ?_
    first
      | exact ⟨p0, by rw [if_pos hz]; exact ⟨hz, p1, by omega, f2, rfl⟩⟩
      | exact ⟨hl, by rw [if_pos hz]; exact ⟨hz, p1, rfl⟩⟩
      | exact ⟨p0, by rw [if_pos hz]; exact ⟨p1, by omega, f2, rfl⟩⟩
      | exact ⟨hl, by rw [if_pos hz]; exact ⟨p1, rfl⟩⟩
  · rw [if_pos (by simpa using hz)]
    refine go24 plan fun w Xs => ?_
    first
      | exact ⟨p0, by rw [if_neg hz]⟩
      | exact ⟨hl, by rw [if_neg hz]⟩
theorem s24 {I : Ops} (hI : I = real) {e : En} (he : e = en24) : Sound Try.prog 24 (callE I e sh24) := by
  refine Sound.mkR ent24 hI ?_ he
  rintro ⟨plan, ⟨⟩⟩ hp r σ n e
  have hp : ((okPlan plan) && (cellsOk plan)) = true := hp
  try simp only [Bool.and_eq_true, decide_eq_true_eq] at hp
  obtain ⟨p0, p1⟩ := hp
  have e : (R.ok (if (decide (planF plan ≠ 0)) = true then ((.ag [.pv (.sc (.int .i64 (planF plan))), .pv (.sc (.int .i64 0)), .pv .nl], [], 0) : RES) else ((.ag [.pv (.sc (.int .i64 0)), .pv (.sc (.int .i64 ((dblF plan).2))), .arr 0 0 ((dblF plan).1).length], [(0, .row 7 (mapE tNode_own ((dblF plan).1)))], 1) : RES) : RES) : R RES).val = some (r, σ, n) := by
    rw [← e]
    cases hb : ((decide (planF plan ≠ 0)) : Bool) <;> (try simp at hb) <;> simp [sh24, an24, hb, val_ask]
  have k := ok24 plan p0 p1
  rw [Option.some.inj e] at k
  exact k
end Go.Proofs.Try
