/- Contracts. -/
import Derived.Test.YtngefcgbfpelcaaLrewA
set_option linter.unusedSimpArgs false
set_option linter.unusedVariables false
namespace Go.Proofs.Try
open Go Go.Aix
set_option maxRecDepth 100000
set_option maxHeartbeats 4000000
set_option linter.unusedSimpArgs false
set_option linter.unusedVariables false
theorem ent42 : Enters Try.prog 42 := ⟨Try.f42, Try.func42, by kernel_rfl, by kernel_rfl⟩
noncomputable def Y42_2 (I : Ops) (K : FuncId → En) : CallsA := (Tab.calls [(35, true, callRd I (inl X I (Y35 I K) Try.f35)), (63, false, callVw I (callE I (K 63) sh63)), (52, false, callIce I (callE I (K 52) sh52))])
theorem tY42_2 {I : Ops} (hI : I = real) {K : FuncId → En} (k57 : K 57 = en57) (k63 : K 63 = en63) (k52 : K 52 = en52) : CallsOk Try.prog (Y42_2 I K) := (TabOk.calls mixed ⟨EntryOk.rd (s35 hI k57) hI, fun _ => callRd_quiet _ _, ⟨EntryOk.vw (s63 hI k63) hI, notQuiet, ⟨EntryOk.own (s52 hI k52) hI, notQuiet, trivial⟩⟩⟩)
theorem s42 {I : Ops} (hI : I = real) {K : FuncId → En} (k57 : K 57 = en57) (k63 : K 63 = en63) (k52 : K 52 = en52) : Sound Try.prog 42 (inl X I (Y42_2 I K) Try.f42) :=
  Sound.inl (Y := (Y42_2 I K)) xok (tY42_2 hI k57 k63 k52) ent42 Try.func42 rfl rfl hI
theorem ent30 : Enters Try.prog 30 := ⟨Try.f30, Try.func30, by kernel_rfl, by kernel_rfl⟩
noncomputable def Y30 (I : Ops) (K : FuncId → En) : CallsA := (Tab.calls [(42, false, callIce I (inl X I (Y42_2 I K) Try.f42)), (52, false, callIce I (callE I (K 52) sh52))])
theorem tY30 {I : Ops} (hI : I = real) {K : FuncId → En} (k57 : K 57 = en57) (k63 : K 63 = en63) (k52 : K 52 = en52) : CallsOk Try.prog (Y30 I K) := (TabOk.calls mixed ⟨EntryOk.own (s42 hI k57 k63 k52) hI, notQuiet, ⟨EntryOk.own (s52 hI k52) hI, notQuiet, trivial⟩⟩)
theorem go30 (plan : List NodeV) {r : RES} (h : ∀ (w : World) (Xs : Nat → Prop), (((okPlan plan) = true) ∧ (if planF plan = 0 then (((rwI plan) = true) ∧ ((0 < plan.length ∧ plan.length ≤ 8) ∧ (((cellsOk plan) = true) ∧ ((0 < ((rewF plan).1).length ∧ ((rewF plan).1).length ≤ 1048576) ∧ (((cellsOk ((rewF plan).1)) = true) ∧ r = (.ag [.pv (.sc (.int .i64 0)), .pv (.sc (.int .i64 ((rewF plan).2))), .arr 0 0 (((rewF plan).1).length)], [(0, .row 7 (mapE tNode_own ((rewF plan).1)))], 1)))))) else r = (.ag [.pv (.sc (.int .i64 (planF plan))), .pv (.sc (.int .i64 0)), .pv .nl], [], 0)))) : Ok0 Try.prog 30 [(pL tNode).enc plan] r.1 r.2.1 r.2.2 := by
  obtain ⟨I, hI⟩ : ∃ I, I = real := ⟨_, rfl⟩; obtain ⟨K, hK⟩ : ∃ K : FuncId → En, K = fun g => (lk g [(57, en57), (63, en63), (52, en52)]).getD default := ⟨_, rfl⟩; have k57 : K 57 = en57 := (by subst hK; rfl); have k63 : K 63 = en63 := (by subst hK; rfl); have k52 : K 52 = en52 := (by subst hK; rfl); clear hK
  show Ok0 Try.prog 30 [.one (.pv (.sl false 7 (tNode.encs plan)))] _ _ _
  obtain ⟨q0, hq0⟩ : ∃ q, q = (tNode.encs plan) := ⟨_, rfl⟩
  try rw [← hq0]
  refine Ok0_run (Y := (Y30 I K)) xok (tY30 hI k57 k63 k52) Try.func30 rfl rfl rfl 2000 hI fun w Xs => ?_; (conv => arg 4; cbv)
  replace h := h w Xs
  repeat' (first | (have hd := And.left h; replace h := And.right h) | ((with_reducible refine on_eqs ?_ ?_); (focus (with_reducible rfl)); conv => arg 4; cbv) | (with_reducible refine on_both ?_ ?_ <;> (conv => arg 4; cbv)) | (with_reducible refine on_true (by assumption) ?_; conv => arg 4; cbv) | (with_reducible refine on_false (by assumption) ?_; conv => arg 4; cbv) | (with_reducible refine on_ask (fun g => ?_) (fun g => ?_) <;> (have hc := g) <;> (try simp (disch := omega) [hI, k57, en57, an57, k63, en63, an63, k52, en52, an52, hq0, -List.length_eq_zero_iff] at hc) <;> (try (exfalso; omega)) <;> (try (first | (revert h; (refine imp_l ?_ (fun h => ?_)); focus (first | exact hc | assumption | omega | (simpa using hc; done))) | (revert h; (refine imp_r ?_ (fun h => ?_)); focus (first | exact hc | assumption | omega | (simpa using hc; done))))) <;> (conv => arg 4; cbv)) | ((with_reducible refine on_must ?_ ?_); (focus ((simp (disch := omega) [hI, k57, en57, an57, k63, en63, an63, k52, en52, an52, hq0]) <;> (first | omega | assumption | ((repeat' (refine And.intro ?_ ?_)) <;> (first | omega | assumption))))); conv => arg 4; cbv))
  all_goals (first | ((subst h); (with_reducible refine on_ret ?_); refine Ended_of rfl ?_))
  all_goals ((conv => lhs; cbv); (try (first | rfl | ((try simp (disch := omega) [hI, k57, en57, an57, k63, en63, an63, k52, en52, an52, hq0, mapE_append, Ty.encs_append, encs1_I64, encs1_U8, encs1, mapE1]) <;> (first | rfl | omega | (simp; done))))))
def sh30 : Shp := fun I i b l s => .ask (b 0) fun t => match t with | true => .ok (.ag [.pv (.sc (.int .i64 (i 0))), .pv (.sc (.int .i64 0)), .pv .nl], [], 0) | false => .ok (.ag [.pv (.sc (.int .i64 0)), .pv (.sc (.int .i64 (i 1))), .arr 0 0 (I.len (l 0))], [(0, .row 7 (l 0))], 1)
noncomputable def an30 : An (List NodeV × Unit) where
  pre t := (okPlan t.1) && (cellsOk t.1)
  i j t := match j with | 0 => planF t.1 | _ => (rewF t.1).2
  b _ t := (decide (planF t.1 ≠ 0))
  l _ t := (mapE tNode_own ((rewF t.1).1))
noncomputable def en30 : En := mkE (parsC (pL tNode) pars0) an30
theorem ok30 (plan : List NodeV) (p0 : okPlan plan = true) (p1 : cellsOk plan = true) : Ok0 Try.prog 30 [(pL tNode).enc plan] (if (decide (planF plan ≠ 0)) = true then ((.ag [.pv (.sc (.int .i64 (planF plan))), .pv (.sc (.int .i64 0)), .pv .nl], [], 0) : RES) else ((.ag [.pv (.sc (.int .i64 0)), .pv (.sc (.int .i64 ((rewF plan).2))), .arr 0 0 ((rewF plan).1).length], [(0, .row 7 (mapE tNode_own ((rewF plan).1)))], 1) : RES) : RES).1 (if (decide (planF plan ≠ 0)) = true then ((.ag [.pv (.sc (.int .i64 (planF plan))), .pv (.sc (.int .i64 0)), .pv .nl], [], 0) : RES) else ((.ag [.pv (.sc (.int .i64 0)), .pv (.sc (.int .i64 ((rewF plan).2))), .arr 0 0 ((rewF plan).1).length], [(0, .row 7 (mapE tNode_own ((rewF plan).1)))], 1) : RES) : RES).2.1 (if (decide (planF plan ≠ 0)) = true then ((.ag [.pv (.sc (.int .i64 (planF plan))), .pv (.sc (.int .i64 0)), .pv .nl], [], 0) : RES) else ((.ag [.pv (.sc (.int .i64 0)), .pv (.sc (.int .i64 ((rewF plan).2))), .arr 0 0 ((rewF plan).1).length], [(0, .row 7 (mapE tNode_own ((rewF plan).1)))], 1) : RES) : RES).2.2 := by
  have hl := okPlan_len p0
  by_cases hz : planF plan = 0
  · obtain ⟨f1, f2⟩ := rewF_ok hz p1
    have h8 := (planF_wid hz).1
    have hR := rwI_iff.2 (RwI.of hz)
    have f0 := (show 0 < (rewF plan).1.length from (rewLp_ok 20 plan 0 (Gd.of hz p1)).1.l.1)
    rw [if_neg (by simpa using hz)]
    refine go30 plan fun w Xs => ?_
    first
      | exact ⟨p0, by rw [if_pos hz]; exact ⟨hR, h8, p1, by omega, f2, rfl⟩⟩
      | exact ⟨hl, by rw [if_pos hz]; exact ⟨hR, h8, p1, rfl⟩⟩
      | exact ⟨p0, by rw [if_pos hz]; exact ⟨p1, by omega, f2, rfl⟩⟩
      | exact ⟨hl, by rw [if_pos hz]; exact ⟨p1, rfl⟩⟩
  · rw [if_pos (by simpa using hz)]
    refine go30 plan fun w Xs => ?_
    first
      | exact ⟨p0, by rw [if_neg hz]⟩
      | exact ⟨hl, by rw [if_neg hz]⟩
theorem s30 {I : Ops} (hI : I = real) {e : En} (he : e = en30) : Sound Try.prog 30 (callE I e sh30) := by
  refine Sound.mkR ent30 hI ?_ he
  rintro ⟨plan, ⟨⟩⟩ hp r σ n e
  have hp : ((okPlan plan) && (cellsOk plan)) = true := hp
  try simp only [Bool.and_eq_true, decide_eq_true_eq] at hp
  obtain ⟨p0, p1⟩ := hp
  have e : (R.ok (if (decide (planF plan ≠ 0)) = true then ((.ag [.pv (.sc (.int .i64 (planF plan))), .pv (.sc (.int .i64 0)), .pv .nl], [], 0) : RES) else ((.ag [.pv (.sc (.int .i64 0)), .pv (.sc (.int .i64 ((rewF plan).2))), .arr 0 0 ((rewF plan).1).length], [(0, .row 7 (mapE tNode_own ((rewF plan).1)))], 1) : RES) : RES) : R RES).val = some (r, σ, n) := by
    rw [← e]
    cases hb : ((decide (planF plan ≠ 0)) : Bool) <;> (try simp at hb) <;> simp [sh30, an30, hb, val_ask]
  have k := ok30 plan p0 p1
  rw [Option.some.inj e] at k
  exact k
end Go.Proofs.Try
