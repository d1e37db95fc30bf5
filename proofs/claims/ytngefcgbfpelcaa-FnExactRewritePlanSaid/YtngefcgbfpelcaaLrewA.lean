/- Contracts. -/
import Derived.Test.YtngefcgbfpelcaaLrwr
import Derived.Test.YtngefcgbfpelcaaMk
set_option linter.unusedSimpArgs false
set_option linter.unusedVariables false
namespace Go.Proofs.Try
open Go Go.Aix
set_option maxRecDepth 100000
set_option maxHeartbeats 4000000
set_option linter.unusedSimpArgs false
set_option linter.unusedVariables false
theorem ent29 : Enters Try.prog 29 := ⟨Try.f29, Try.func29, by kernel_rfl, by kernel_rfl⟩
def G29_0 (w : World) (Xs : Nat → Prop) (plan : List NodeV) (all : Int) (k : Int) (r : RES) : Prop := W Try.prog 29 Try.f29 (Ent0 w Xs) (Back (Ent0 w Xs) r.1 r.2.1 r.2.2) (place (bodyOf Try.f29) [1,1,1,1,0,1,0,0] [])
  ⟨[(2, .one (.ptr 0 0 0)), (4, .one (.arr 1 0 plan.length)), (5, .one (.pv (.sc (.int .i64 all)))), (6, .one (.pv (.sc (.int .i64 k))))], [(0, .box [.pv (.sc (.int .i64 0)), .pv (.sc (.int .i64 0)), .pv .nl]), (1, .row 7 (tNode.encs plan))], 2⟩
noncomputable def Y29 (I : Ops) (K : FuncId → En) : CallsA := (Tab.calls [(32, true, callRd I (callE I (K 32) sh32)), (51, false, callIce I (callE I (K 51) sh51)), (47, false, callIce I (callE I (K 47) sh47)), (45, false, callIce I (callE I (K 45) sh45)), (41, false, callIce I (callE I (K 41) sh41)), (49, false, callIce I (callE I (K 49) sh49))])
theorem tY29 {I : Ops} (hI : I = real) {K : FuncId → En} (k32 : K 32 = en32) (k51 : K 51 = en51) (k47 : K 47 = en47) (k45 : K 45 = en45) (k41 : K 41 = en41) (k49 : K 49 = en49) : CallsOk Try.prog (Y29 I K) := (TabOk.calls mixed ⟨EntryOk.rd (s32 hI k32) hI, fun _ => callRd_quiet _ _, ⟨EntryOk.own (s51 hI k51) hI, notQuiet, ⟨EntryOk.own (s47 hI k47) hI, notQuiet, ⟨EntryOk.own (s45 hI k45) hI, notQuiet, ⟨EntryOk.own (s41 hI k41) hI, notQuiet, ⟨EntryOk.own (s49 hI k49) hI, notQuiet, trivial⟩⟩⟩⟩⟩⟩)
theorem st29_0 {w : World} {Xs : Nat → Prop} (plan : List NodeV) (all : Int) (k : Int) {r : RES} (h : (if k < 20 then (((rwI plan) = true) ∧ ((0 < plan.length ∧ plan.length ≤ 8) ∧ (((cellsOk plan) = true) ∧ (((rwI ((pushF plan).1)) = true) ∧ ((0 < ((pushF plan).1).length ∧ ((pushF plan).1).length ≤ 8) ∧ (((cellsOk ((pushF plan).1)) = true) ∧ (((rwI ((dblF ((pushF plan).1)).1)) = true) ∧ ((0 < ((dblF ((pushF plan).1)).1).length ∧ ((dblF ((pushF plan).1)).1).length ≤ 8) ∧ (((cellsOk ((dblF ((pushF plan).1)).1)) = true) ∧ (((rwI ((foldF ((dblF ((pushF plan).1)).1)).1)) = true) ∧ ((0 < ((foldF ((dblF ((pushF plan).1)).1)).1).length ∧ ((foldF ((dblF ((pushF plan).1)).1)).1).length ≤ 8) ∧ (((cellsOk ((foldF ((dblF ((pushF plan).1)).1)).1)) = true) ∧ (if (IntKind.i64.wrap ((IntKind.i64.wrap ((IntKind.i64.wrap ((pushF plan).2 + (dblF ((pushF plan).1)).2)) + (foldF ((dblF ((pushF plan).1)).1)).2)) + (pruneF ((foldF ((dblF ((pushF plan).1)).1)).1)).2)) = 0 then r = (.ag [.pv (.sc (.int .i64 0)), .pv (.sc (.int .i64 (IntKind.i64.wrap ((IntKind.i64.wrap ((IntKind.i64.wrap ((IntKind.i64.wrap (all + (pushF plan).2)) + (dblF ((pushF plan).1)).2)) + (foldF ((dblF ((pushF plan).1)).1)).2)) + (pruneF ((foldF ((dblF ((pushF plan).1)).1)).1)).2)))), .arr 0 0 (((pruneF ((foldF ((dblF ((pushF plan).1)).1)).1)).1).length)], [(0, .row 7 (tNode.encs ((pruneF ((foldF ((dblF ((pushF plan).1)).1)).1)).1)))], 1) else G29_0 w Xs ((pruneF ((foldF ((dblF ((pushF plan).1)).1)).1)).1) (IntKind.i64.wrap ((IntKind.i64.wrap ((IntKind.i64.wrap ((IntKind.i64.wrap (all + (pushF plan).2)) + (dblF ((pushF plan).1)).2)) + (foldF ((dblF ((pushF plan).1)).1)).2)) + (pruneF ((foldF ((dblF ((pushF plan).1)).1)).1)).2)) (IntKind.i64.wrap (k + 1)) r))))))))))))) else r = (.ag [.pv (.sc (.int .i64 0)), .pv (.sc (.int .i64 all)), .arr 0 0 plan.length], [(0, .row 7 (tNode.encs plan))], 1))) : G29_0 w Xs plan all k r := by
  obtain ⟨I, hI⟩ : ∃ I, I = real := ⟨_, rfl⟩; obtain ⟨K, hK⟩ : ∃ K : FuncId → En, K = fun g => (lk g [(32, en32), (51, en51), (47, en47), (45, en45), (41, en41), (49, en49)]).getD default := ⟨_, rfl⟩; have k32 : K 32 = en32 := (by subst hK; rfl); have k51 : K 51 = en51 := (by subst hK; rfl); have k47 : K 47 = en47 := (by subst hK; rfl); have k45 : K 45 = en45 := (by subst hK; rfl); have k41 : K 41 = en41 := (by subst hK; rfl); have k49 : K 49 = en49 := (by subst hK; rfl); clear hK
  unfold G29_0
  obtain ⟨q0, hq0⟩ : ∃ q, q = (tNode.encs plan) := ⟨_, rfl⟩
  try rw [← hq0]
  obtain ⟨q1, hq1⟩ : ∃ q, q = plan.length := ⟨_, rfl⟩
  try rw [← hq1]
  refine W_go (Y := (Y29 I K)) xok (tY29 hI k32 k51 k47 k45 k41 k49) Try.func29 rfl 2000 _ hI ?_; (conv => arg 4; cbv)
  repeat' (first | (have hd := And.left h; replace h := And.right h) | ((with_reducible refine on_eqs ?_ ?_); (focus (with_reducible rfl)); conv => arg 4; cbv) | (with_reducible refine on_both ?_ ?_ <;> (conv => arg 4; cbv)) | (with_reducible refine on_true (by assumption) ?_; conv => arg 4; cbv) | (with_reducible refine on_false (by assumption) ?_; conv => arg 4; cbv) | (with_reducible refine on_ask (fun g => ?_) (fun g => ?_) <;> (have hc := g) <;> (try simp (disch := omega) [hI, k32, en32, an32, k51, en51, an51, k47, en47, an47, k45, en45, an45, k41, en41, an41, k49, en49, an49, hq0, hq1, -List.length_eq_zero_iff] at hc) <;> (try (exfalso; omega)) <;> (try (first | (revert h; (refine imp_l ?_ (fun h => ?_)); focus (first | exact hc | assumption | omega | (simpa using hc; done))) | (revert h; (refine imp_r ?_ (fun h => ?_)); focus (first | exact hc | assumption | omega | (simpa using hc; done))))) <;> (conv => arg 4; cbv)) | ((with_reducible refine on_must ?_ ?_); (focus ((simp (disch := omega) [hI, k32, en32, an32, k51, en51, an51, k47, en47, an47, k45, en45, an45, k41, en41, an41, k49, en49, an49, hq0, hq1]) <;> (first | omega | assumption | ((repeat' (refine And.intro ?_ ?_)) <;> (first | omega | assumption))))); conv => arg 4; cbv))
  all_goals (first | ((with_reducible have hG : G29_0 _ _ _ _ _ _ := h); unfold G29_0 at hG; (with_reducible refine on_loop ?_); simp only [List.cons_append, List.nil_append]; refine W_norm [2, 4, 5, 6] ?_ hG) | ((subst h); (with_reducible refine on_ret ?_); refine Ended_of rfl ?_))
  all_goals ((conv => lhs; cbv); (try (first | rfl | ((try simp (disch := omega) [hI, k32, en32, an32, k51, en51, an51, k47, en47, an47, k45, en45, an45, k41, en41, an41, k49, en49, an49, hq0, hq1, mapE_append, Ty.encs_append, encs1_I64, encs1_U8, encs1, mapE1]) <;> (first | rfl | omega | (simp; done))))))
theorem go29 (plan : List NodeV) {r : RES} (h : ∀ (w : World) (Xs : Nat → Prop), ((plan.length < 4611686018427387904) ∧ (if planF plan = 0 then ((plan.length ≤ 1048576) ∧ (((cellsOk plan) = true) ∧ G29_0 w Xs plan 0 0 r)) else r = (.ag [.pv (.sc (.int .i64 (planF plan))), .pv (.sc (.int .i64 0)), .pv .nl], [], 0)))) : Ok0 Try.prog 29 [(pL tNode).enc plan] r.1 r.2.1 r.2.2 := by
  obtain ⟨I, hI⟩ : ∃ I, I = real := ⟨_, rfl⟩; obtain ⟨K, hK⟩ : ∃ K : FuncId → En, K = fun g => (lk g [(32, en32), (51, en51), (47, en47), (45, en45), (41, en41), (49, en49)]).getD default := ⟨_, rfl⟩; have k32 : K 32 = en32 := (by subst hK; rfl); have k51 : K 51 = en51 := (by subst hK; rfl); have k47 : K 47 = en47 := (by subst hK; rfl); have k45 : K 45 = en45 := (by subst hK; rfl); have k41 : K 41 = en41 := (by subst hK; rfl); have k49 : K 49 = en49 := (by subst hK; rfl); clear hK
  show Ok0 Try.prog 29 [.one (.pv (.sl false 7 (tNode.encs plan)))] _ _ _
  obtain ⟨q0, hq0⟩ : ∃ q, q = (tNode.encs plan) := ⟨_, rfl⟩
  try rw [← hq0]
  refine Ok0_run (Y := (Y29 I K)) xok (tY29 hI k32 k51 k47 k45 k41 k49) Try.func29 rfl rfl rfl 2000 hI fun w Xs => ?_; (conv => arg 4; cbv)
  replace h := h w Xs
  repeat' (first | (have hd := And.left h; replace h := And.right h) | ((with_reducible refine on_eqs ?_ ?_); (focus (with_reducible rfl)); conv => arg 4; cbv) | (with_reducible refine on_both ?_ ?_ <;> (conv => arg 4; cbv)) | (with_reducible refine on_true (by assumption) ?_; conv => arg 4; cbv) | (with_reducible refine on_false (by assumption) ?_; conv => arg 4; cbv) | (with_reducible refine on_ask (fun g => ?_) (fun g => ?_) <;> (have hc := g) <;> (try simp (disch := omega) [hI, k32, en32, an32, k51, en51, an51, k47, en47, an47, k45, en45, an45, k41, en41, an41, k49, en49, an49, hq0, -List.length_eq_zero_iff] at hc) <;> (try (exfalso; omega)) <;> (try (first | (revert h; (refine imp_l ?_ (fun h => ?_)); focus (first | exact hc | assumption | omega | (simpa using hc; done))) | (revert h; (refine imp_r ?_ (fun h => ?_)); focus (first | exact hc | assumption | omega | (simpa using hc; done))))) <;> (conv => arg 4; cbv)) | ((with_reducible refine on_must ?_ ?_); (focus ((simp (disch := omega) [hI, k32, en32, an32, k51, en51, an51, k47, en47, an47, k45, en45, an45, k41, en41, an41, k49, en49, an49, hq0]) <;> (first | omega | assumption | ((repeat' (refine And.intro ?_ ?_)) <;> (first | omega | assumption))))); conv => arg 4; cbv))
  all_goals (first | ((with_reducible have hG : G29_0 _ _ _ _ _ _ := h); unfold G29_0 at hG; (with_reducible refine on_loop ?_); simp only [List.cons_append, List.nil_append]; refine W_norm [2, 4, 5, 6] ?_ hG) | ((subst h); (with_reducible refine on_ret ?_); refine Ended_of rfl ?_))
  all_goals ((conv => lhs; cbv); (try (first | rfl | ((try simp (disch := omega) [hI, k32, en32, an32, k51, en51, an51, k47, en47, an47, k45, en45, an45, k41, en41, an41, k49, en49, an49, hq0, mapE_append, Ty.encs_append, encs1_I64, encs1_U8, encs1, mapE1]) <;> (first | rfl | omega | (simp; done))))))
theorem lm_srew {w : World} {Xs : Nat → Prop} : ∀ (k i : Nat) (p : List NodeV) (all : Int), k + i = 20 → Gd p → 0 ≤ all → all ≤ 32 * i → G29_0 w Xs p all i (resRW (rewLp k p all)) := by
  intro k
  induction k with
  | zero =>
    intro i p all hk hg h0 h1
    apply st29_0
    rw [if_neg (by omega)]
    rfl
  | succ k ih =>
    intro i p all hk hg h0 h1
    have a := hg.push; have b := a.1.dbl; have c := b.1.fold; have d := c.1.prune
    have a2 := hg.d1; have b2 := a.1.d2; have c2 := b.1.d3; have d2 := c.1.d4
    apply st29_0
    rw [if_pos (by omega), wsucc (by omega), wr4 a2 b2 c2 d2, wr5 ⟨h0, by omega⟩ a2 b2 c2 d2]
    refine ⟨rwI_iff.2 hg.i, hg.l, hg.c, rwI_iff.2 a.1.i, a.1.l, a.1.c, rwI_iff.2 b.1.i, b.1.l, b.1.c, rwI_iff.2 c.1.i, c.1.l, c.1.c, if_go (fun q => ?_) (fun q => ?_)⟩
    · have q : (rw1 p).2 = 0 := q
      rw [rewLp, if_pos q]; rfl
    · have q : ¬ (rw1 p).2 = 0 := q
      rw [rewLp, if_neg q]
      refine ih (i + 1) (rw1 p).1 (all + (rw1 p).2) (by omega) d.1 ?_ ?_ <;> (simp only [rw1]; omega)

def sh29 : Shp := fun I i b l s => .ask (b 0) fun t => match t with | true => .ok (.ag [.pv (.sc (.int .i64 (i 0))), .pv (.sc (.int .i64 0)), .pv .nl], [], 0) | false => .ok (.ag [.pv (.sc (.int .i64 0)), .pv (.sc (.int .i64 (i 1))), .arr 0 0 (I.len (l 0))], [(0, .row 7 (l 0))], 1)
noncomputable def an29 : An (List NodeV × Unit) where
  pre t := (okPlan t.1) && (cellsOk t.1)
  i j t := match j with | 0 => planF t.1 | _ => (rewF t.1).2
  b _ t := (decide (planF t.1 ≠ 0))
  l _ t := (tNode.encs ((rewF t.1).1))
noncomputable def en29 : En := mkE (parsC (pL tNode) pars0) an29
theorem ok29 (plan : List NodeV) (p0 : okPlan plan = true) (p1 : cellsOk plan = true) : Ok0 Try.prog 29 [(pL tNode).enc plan] (if (decide (planF plan ≠ 0)) = true then ((.ag [.pv (.sc (.int .i64 (planF plan))), .pv (.sc (.int .i64 0)), .pv .nl], [], 0) : RES) else ((.ag [.pv (.sc (.int .i64 0)), .pv (.sc (.int .i64 ((rewF plan).2))), .arr 0 0 ((rewF plan).1).length], [(0, .row 7 (tNode.encs ((rewF plan).1)))], 1) : RES) : RES).1 (if (decide (planF plan ≠ 0)) = true then ((.ag [.pv (.sc (.int .i64 (planF plan))), .pv (.sc (.int .i64 0)), .pv .nl], [], 0) : RES) else ((.ag [.pv (.sc (.int .i64 0)), .pv (.sc (.int .i64 ((rewF plan).2))), .arr 0 0 ((rewF plan).1).length], [(0, .row 7 (tNode.encs ((rewF plan).1)))], 1) : RES) : RES).2.1 (if (decide (planF plan ≠ 0)) = true then ((.ag [.pv (.sc (.int .i64 (planF plan))), .pv (.sc (.int .i64 0)), .pv .nl], [], 0) : RES) else ((.ag [.pv (.sc (.int .i64 0)), .pv (.sc (.int .i64 ((rewF plan).2))), .arr 0 0 ((rewF plan).1).length], [(0, .row 7 (tNode.encs ((rewF plan).1)))], 1) : RES) : RES).2.2 := by
  have hl := okPlan_len p0
  by_cases hz : planF plan = 0
  · have h8 := (planF_wid hz).1
    rw [if_neg (by simpa using hz)]
    refine go29 plan fun w Xs => ⟨hl, ?_⟩
    rw [if_pos hz]
    exact ⟨by omega, p1, lm_srew 20 0 plan 0 rfl (Gd.of hz p1) (by omega) (by omega)⟩
  · rw [if_pos (by simpa using hz)]
    refine go29 plan fun w Xs => ?_
    exact ⟨hl, by rw [if_neg hz]⟩
theorem s29 {I : Ops} (hI : I = real) {e : En} (he : e = en29) : Sound Try.prog 29 (callE I e sh29) := by
  refine Sound.mkR ent29 hI ?_ he
  rintro ⟨plan, ⟨⟩⟩ hp r σ n e
  have hp : ((okPlan plan) && (cellsOk plan)) = true := hp
  try simp only [Bool.and_eq_true, decide_eq_true_eq] at hp
  obtain ⟨p0, p1⟩ := hp
  have e : (R.ok (if (decide (planF plan ≠ 0)) = true then ((.ag [.pv (.sc (.int .i64 (planF plan))), .pv (.sc (.int .i64 0)), .pv .nl], [], 0) : RES) else ((.ag [.pv (.sc (.int .i64 0)), .pv (.sc (.int .i64 ((rewF plan).2))), .arr 0 0 ((rewF plan).1).length], [(0, .row 7 (tNode.encs ((rewF plan).1)))], 1) : RES) : RES) : R RES).val = some (r, σ, n) := by
    rw [← e]
    cases hb : ((decide (planF plan ≠ 0)) : Bool) <;> (try simp at hb) <;> simp [sh29, an29, hb, val_ask]
  have k := ok29 plan p0 p1
  rw [Option.some.inj e] at k
  exact k
end Go.Proofs.Try
