/- Contracts. -/
import Derived.Test.YtngefcgbfpelcaaLprq
set_option linter.unusedSimpArgs false
set_option linter.unusedVariables false
namespace Go.Proofs.Try
open Go Go.Aix
set_option maxRecDepth 100000
set_option maxHeartbeats 4000000
set_option linter.unusedSimpArgs false
set_option linter.unusedVariables false
theorem lm_prune {w : World} {Xs : Nat → Prop} (plan : List NodeV) (hl : plan.length ≤ 100) (hI : PlanI plan) : ∀ (k i : Nat) (pl : List Int) (out : List NodeV), k + i = plan.length → pl.length = plan.length → out.length ≤ i → G50_0 w Xs plan (deadL plan) pl out i (resPD (pruneLp plan k i pl out, ((deadL plan).length : Int))) := by
  intro k
  induction k with
  | zero =>
    intro i pl out hk hp ho
    apply st50_0
    rw [if_neg (by omega)]
    rfl
  | succ k ih =>
    intro i pl out hk hp ho
    have dl : (deadL plan).length ≤ plan.length := deadLp_len plan plan.length 0
    apply st50_0
    rw [if_pos (by omega), wsucc (by omega), Int.toNat_natCast]
    refine ⟨by omega, by omega, if_go (fun h => ?_) (fun h => ?_)⟩
    · rw [pruneLp, if_pos (of_decide_eq_true h)]
      exact ih (i + 1) _ _ (by omega) hp (by omega)
    · rw [pruneLp, if_neg (fun z => h (decide_eq_true z))]
      have key : ∀ X, X = prN pl (nth plan i) → G50_0 w Xs plan (deadL plan) (pl.set i (out.length : Int)) (out ++ [X]) ((i + 1 : Nat) : Int) (resPD (pruneLp plan k (i + 1) (pl.set i (out.length : Int)) (out ++ [prN pl (nth plan i)]), ((deadL plan).length : Int))) := by
        intro X e
        subst e
        exact ih (i + 1) _ _ (by omega) (by simp; omega) (by simp; omega)
      clear ih
      refine if_go (fun h1 => ?_) (fun h1 => ?_)
      · exact ⟨by omega, by omega, key _ (by unfold prN; rw [if_pos h1])⟩
      · have ha := hI.a i (by omega) h1
        refine ⟨by omega, if_go (fun o4 => ?_) (fun o4 => if_go (fun o6 => ?_) (fun o6 => ?_))⟩
        · have hb := hI.b i (by omega) (Or.inl o4)
          exact ⟨by omega, by omega, by omega, key _ (by unfold prN; rw [if_neg h1, if_pos (Or.inl o4)])⟩
        · have hb := hI.b i (by omega) (Or.inr o6)
          exact ⟨by omega, by omega, by omega, key _ (by unfold prN; rw [if_neg h1, if_pos (Or.inr o6)])⟩
        · exact ⟨by omega, by omega, key _ (by unfold prN; rw [if_neg h1, if_neg (fun z => z.elim o4 o6)])⟩

def sh50 : Shp := fun I i b l s => .ok (.tp [(false, [.arr 0 0 (I.len (l 0))]), (false, [.pv (.sc (.int .i64 (i 0)))])], [(0, .row 7 (l 0))], 1)
noncomputable def an50 : An (List NodeV × Unit) where
  pre t := (rwI t.1) && decide (0 < t.1.length ∧ t.1.length ≤ 8) && (cellsOk t.1)
  i _ t := (pruneF t.1).2
  l _ t := (tNode.encs ((pruneF t.1).1))
noncomputable def en50 : En := mkE (parsC (pL tNode) pars0) an50
theorem ok50 (plan : List NodeV) (p0 : rwI plan = true) (p1 : 0 < plan.length ∧ plan.length ≤ 8) (p2 : cellsOk plan = true) : Ok0 Try.prog 50 [(pL tNode).enc plan] ((.tp [(false, [.arr 0 0 ((pruneF plan).1).length]), (false, [.pv (.sc (.int .i64 ((pruneF plan).2)))])], [(0, .row 7 (tNode.encs ((pruneF plan).1)))], 1) : RES).1 ((.tp [(false, [.arr 0 0 ((pruneF plan).1).length]), (false, [.pv (.sc (.int .i64 ((pruneF plan).2)))])], [(0, .row 7 (tNode.encs ((pruneF plan).1)))], 1) : RES).2.1 ((.tp [(false, [.arr 0 0 ((pruneF plan).1).length]), (false, [.pv (.sc (.int .i64 ((pruneF plan).2)))])], [(0, .row 7 (tNode.encs ((pruneF plan).1)))], 1) : RES).2.2 := by
  have hI := rwI_iff.1 p0
  exact go50 plan fun w Xs => ⟨by omega, planI_iff.2 hI.1, by omega, lm_prune plan (by omega) hI.1 plan.length 0 _ [] rfl (by simp) (by simp)⟩
theorem s50 {I : Ops} (hI : I = real) {e : En} (he : e = en50) : Sound Try.prog 50 (callE I e sh50) := by
  refine Sound.mkR ent50 hI ?_ he
  rintro ⟨plan, ⟨⟩⟩ hp r σ n e
  have hp : ((rwI plan) && decide (0 < plan.length ∧ plan.length ≤ 8) && (cellsOk plan)) = true := hp
  try simp only [Bool.and_eq_true, decide_eq_true_eq] at hp
  obtain ⟨⟨p0, p1⟩, p2⟩ := hp
  have e : (R.ok ((.tp [(false, [.arr 0 0 ((pruneF plan).1).length]), (false, [.pv (.sc (.int .i64 ((pruneF plan).2)))])], [(0, .row 7 (tNode.encs ((pruneF plan).1)))], 1) : RES) : R RES).val = some (r, σ, n) := by
    rw [← e]
    simp [sh50, an50]
  cases e
  exact ok50 plan p0 p1 p2
theorem lm_sprune {w : World} {Xs : Nat → Prop} (plan : List NodeV) (hl : plan.length ≤ 100) (hI : PlanI plan) (hc : cellsOk plan = true) : ∀ (k i : Nat) (pl pm : List Int) (out : List NodeV), k + i = plan.length → pl.length = plan.length → pm.length = plan.length → out.length ≤ i → (∀ j : Nat, j < i → ¬ (j : Int) ∈ deadL plan → nth pl j = nth pm j) → G49_0 w Xs plan (deadL plan) out pm i ((.tp [(false, [.arr 0 0 (pruneLp plan k i pl out).length]), (false, [.pv (.sc (.int .i64 ((deadL plan).length : Int)))])], [(0, .row 7 (mapE tNode_own (pruneLp plan k i pl out)))], 1) : RES) := by
  intro k
  induction k with
  | zero =>
    intro i pl pm out hk hp hpm ho hag
    apply st49_0
    rw [if_neg (by omega)]
    rfl
  | succ k ih =>
    intro i pl pm out hk hp hpm ho hag
    have dl : (deadL plan).length ≤ plan.length := deadLp_len plan plan.length 0
    have hcc := cellsOk_nth hc (i := i) (by omega)
    apply st49_0
    rw [if_pos (by omega), wsucc (by omega), Int.toNat_natCast]
    refine ⟨by omega, by omega, if_go (fun h => ?_) (fun h => ?_)⟩
    · have h := of_decide_eq_true h
      rw [pruneLp, if_pos h]
      refine ih (i + 1) pl (pm.set i (out.length : Int)) _ (by omega) hp (by simp; omega) (by omega) (fun j hj hd => ?_)
      rw [nth_set _ _ _ _ (by omega)]
      split
      · rename_i e; subst e; exact absurd h hd
      · exact hag j (by omega) hd
    · have h : ¬ (i : Int) ∈ deadL plan := fun z => h (decide_eq_true z)
      rw [pruneLp, if_neg h]
      have key : ∀ X, X = prN pl (nth plan i) → G49_0 w Xs plan (deadL plan) (out ++ [X]) (pm.set i (out.length : Int)) ((i + 1 : Nat) : Int) ((.tp [(false, [.arr 0 0 (pruneLp plan k (i + 1) (pl.set i (out.length : Int)) (out ++ [prN pl (nth plan i)])).length]), (false, [.pv (.sc (.int .i64 ((deadL plan).length : Int)))])], [(0, .row 7 (mapE tNode_own (pruneLp plan k (i + 1) (pl.set i (out.length : Int)) (out ++ [prN pl (nth plan i)]))))], 1) : RES) := by
        intro X e
        subst e
        refine ih (i + 1) _ _ _ (by omega) (by simp; omega) (by simp; omega) (by simp; omega) (fun j hj hd => ?_)
        rw [nth_set _ _ _ _ (by omega), nth_set _ _ _ _ (by omega)]
        split
        · rfl
        · exact hag j (by omega) hd
      have rd : ∀ a : Int, a ∈ readsL (nth plan i) → 0 ≤ a ∧ a.toNat < i ∧ nth (pm.set i (out.length : Int)) a.toNat = nth pl a.toNat := by
        intro a ha
        have h1 := readsL_lt hI (by omega) ha
        have h2 := live_op hI (by omega) h ha
        refine ⟨h1.1, h1.2, ?_⟩
        rw [nth_set _ _ _ _ (by omega), if_neg (by omega)]
        exact (hag a.toNat h1.2 (by rw [Int.toNat_of_nonneg h1.1]; exact h2)).symm
      clear ih
      have hr := readsOf_cases (nth plan i).op
      refine ⟨by omega, if_go (fun r0 => ?_) (fun r0 => ?_)⟩
      · have h1 : ¬ (nth plan i).op = 1 := by omega
        by_cases o : (nth plan i).op = 4 ∨ (nth plan i).op = 6
        · have ea := rd (nth plan i).a (by unfold readsL; rw [if_neg h1, if_pos o]; simp)
          have eb := rd (nth plan i).b (by unfold readsL; rw [if_neg h1, if_pos o]; simp)
          rw [if_pos (show 1 < readsOf (nth plan i).op by omega)]
          exact ⟨by omega, by omega, by omega, by omega, key _ (by unfold prN; rw [if_neg h1, if_pos o, ea.2.2, eb.2.2])⟩
        · have ea := rd (nth plan i).a (by unfold readsL; rw [if_neg h1, if_neg o]; simp)
          rw [if_neg (show ¬ 1 < readsOf (nth plan i).op by omega)]
          exact ⟨by omega, by omega, by omega, key _ (by unfold prN; rw [if_neg h1, if_neg o, ea.2.2])⟩
      · have h1 : (nth plan i).op = 1 := by omega
        rw [if_neg (show ¬ 1 < readsOf (nth plan i).op by omega)]
        exact ⟨by omega, by omega, key _ (by unfold prN; rw [if_pos h1])⟩

def sh49 : Shp := fun I i b l s => .ok (.tp [(false, [.arr 0 0 (I.len (l 0))]), (false, [.pv (.sc (.int .i64 (i 0)))])], [(0, .row 7 (l 0))], 1)
noncomputable def an49 : An (List NodeV × Unit) where
  pre t := (rwI t.1) && decide (0 < t.1.length ∧ t.1.length ≤ 8) && (cellsOk t.1)
  i _ t := (pruneF t.1).2
  l _ t := (tNode.encs ((pruneF t.1).1))
noncomputable def en49 : En := mkE (parsC (pL tNode) pars0) an49
theorem ok49 (plan : List NodeV) (p0 : rwI plan = true) (p1 : 0 < plan.length ∧ plan.length ≤ 8) (p2 : cellsOk plan = true) : Ok0 Try.prog 49 [(pL tNode).enc plan] ((.tp [(false, [.arr 0 0 ((pruneF plan).1).length]), (false, [.pv (.sc (.int .i64 ((pruneF plan).2)))])], [(0, .row 7 (tNode.encs ((pruneF plan).1)))], 1) : RES).1 ((.tp [(false, [.arr 0 0 ((pruneF plan).1).length]), (false, [.pv (.sc (.int .i64 ((pruneF plan).2)))])], [(0, .row 7 (tNode.encs ((pruneF plan).1)))], 1) : RES).2.1 ((.tp [(false, [.arr 0 0 ((pruneF plan).1).length]), (false, [.pv (.sc (.int .i64 ((pruneF plan).2)))])], [(0, .row 7 (tNode.encs ((pruneF plan).1)))], 1) : RES).2.2 := by
  have hI := rwI_iff.1 p0
  have k : Ok0 Try.prog 49 [(pL tNode).enc plan] (.tp [(false, [.arr 0 0 (pruneF plan).1.length]), (false, [.pv (.sc (.int .i64 (pruneF plan).2))])]) [(0, .row 7 (mapE tNode_own (pruneF plan).1))] 1 := go49 plan fun w Xs => ⟨by omega, by omega, lm_sprune plan (by omega) hI.1 p2 plan.length 0 _ _ [] rfl (by simp) (by simp) (by simp) (fun j hj => absurd hj (by omega))⟩
  have k := k.down1
  rw [show downs (mapE tNode_own (pruneF plan).1) = tNode.encs (pruneF plan).1 from tNode.downs_own _] at k
  exact k
theorem s49 {I : Ops} (hI : I = real) {e : En} (he : e = en49) : Sound Try.prog 49 (callE I e sh49) := by
  refine Sound.mkR ent49 hI ?_ he
  rintro ⟨plan, ⟨⟩⟩ hp r σ n e
  have hp : ((rwI plan) && decide (0 < plan.length ∧ plan.length ≤ 8) && (cellsOk plan)) = true := hp
  try simp only [Bool.and_eq_true, decide_eq_true_eq] at hp
  obtain ⟨⟨p0, p1⟩, p2⟩ := hp
  have e : (R.ok ((.tp [(false, [.arr 0 0 ((pruneF plan).1).length]), (false, [.pv (.sc (.int .i64 ((pruneF plan).2)))])], [(0, .row 7 (tNode.encs ((pruneF plan).1)))], 1) : RES) : R RES).val = some (r, σ, n) := by
    rw [← e]
    simp [sh49, an49]
  cases e
  exact ok49 plan p0 p1 p2
end Go.Proofs.Try
