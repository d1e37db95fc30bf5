/- Contracts. -/
import Derived.Test.YtngefcgbfpelcaaLrwq
set_option linter.unusedSimpArgs false
set_option linter.unusedVariables false
namespace Go.Proofs.Try
open Go Go.Aix
set_option maxRecDepth 100000
set_option maxHeartbeats 4000000
set_option linter.unusedSimpArgs false
set_option linter.unusedVariables false
theorem lm_rew {w : World} {Xs : Nat → Prop} : ∀ (k i : Nat) (p : List NodeV) (all : Int), k + i = 20 → Gd p → 0 ≤ all → all ≤ 32 * i → G52_0 w Xs p all i (resSV (rewLp k p all)) := by
  intro k
  induction k with
  | zero =>
    intro i p all hk hg h0 h1
    apply st52_0
    rw [if_neg (by omega)]
    rfl
  | succ k ih =>
    intro i p all hk hg h0 h1
    have a := hg.push; have b := a.1.dbl; have c := b.1.fold; have d := c.1.prune
    have a2 := hg.d1; have b2 := a.1.d2; have c2 := b.1.d3; have d2 := c.1.d4
    apply st52_0
    rw [if_pos (by omega)]
    refine si52_0 _ _ _ _ (rwI_iff.2 hg.i) hg.l hg.c (si52_1 _ _ _ _ (rwI_iff.2 a.1.i) a.1.l a.1.c (si52_2 _ _ _ _ (rwI_iff.2 b.1.i) b.1.l b.1.c (si52_3 _ _ _ _ (rwI_iff.2 c.1.i) c.1.l c.1.c (sx52 _ _ _ _ ?_))))
    have e0 : IntKind.i64.wrap (0 + (pushF p).2) = (pushF p).2 := by rw [IntKind.wrap_i64]; omega
    rw [e0, wr4 a2 b2 c2 d2, wsucc (by omega)]
    have e1 : IntKind.i64.wrap (all + ((pushF p).2 + (dblF (pushF p).1).2 + (foldF (dblF (pushF p).1).1).2 + (pruneF (foldF (dblF (pushF p).1).1).1).2)) = all + ((pushF p).2 + (dblF (pushF p).1).2 + (foldF (dblF (pushF p).1).1).2 + (pruneF (foldF (dblF (pushF p).1).1).1).2) := by rw [IntKind.wrap_i64]; omega
    rw [e1]
    refine if_go (fun q => ?_) (fun q => ?_)
    · have q : (rw1 p).2 = 0 := q
      rw [rewLp, if_pos q]; rfl
    · have q : ¬ (rw1 p).2 = 0 := q
      rw [rewLp, if_neg q]
      refine ih (i + 1) (rw1 p).1 (all + (rw1 p).2) (by omega) d.1 ?_ ?_ <;> (simp only [rw1]; omega)

def sh52 : Shp := fun I i b l s => .ok (.tp [(false, [.pv (.sl false 7 (l 0))]), (false, [.pv (.sc (.int .i64 (i 0)))])], [], 0)
noncomputable def an52 : An (List NodeV × Unit) where
  pre t := (rwI t.1) && decide (0 < t.1.length ∧ t.1.length ≤ 8) && (cellsOk t.1)
  i _ t := (rewF t.1).2
  l _ t := (tNode.encs ((rewF t.1).1))
noncomputable def en52 : En := mkE (parsC (pL tNode) pars0) an52
theorem ok52 (plan : List NodeV) (p0 : rwI plan = true) (p1 : 0 < plan.length ∧ plan.length ≤ 8) (p2 : cellsOk plan = true) : Ok0 Try.prog 52 [(pL tNode).enc plan] ((.tp [(false, [.pv (.sl false 7 (tNode.encs ((rewF plan).1)))]), (false, [.pv (.sc (.int .i64 ((rewF plan).2)))])], [], 0) : RES).1 ((.tp [(false, [.pv (.sl false 7 (tNode.encs ((rewF plan).1)))]), (false, [.pv (.sc (.int .i64 ((rewF plan).2)))])], [], 0) : RES).2.1 ((.tp [(false, [.pv (.sl false 7 (tNode.encs ((rewF plan).1)))]), (false, [.pv (.sc (.int .i64 ((rewF plan).2)))])], [], 0) : RES).2.2 := by
  exact go52 plan fun w Xs => lm_rew 20 0 plan 0 rfl ⟨rwI_iff.1 p0, p1, p2⟩ (by omega) (by omega)
theorem s52 {I : Ops} (hI : I = real) {e : En} (he : e = en52) : Sound Try.prog 52 (callE I e sh52) := by
  refine Sound.mkE ent52 hI (fun _ => rfl) ?_ he
  rintro ⟨plan, ⟨⟩⟩ hp
  have hp : ((rwI plan) && decide (0 < plan.length ∧ plan.length ≤ 8) && (cellsOk plan)) = true := hp
  try simp only [Bool.and_eq_true, decide_eq_true_eq] at hp
  obtain ⟨⟨p0, p1⟩, p2⟩ := hp
  exact ok52 plan p0 p1 p2
end Go.Proofs.Try
