/- Contracts. -/
import Derived.Test.YtngefcgbfpelcaaLo
set_option linter.unusedSimpArgs false
set_option linter.unusedVariables false
namespace Go.Proofs.Try
open Go Go.Aix
set_option maxRecDepth 100000
set_option maxHeartbeats 4000000
set_option linter.unusedSimpArgs false
set_option linter.unusedVariables false
theorem skipOk_of {l : List NodeV} (h : PlanI l) {k : Int} (hk : 0 ≤ k ∧ k.toNat < l.length) : skipOk l k = true := by
  refine decide_eq_true ⟨⟨hk.1, by omega⟩, fun q => ?_⟩
  have := h.a k.toNat hk.2 (by omega)
  omega
theorem set_self' {l : List NodeV} {i : Nat} (h : i < l.length) : l.set i (nth l i) = l := by
  apply List.ext_getElem (by simp)
  intro j h1 h2
  rw [List.getElem_set]
  split
  · rename_i e; subst e; simp [nth, List.getD_eq_getElem?_getD, h]
  · rfl
theorem lm_sdbl {w : World} {Xs : Nat → Prop} (n : Nat) (hl : n ≤ 8) : ∀ (k i : Nat) (l : List NodeV) (d : Int), k + i = n → l.length = n → PlanI l → 0 ≤ d ∧ d ≤ i → G45_0 w Xs l d i (resPD (dblLp k i l d)) := by
  intro k
  induction k with
  | zero =>
    intro i l d hk hll hI hd
    apply st45_0
    rw [if_neg (by omega)]
    rfl
  | succ k ih =>
    intro i l d hk hll hI hd
    have hw : IntKind.i64.wrap (d + 1) = d + 1 := by rw [IntKind.wrap_i64]; omega
    apply st45_0
    rw [if_pos (by omega), wsucc (by omega), Int.toNat_natCast, hw]
    have hr := readsOf_cases (nth l i).op
    by_cases h1 : (nth l i).op = 1
    · rw [if_neg (show ¬ 0 < readsOf (nth l i).op by omega), if_neg (show ¬ 1 < readsOf (nth l i).op by omega), set_self' (by omega), dblLp, if_pos h1]
      exact ⟨by omega, ih (i + 1) _ _ (by omega) hll hI (by omega)⟩
    · have ha := hI.a i (by omega) h1
      have hd' := hI.dbl (by omega) h1
      rw [if_pos (show 0 < readsOf (nth l i).op by omega), dblLp, if_neg h1]
      refine ⟨by omega, by omega, skipOk_of hI ⟨ha.1, by omega⟩, ?_⟩
      have ih' := fun d' hd'' => ih (i + 1) (l.set i (dblN l i)) d' (by omega) (by simp; omega) hd' hd''
      by_cases h2 : (nth l i).op = 4 ∨ (nth l i).op = 6
      · have hb := hI.b i (by omega) h2
        have e2 : dblN l i = ⟨(nth l i).op, skipF l (nth l i).a, skipF l (nth l i).b, (nth l i).col, (nth l i).test, (nth l i).value, (nth l i).cells⟩ := by
          unfold dblN; rw [if_pos h2]
        rw [e2] at ih' ⊢
        rw [if_pos (show 1 < readsOf (nth l i).op by omega)]
        refine ⟨skipOk_of hI ⟨hb.1, by omega⟩, if_go (fun q => if_go (fun q2 => ?_) (fun q2 => ?_)) (fun q => ?_)⟩
        · rw [if_pos ⟨q, q2⟩]; exact ih' _ (by omega)
        · rw [if_neg (fun z => q2 z.2)]; exact ih' _ (by omega)
        · rw [if_neg (fun z => q z.1)]; exact ih' _ (by omega)
      · have e2 : dblN l i = ⟨(nth l i).op, skipF l (nth l i).a, (nth l i).b, (nth l i).col, (nth l i).test, (nth l i).value, (nth l i).cells⟩ := by
          unfold dblN; rw [if_neg h2]
        rw [e2] at ih' ⊢
        rw [if_neg (show ¬ 1 < readsOf (nth l i).op by omega)]
        refine if_go (fun q => ?_) (fun q => ?_)
        · rw [if_pos ⟨q, rfl⟩]; exact ih' _ (by omega)
        · rw [if_neg (fun z => q z.1)]; exact ih' _ (by omega)

def sh45 : Shp := fun I i b l s => .ok (.tp [(false, [.arr 0 0 (I.len (l 0))]), (false, [.pv (.sc (.int .i64 (i 0)))])], [(0, .row 7 (l 0))], 1)
noncomputable def an45 : An (List NodeV × Unit) where
  pre t := (rwI t.1) && decide (0 < t.1.length ∧ t.1.length ≤ 8) && (cellsOk t.1)
  i _ t := (dblF t.1).2
  l _ t := (tNode.encs ((dblF t.1).1))
noncomputable def en45 : En := mkE (parsC (pL tNode) pars0) an45
theorem ok45 (plan : List NodeV) (p0 : rwI plan = true) (p1 : 0 < plan.length ∧ plan.length ≤ 8) (p2 : cellsOk plan = true) : Ok0 Try.prog 45 [(pL tNode).enc plan] ((.tp [(false, [.arr 0 0 ((dblF plan).1).length]), (false, [.pv (.sc (.int .i64 ((dblF plan).2)))])], [(0, .row 7 (tNode.encs ((dblF plan).1)))], 1) : RES).1 ((.tp [(false, [.arr 0 0 ((dblF plan).1).length]), (false, [.pv (.sc (.int .i64 ((dblF plan).2)))])], [(0, .row 7 (tNode.encs ((dblF plan).1)))], 1) : RES).2.1 ((.tp [(false, [.arr 0 0 ((dblF plan).1).length]), (false, [.pv (.sc (.int .i64 ((dblF plan).2)))])], [(0, .row 7 (tNode.encs ((dblF plan).1)))], 1) : RES).2.2 := by
  have hI := rwI_iff.1 p0
  exact go45 plan fun w Xs => ⟨by omega, p2, lm_sdbl plan.length p1.2 plan.length 0 plan 0 rfl rfl hI.1 (by omega)⟩
theorem s45 {I : Ops} (hI : I = real) {e : En} (he : e = en45) : Sound Try.prog 45 (callE I e sh45) := by
  refine Sound.mkR ent45 hI ?_ he
  rintro ⟨plan, ⟨⟩⟩ hp r σ n e
  have hp : ((rwI plan) && decide (0 < plan.length ∧ plan.length ≤ 8) && (cellsOk plan)) = true := hp
  try simp only [Bool.and_eq_true, decide_eq_true_eq] at hp
  obtain ⟨⟨p0, p1⟩, p2⟩ := hp
  have e : (R.ok ((.tp [(false, [.arr 0 0 ((dblF plan).1).length]), (false, [.pv (.sc (.int .i64 ((dblF plan).2)))])], [(0, .row 7 (tNode.encs ((dblF plan).1)))], 1) : RES) : R RES).val = some (r, σ, n) := by
    rw [← e]
    simp [sh45, an45]
  cases e
  exact ok45 plan p0 p1 p2
end Go.Proofs.Try
