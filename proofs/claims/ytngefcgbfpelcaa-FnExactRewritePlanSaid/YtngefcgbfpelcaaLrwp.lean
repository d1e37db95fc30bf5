/- Contracts. -/
import Derived.Test.YtngefcgbfpelcaaLprr
import Derived.Test.YtngefcgbfpelcaaLdblA
import Derived.Test.YtngefcgbfpelcaaLp
import Derived.Test.YtngefcgbfpelcaaLn
import Derived.Test.YtngefcgbfpelcaaAixF
set_option linter.unusedSimpArgs false
set_option linter.unusedVariables false
namespace Go.Proofs.Try
open Go Go.Aix
set_option maxRecDepth 100000
set_option maxHeartbeats 4000000
set_option linter.unusedSimpArgs false
set_option linter.unusedVariables false
structure Gd (p : List NodeV) : Prop where
  i : RwI p
  l : 0 < p.length ∧ p.length ≤ 8
  c : cellsOk p = true
theorem Gd.push {p : List NodeV} (h : Gd p) : Gd (pushF p).1 ∧ (pushF p).1.length ≤ p.length := by
  obtain ⟨e1, e2⟩ := pushLp_ok p.length 0 p 0 rfl h.c
  exact ⟨⟨pushF_rw h.i, by unfold pushF; rw [e1]; exact h.l, e2⟩, by unfold pushF; rw [e1]; exact Nat.le_refl _⟩
theorem Gd.dbl {p : List NodeV} (h : Gd p) : Gd (dblF p).1 ∧ (dblF p).1.length ≤ p.length := by
  obtain ⟨e1, e2⟩ := dblLp_ok p.length 0 p 0 rfl h.c
  exact ⟨⟨dblF_rw h.i, by unfold dblF; rw [e1]; exact h.l, e2⟩, by unfold dblF; rw [e1]; exact Nat.le_refl _⟩
theorem foldLp_ok : ∀ (k i : Nat) (l : List NodeV) (d : Int), k + i = l.length → cellsOk l = true → (foldLp k i l d).1.length = l.length ∧ cellsOk (foldLp k i l d).1 = true
  | 0, i, l, d, _, h => ⟨rfl, h⟩
  | k + 1, i, l, d, hk, h => by
    unfold foldLp
    split
    · have h2 : cellsOk (l.set i (foldN l i)) = true := by
        unfold cellsOk at h ⊢
        simp only [List.all_eq_true, decide_eq_true_eq] at h ⊢
        intro e he
        rcases List.mem_or_eq_of_mem_set he with he | rfl
        · exact h e he
        · show (pickF _ _).length ≤ _
          rw [pickF_len]
          exact h _ (nth_mem (by omega))
      have := foldLp_ok k (i + 1) _ (d + 1) (by simp; omega) h2
      simpa using this
    · exact foldLp_ok k (i + 1) l d (by omega) h
theorem Gd.fold {p : List NodeV} (h : Gd p) : Gd (foldF p).1 ∧ (foldF p).1.length ≤ p.length := by
  obtain ⟨e1, e2⟩ := foldLp_ok p.length 0 p 0 rfl h.c
  exact ⟨⟨foldF_rw h.i, by unfold foldF; rw [e1]; exact h.l, e2⟩, by unfold foldF; rw [e1]; exact Nat.le_refl _⟩
theorem Gd.prune {p : List NodeV} (h : Gd p) : Gd (pruneF p).1 ∧ (pruneF p).1.length ≤ p.length := by
  have e1 := pruneF_len p
  exact ⟨⟨pruneF_rw h.i, ⟨pruneF_pos h.i.1 h.l.1, Nat.le_trans e1 h.l.2⟩, pruneF_cells h.c⟩, e1⟩
theorem Gd.d1 {p : List NodeV} (h : Gd p) : 0 ≤ (pushF p).2 ∧ (pushF p).2 ≤ 8 := by
  have := pushLp_did p.length 0 p 0; have := h.l; unfold pushF; omega
theorem Gd.d2 {p : List NodeV} (h : Gd p) : 0 ≤ (dblF p).2 ∧ (dblF p).2 ≤ 8 := by
  have := dblLp_did p.length 0 p 0; have := h.l; unfold dblF; omega
theorem Gd.d3 {p : List NodeV} (h : Gd p) : 0 ≤ (foldF p).2 ∧ (foldF p).2 ≤ 8 := by
  have := foldLp_did p.length 0 p 0; have := h.l; unfold foldF; omega
theorem Gd.d4 {p : List NodeV} (h : Gd p) : 0 ≤ (pruneF p).2 ∧ (pruneF p).2 ≤ 8 := by
  have e : (deadL p).length ≤ p.length := deadLp_len p p.length 0
  have := h.l
  show 0 ≤ ((deadL p).length : Int) ∧ ((deadL p).length : Int) ≤ 8
  omega
noncomputable def rw1 (p : List NodeV) : List NodeV × Int :=
  ((pruneF (foldF (dblF (pushF p).1).1).1).1, (pushF p).2 + (dblF (pushF p).1).2 + (foldF (dblF (pushF p).1).1).2 + (pruneF (foldF (dblF (pushF p).1).1).1).2)
noncomputable def rewLp : Nat → List NodeV → Int → List NodeV × Int
  | 0, p, all => (p, all)
  | k + 1, p, all => if (rw1 p).2 = 0 then ((rw1 p).1, all + (rw1 p).2) else rewLp k (rw1 p).1 (all + (rw1 p).2)
noncomputable def rewF (p : List NodeV) : List NodeV × Int := rewLp 20 p 0
theorem Gd.rw1 {p : List NodeV} (h : Gd p) : Gd (rw1 p).1 ∧ (Try.rw1 p).1.length ≤ p.length := by
  have a := h.push; have b := a.1.dbl; have c := b.1.fold; have d := c.1.prune
  exact ⟨d.1, Nat.le_trans d.2 (Nat.le_trans c.2 (Nat.le_trans b.2 a.2))⟩
theorem rewLp_ok : ∀ (k : Nat) (p : List NodeV) (all : Int), Gd p → Gd (rewLp k p all).1 ∧ (rewLp k p all).1.length ≤ p.length
  | 0, p, all, h => ⟨h, Nat.le_refl _⟩
  | k + 1, p, all, h => by
    unfold rewLp
    split
    · exact h.rw1
    · have := rewLp_ok k (rw1 p).1 (all + (rw1 p).2) h.rw1.1
      exact ⟨this.1, Nat.le_trans this.2 h.rw1.2⟩
theorem Gd.of {plan : List NodeV} (hz : planF plan = 0) (h : cellsOk plan = true) : Gd plan := ⟨RwI.of hz, (planF_wid hz).1, h⟩
theorem rewF_ok {plan : List NodeV} (hz : planF plan = 0) (h : cellsOk plan = true) : (rewF plan).1.length ≤ plan.length ∧ cellsOk (rewF plan).1 = true := by
  have := rewLp_ok 20 plan 0 (Gd.of hz h)
  exact ⟨this.2, this.1.c⟩
theorem wr4 {a b c d : Int} (h1 : 0 ≤ a ∧ a ≤ 8) (h2 : 0 ≤ b ∧ b ≤ 8) (h3 : 0 ≤ c ∧ c ≤ 8) (h4 : 0 ≤ d ∧ d ≤ 8) : IntKind.i64.wrap (IntKind.i64.wrap (IntKind.i64.wrap (a + b) + c) + d) = a + b + c + d := by
  have e1 : IntKind.i64.wrap (a + b) = a + b := by rw [IntKind.wrap_i64]; omega
  have e2 : IntKind.i64.wrap (a + b + c) = a + b + c := by rw [IntKind.wrap_i64]; omega
  have e3 : IntKind.i64.wrap (a + b + c + d) = a + b + c + d := by rw [IntKind.wrap_i64]; omega
  rw [e1, e2, e3]
theorem wr5 {x a b c d : Int} (hx : 0 ≤ x ∧ x ≤ 1000) (h1 : 0 ≤ a ∧ a ≤ 8) (h2 : 0 ≤ b ∧ b ≤ 8) (h3 : 0 ≤ c ∧ c ≤ 8) (h4 : 0 ≤ d ∧ d ≤ 8) : IntKind.i64.wrap (IntKind.i64.wrap (IntKind.i64.wrap (IntKind.i64.wrap (x + a) + b) + c) + d) = x + (a + b + c + d) := by
  have e0 : IntKind.i64.wrap (x + a) = x + a := by rw [IntKind.wrap_i64]; omega
  have e1 : IntKind.i64.wrap (x + a + b) = x + a + b := by rw [IntKind.wrap_i64]; omega
  have e2 : IntKind.i64.wrap (x + a + b + c) = x + a + b + c := by rw [IntKind.wrap_i64]; omega
  have e3 : IntKind.i64.wrap (x + a + b + c + d) = x + a + b + c + d := by rw [IntKind.wrap_i64]; omega
  rw [e0, e1, e2, e3]; omega
def resRW (x : List NodeV × Int) : RES := (.ag [.pv (.sc (.int .i64 0)), .pv (.sc (.int .i64 x.2)), .arr 0 0 x.1.length], [(0, .row 7 (tNode.encs x.1))], 1)

end Go.Proofs.Try
