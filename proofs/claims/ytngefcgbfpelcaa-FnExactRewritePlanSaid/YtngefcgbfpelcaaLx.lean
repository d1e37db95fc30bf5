/- Contracts. -/
import Derived.Test.YtngefcgbfpelcaaLw
set_option linter.unusedSimpArgs false
set_option linter.unusedVariables false
namespace Go.Proofs.Try
open Go Go.Aix
set_option maxRecDepth 100000
set_option maxHeartbeats 4000000
set_option linter.unusedSimpArgs false
set_option linter.unusedVariables false
theorem readsL_lt {l : List NodeV} (h : PlanI l) {j : Nat} (hj : j < l.length) {k : Int} (hk : k ∈ readsL (nth l j)) : 0 ≤ k ∧ k.toNat < j := by
  unfold readsL at hk
  split at hk
  · simp at hk
  · rename_i h1
    have ha := h.a j hj h1
    split at hk
    · rename_i h2
      have hb := h.b j hj h2
      simp at hk
      rcases hk with rfl | rfl
      · exact ha
      · exact hb
    · simp at hk
      subst hk
      exact ha
theorem Fd.lt {l : List NodeV} {a b : Int} (h : Fd l a b) : a < b := by
  induction h with
  | one h _ => exact h
  | more h _ _ _ ih => omega
theorem Fd.snoc {l : List NodeV} {a k b : Int} (h : Fd l a k) (hk : k ∈ readsL (nth l b.toNat)) (hb : k < b) : Fd l a b := by
  induction h with
  | one h h2 => exact .more h (by omega) h2 (.one hb hk)
  | more h h2 h3 _ ih => exact .more h (by omega) h3 (ih hk hb)
theorem Fd.back {l : List NodeV} {a b : Int} (h : Fd l a b) : ∃ k ∈ readsL (nth l b.toNat), k = a ∨ Fd l a k := by
  induction h with
  | one h h2 => exact ⟨_, h2, Or.inl rfl⟩
  | more h h2 h3 h4 ih =>
    obtain ⟨k, hk, rfl | hf⟩ := ih
    · exact ⟨_, hk, Or.inr (.one h h3)⟩
    · have := hf.lt
      exact ⟨k, hk, Or.inr (.more h (by omega) h3 hf)⟩
theorem feedB_first {l : List NodeV} (h : PlanI l) (a : Int) {b : Int} (hb : 0 ≤ b ∧ b < l.length) : decide (0 ≤ fstI (fun k => decide (k = a) || feedB l a k) (readsL (nth l b.toNat)) 0) = feedB l a b := by
  rw [Bool.eq_iff_iff, decide_eq_true_iff, fstI_iff _ _ _ (by omega), List.any_eq_true, feedB_iff]
  constructor
  · rintro ⟨k, hk, h2⟩
    have h3 := readsL_lt h (by omega) hk
    rw [Bool.or_eq_true, decide_eq_true_iff, feedB_iff] at h2
    rcases h2 with rfl | h2
    · exact .one (by omega) hk
    · exact h2.snoc hk (by omega)
  · intro hf
    obtain ⟨k, hk, h2⟩ := hf.back
    exact ⟨k, hk, by rw [Bool.or_eq_true, decide_eq_true_iff, feedB_iff]; exact h2⟩
theorem allIn_of {L : List Int} {n bd : Nat} (h : ∀ k ∈ L, 0 ≤ k ∧ k < (n : Int) ∧ k.toNat < bd) : allIn L n bd = true := by
  unfold allIn
  rw [List.all_eq_true]
  exact fun k hk => decide_eq_true (h k hk)
theorem mks61 {bd : Nat} (ok : ∀ (plan : List NodeV) (a : Int) (b : Int) (p0 : plan.length ≤ 100) (p1 : planI plan = true) (p2 : 0 ≤ b ∧ b < plan.length) (p3 : b.toNat < bd), Ok0 Try.prog 61 [(pL tNode).enc plan, pI.enc a, pI.enc b] ((.one (.pv (.sc (.bool (feedB plan a b)))), [], 0) : RES).1 ((.one (.pv (.sc (.bool (feedB plan a b)))), [], 0) : RES).2.1 ((.one (.pv (.sc (.bool (feedB plan a b)))), [], 0) : RES).2.2) : ∀ {I : Ops}, I = real → ∀ {e : En}, e = en61 bd → Sound Try.prog 61 (callE I e sh61) := by
  intro I hI e he
  refine Sound.mkR ent61 hI ?_ he
  rintro ⟨plan, a, b, ⟨⟩⟩ hp r σ n e
  have hp : (decide (plan.length ≤ 100) && (planI plan) && decide (0 ≤ b ∧ b < plan.length) && decide (b.toNat < bd)) = true := hp
  try simp only [Bool.and_eq_true, decide_eq_true_eq] at hp
  obtain ⟨⟨⟨p0, p1⟩, p2⟩, p3⟩ := hp
  have e : (R.ok ((.one (.pv (.sc (.bool (feedB plan a b)))), [], 0) : RES) : R RES).val = some (r, σ, n) := by
    rw [← e]
    simp [sh61, an61]
  have k := ok plan a b p0 p1 p2 p3
  rw [Option.some.inj e] at k
  exact k
theorem okr61 {bd : Nat} (s61 : ∀ {I : Ops}, I = real → ∀ {e : En}, e = en61 bd → Sound Try.prog 61 (callE I e sh61)) (plan : List NodeV) (a : Int) (b : Int) (p0 : plan.length ≤ 100) (p1 : planI plan = true) (p2 : 0 ≤ b ∧ b < plan.length) (p3 : b.toNat < (bd + 1)) : Ok0 Try.prog 61 [(pL tNode).enc plan, pI.enc a, pI.enc b] ((.one (.pv (.sc (.bool (feedB plan a b)))), [], 0) : RES).1 ((.one (.pv (.sc (.bool (feedB plan a b)))), [], 0) : RES).2.1 ((.one (.pv (.sc (.bool (feedB plan a b)))), [], 0) : RES).2.2 := by
  refine go61 s61 plan a b fun w Xs => ?_
  have hI := planI_iff.1 p1
  have hl := readsL_len (nth plan b.toNat)
  rw [feedB_first hI a p2]
  refine ⟨p2, by omega, p0, p1, allIn_of (fun k hk => ?_), rfl⟩
  have := readsL_lt hI (by omega) hk
  omega
theorem ok61 : ∀ (bd : Nat) (plan : List NodeV) (a : Int) (b : Int) (p0 : plan.length ≤ 100) (p1 : planI plan = true) (p2 : 0 ≤ b ∧ b < plan.length) (p3 : b.toNat < bd), Ok0 Try.prog 61 [(pL tNode).enc plan, pI.enc a, pI.enc b] ((.one (.pv (.sc (.bool (feedB plan a b)))), [], 0) : RES).1 ((.one (.pv (.sc (.bool (feedB plan a b)))), [], 0) : RES).2.1 ((.one (.pv (.sc (.bool (feedB plan a b)))), [], 0) : RES).2.2 := by
  intro bd
  induction bd with
  | zero =>
    intro plan a b p0 p1 p2 p3
    exfalso
    omega
  | succ bd ih => exact okr61 (mks61 ih)
theorem s61 {I : Ops} (hI : I = real) {e : En} {bd : Nat} (he : e = en61 bd) : Sound Try.prog 61 (callE I e sh61) := mks61 (ok61 bd) hI he
end Go.Proofs.Try
