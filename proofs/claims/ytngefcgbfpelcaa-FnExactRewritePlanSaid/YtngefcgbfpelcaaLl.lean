/- Contracts. -/
import Derived.Test.YtngefcgbfpelcaaLk
set_option linter.unusedSimpArgs false
set_option linter.unusedVariables false
namespace Go.Proofs.Try
open Go Go.Aix
set_option maxRecDepth 100000
set_option maxHeartbeats 4000000
set_option linter.unusedSimpArgs false
set_option linter.unusedVariables false
theorem cellsOk_set {l : List NodeV} {i : Nat} {x : NodeV} (h : cellsOk l = true) (hx : x.cells.length ≤ 1048576) : cellsOk (l.set i x) = true := by
  unfold cellsOk at h ⊢
  simp only [List.all_eq_true, decide_eq_true_eq] at h ⊢
  intro e he
  rcases List.mem_or_eq_of_mem_set he with he | rfl
  · exact h e he
  · exact hx
def skipF (l : List NodeV) (k : Int) : Int :=
  if (nth l k.toNat).op = 5 ∧ (nth l (nth l k.toNat).a.toNat).op = 5 then (nth l (nth l k.toNat).a.toNat).a
  else if (nth l k.toNat).op = 11 ∧ (nth l (nth l k.toNat).a.toNat).op = 11 then (nth l k.toNat).a else k
theorem skipF_le {l : List NodeV} (h : PlanI l) {k : Int} (hk : 0 ≤ k ∧ k.toNat < l.length) : 0 ≤ skipF l k ∧ (skipF l k).toNat ≤ k.toNat := by
  unfold skipF
  split
  · rename_i q
    have h1 := h.a _ hk.2 (by omega)
    have h2 := h.a _ (show (nth l k.toNat).a.toNat < l.length by omega) (by omega)
    omega
  · split
    · rename_i q
      have h1 := h.a _ hk.2 (by omega)
      omega
    · omega
def dblN (l : List NodeV) (i : Nat) : NodeV :=
  ⟨(nth l i).op, skipF l (nth l i).a, if (nth l i).op = 4 ∨ (nth l i).op = 6 then skipF l (nth l i).b else (nth l i).b, (nth l i).col, (nth l i).test, (nth l i).value, (nth l i).cells⟩
def dblLp : Nat → Nat → List NodeV → Int → List NodeV × Int
  | 0, _, l, d => (l, d)
  | k + 1, i, l, d => if (nth l i).op = 1 then dblLp k (i + 1) l d
    else dblLp k (i + 1) (l.set i (dblN l i)) (if (dblN l i).a = (nth l i).a ∧ (dblN l i).b = (nth l i).b then d else d + 1)
def dblF (plan : List NodeV) : List NodeV × Int := dblLp plan.length 0 plan 0
theorem PlanI.dbl {l : List NodeV} (h : PlanI l) {i : Nat} (hi : i < l.length) (h1 : (nth l i).op ≠ 1) : PlanI (l.set i (dblN l i)) := by
  have ha := h.a i hi h1
  have hsa := skipF_le h (k := (nth l i).a) ⟨ha.1, by omega⟩
  refine h.set hi (fun _ => by show 0 ≤ skipF l (nth l i).a ∧ _; show 0 ≤ skipF l (nth l i).a ∧ (skipF l (nth l i).a).toNat < i; omega) (fun hb => ?_)
  have hb : (nth l i).op = 4 ∨ (nth l i).op = 6 := hb
  have hbb := h.b i hi hb
  have hsb := skipF_le h (k := (nth l i).b) ⟨hbb.1, by omega⟩
  have e : (dblN l i).b = skipF l (nth l i).b := by unfold dblN; exact if_pos hb
  rw [e]
  omega
theorem dblLp_ok : ∀ (k i : Nat) (l : List NodeV) (d : Int), k + i = l.length → cellsOk l = true → (dblLp k i l d).1.length = l.length ∧ cellsOk (dblLp k i l d).1 = true
  | 0, i, l, d, _, h => ⟨rfl, h⟩
  | k + 1, i, l, d, hk, h => by
    unfold dblLp
    split
    · exact dblLp_ok k (i + 1) l d (by omega) h
    · have := dblLp_ok k (i + 1) (l.set i (dblN l i)) (if (dblN l i).a = (nth l i).a ∧ (dblN l i).b = (nth l i).b then d else d + 1) (by simp; omega) (cellsOk_set h (cellsOk_nth h (by omega)))
      simpa using this
theorem dblF_ok {plan : List NodeV} (hz : planF plan = 0) (h : cellsOk plan = true) : (dblF plan).1.length = plan.length ∧ cellsOk (dblF plan).1 = true := dblLp_ok _ 0 plan 0 rfl h
theorem skipF_W {l : List NodeV} (h : PlanI l) {W : Nat → Int} (hw : ∀ j, j < l.length → TyN W (nth l j) (W j)) {k : Int} (hk : 0 ≤ k ∧ k.toNat < l.length) : W (skipF l k).toNat = W k.toNat := by
  unfold skipF
  split
  · rename_i q
    have h1 := h.a _ hk.2 (by omega)
    rw [(hw _ hk.2).2 (Or.inr (Or.inl q.1)), (hw _ (show (nth l k.toNat).a.toNat < l.length by omega)).2 (Or.inr (Or.inl q.2))]
  · split
    · rename_i q
      rw [(hw _ hk.2).2 (Or.inr (Or.inr q.1))]
    · rfl
theorem dblLp_rw : ∀ (k i : Nat) (l : List NodeV) (d : Int), k + i = l.length → RwI l → RwI (dblLp k i l d).1
  | 0, i, l, d, _, h => h
  | k + 1, i, l, d, hk, h => by
    unfold dblLp
    split
    · exact dblLp_rw k (i + 1) l d (by omega) h
    · rename_i h1
      refine dblLp_rw k (i + 1) _ _ (by simp; omega) ?_
      obtain ⟨hp, W, hw⟩ := h
      have hi : i < l.length := by omega
      have ha := hp.a i hi h1
      have hk : W (skipF l (nth l i).a).toNat = W (nth l i).a.toNat := skipF_W hp hw ⟨ha.1, by omega⟩
      refine ⟨hp.dbl hi h1, W, RwI.set hw hi ⟨fun h3 => ?_, fun h2 => ?_⟩⟩
      · have h3 : (nth l i).op = 3 := h3
        obtain ⟨⟨z1, z2, z3, z4⟩, x2, x3⟩ := (hw i hi).1 h3
        refine ⟨⟨?_, z2, z3, z4⟩, x2, fun c hc => ?_⟩
        · show (if (nth l i).op = 4 ∨ (nth l i).op = 6 then skipF l (nth l i).b else (nth l i).b) = 0
          rw [if_neg (by omega)]; exact z1
        · show 0 ≤ c ∧ c < W (skipF l (nth l i).a).toNat
          rw [hk]; exact x3 c hc
      · show W i = W (skipF l (nth l i).a).toNat
        rw [hk]; exact (hw i hi).2 h2
theorem dblF_rw {plan : List NodeV} (h : RwI plan) : RwI (dblF plan).1 := dblLp_rw _ 0 plan 0 rfl h
theorem dblLp_did : ∀ (k i : Nat) (l : List NodeV) (d : Int), d ≤ (dblLp k i l d).2 ∧ (dblLp k i l d).2 ≤ d + k
  | 0, i, l, d => by simp [dblLp]
  | k + 1, i, l, d => by
    unfold dblLp
    split
    · have := dblLp_did k (i + 1) l d; omega
    · have := dblLp_did k (i + 1) (l.set i (dblN l i)) (if (dblN l i).a = (nth l i).a ∧ (dblN l i).b = (nth l i).b then d else d + 1)
      split at this <;> split <;> omega

end Go.Proofs.Try
