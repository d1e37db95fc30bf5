/- Contracts. -/
import Derived.Test.YtngefcgbfpelcaaLprp
set_option linter.unusedSimpArgs false
set_option linter.unusedVariables false
namespace Go.Proofs.Try
open Go Go.Aix
set_option maxRecDepth 100000
set_option maxHeartbeats 4000000
set_option linter.unusedSimpArgs false
set_option linter.unusedVariables false
theorem deadLp_iff (l : List NodeV) : ∀ (k i : Nat) (v : Int), v ∈ deadLp l k i ↔ ∃ j : Nat, v = (j : Int) ∧ i ≤ j ∧ j < i + k ∧ deadB l (j : Int) = true
  | 0, i, v => by
    constructor
    · intro h; simp [deadLp] at h
    · rintro ⟨j, _, h1, h2, _⟩; omega
  | k + 1, i, v => by
    have ih := deadLp_iff l k (i + 1) v
    unfold deadLp
    constructor
    · intro h
      split at h
      · rename_i hb
        rcases List.mem_cons.1 h with rfl | h
        · exact ⟨i, rfl, by omega, by omega, hb⟩
        · obtain ⟨j, h1, h2, h3, h4⟩ := ih.1 h; exact ⟨j, h1, by omega, by omega, h4⟩
      · obtain ⟨j, h1, h2, h3, h4⟩ := ih.1 h; exact ⟨j, h1, by omega, by omega, h4⟩
    · rintro ⟨j, h1, h2, h3, h4⟩
      by_cases e : j = i
      · subst e
        rw [if_pos h4, h1]
        exact List.mem_cons_self
      · have := ih.2 ⟨j, h1, by omega, by omega, h4⟩
        split
        · exact List.mem_cons_of_mem _ this
        · exact this
theorem deadL_iff {l : List NodeV} {i : Nat} (h : i < l.length) : (i : Int) ∈ deadL l ↔ deadB l (i : Int) = true := by
  unfold deadL
  rw [deadLp_iff]
  constructor
  · rintro ⟨j, h1, _, _, h4⟩
    have : j = i := by omega
    subst this; exact h4
  · intro h4; exact ⟨i, rfl, by omega, by omega, h4⟩
theorem live_op {l : List NodeV} (hI : PlanI l) {i : Nat} (hi : i < l.length) (hd : ¬ (i : Int) ∈ deadL l) {a : Int} (ha : a ∈ readsL (nth l i)) : ¬ a ∈ deadL l := by
  have hb := readsL_lt hI hi ha
  obtain ⟨m, rfl⟩ : ∃ m : Nat, a = (m : Int) := ⟨a.toNat, by omega⟩
  have ea : ((i : Int)).toNat = i := by omega
  have ha' : (m : Int) ∈ readsL (nth l ((i : Int)).toNat) := by rw [ea]; exact ha
  rw [deadL_iff (by omega)]
  rw [deadL_iff hi] at hd
  intro hm
  apply hd
  unfold deadB at hm ⊢
  simp only [Bool.and_eq_true, Bool.not_eq_true', decide_eq_false_iff_not, List.any_eq_false, Int.toNat_natCast] at hm ⊢
  obtain ⟨⟨m1, m2⟩, m3⟩ := hm
  refine ⟨⟨fun h12 => ?_, fun h1 => ?_⟩, fun v hv hf => ?_⟩
  · have hv : (i : Int) ∈ nodesL l 12 0 := (nodesL_mem l 12 0 _).2 ⟨i, hi, by simp, h12⟩
    exact m3 _ hv (feedB_iff.2 (.one (by omega) ha'))
  · unfold readsL at ha
    rw [if_pos h1] at ha
    simp at ha
  · have := feedB_iff.1 hf
    exact m3 _ hv (feedB_iff.2 (.more (by omega) (by have := this.lt; omega) ha' this))
def prN (pl : List Int) (x : NodeV) : NodeV := if x.op = 1 then x else ⟨x.op, nth pl x.a.toNat, if x.op = 4 ∨ x.op = 6 then nth pl x.b.toNat else x.b, x.col, x.test, x.value, x.cells⟩
noncomputable def pruneLp (plan : List NodeV) : Nat → Nat → List Int → List NodeV → List NodeV
  | 0, _, _, out => out
  | k + 1, i, pl, out => if (i : Int) ∈ deadL plan then pruneLp plan k (i + 1) pl out else pruneLp plan k (i + 1) (pl.set i (out.length : Int)) (out ++ [prN pl (nth plan i)])
noncomputable def pruneF (plan : List NodeV) : List NodeV × Int := (pruneLp plan plan.length 0 (List.replicate plan.length 0) [], ((deadL plan).length : Int))
theorem pruneLp_len (plan : List NodeV) : ∀ (k i : Nat) (pl : List Int) (out : List NodeV), (pruneLp plan k i pl out).length ≤ out.length + k
  | 0, i, pl, out => by simp [pruneLp]
  | k + 1, i, pl, out => by
    unfold pruneLp
    split
    · have := pruneLp_len plan k (i + 1) pl out; omega
    · have := pruneLp_len plan k (i + 1) (pl.set i (out.length : Int)) (out ++ [prN pl (nth plan i)]); simp at this; omega
theorem cellsOk_app {a b : List NodeV} : cellsOk (a ++ b) = true ↔ cellsOk a = true ∧ cellsOk b = true := by
  unfold cellsOk; rw [List.all_append, Bool.and_eq_true]
theorem prN_cells (pl : List Int) (x : NodeV) : (prN pl x).cells = x.cells := by unfold prN; split <;> rfl
theorem pruneLp_cells (plan : List NodeV) (hc : cellsOk plan = true) : ∀ (k i : Nat) (pl : List Int) (out : List NodeV), k + i = plan.length → cellsOk out = true → cellsOk (pruneLp plan k i pl out) = true
  | 0, i, pl, out, _, h => h
  | k + 1, i, pl, out, hk, h => by
    unfold pruneLp
    split
    · exact pruneLp_cells plan hc k (i + 1) pl out (by omega) h
    · refine pruneLp_cells plan hc k (i + 1) _ _ (by omega) (cellsOk_app.2 ⟨h, ?_⟩)
      unfold cellsOk
      simp only [List.all_cons, List.all_nil, Bool.and_true, decide_eq_true_eq, prN_cells]
      exact cellsOk_nth hc (by omega)
theorem pruneF_len (plan : List NodeV) : (pruneF plan).1.length ≤ plan.length := by
  have := pruneLp_len plan plan.length 0 (List.replicate plan.length 0) []
  simp only [List.length_nil, Nat.zero_add] at this
  exact this
theorem pruneF_cells {plan : List NodeV} (hc : cellsOk plan = true) : cellsOk (pruneF plan).1 = true := pruneLp_cells plan hc _ 0 _ [] rfl rfl
theorem nth_app_lt {α : Type} [Inhabited α] {a b : List α} {j : Nat} (h : j < a.length) : nth (a ++ b) j = nth a j := by
  unfold nth; rw [List.getElem?_append_left h]
theorem nth_app_at {α : Type} [Inhabited α] {a : List α} {x : α} : nth (a ++ [x]) a.length = x := by
  unfold nth; simp
theorem PlanI.snoc {l : List NodeV} (h : PlanI l) {x : NodeV} (ha : x.op ≠ 1 → 0 ≤ x.a ∧ x.a.toNat < l.length) (hb : x.op = 4 ∨ x.op = 6 → 0 ≤ x.b ∧ x.b.toNat < l.length) : PlanI (l ++ [x]) := by
  refine ⟨fun j hj => ?_, fun j hj => ?_⟩ <;> simp only [List.length_append, List.length_singleton] at hj <;> by_cases e : j < l.length
  · rw [nth_app_lt e]; exact h.a j e
  · have : j = l.length := by omega
    subst this; rw [nth_app_at]; exact ha
  · rw [nth_app_lt e]; exact h.b j e
  · have : j = l.length := by omega
    subst this; rw [nth_app_at]; exact hb
theorem TyN.congr {W V : Nat → Int} {x : NodeV} {w : Int} (h : TyN W x w) (e : x.op ≠ 1 → V x.a.toNat = W x.a.toNat) : TyN V x w := by
  refine ⟨fun h3 => ?_, fun h2 => ?_⟩
  · rw [e (by omega)]; exact h.1 h3
  · rw [e (by omega)]; exact h.2 h2
theorem pruneLp_rw (plan : List NodeV) (hI : PlanI plan) {W : Nat → Int} (hw : ∀ j, j < plan.length → TyN W (nth plan j) (W j)) : ∀ (k i : Nat) (pl : List Int) (out : List NodeV) (V : Nat → Int), k + i = plan.length → pl.length = plan.length → (∀ j : Nat, j < i → ¬ (j : Int) ∈ deadL plan → 0 ≤ nth pl j ∧ (nth pl j).toNat < out.length ∧ V (nth pl j).toNat = W j) → PlanI out → (∀ p, p < out.length → TyN V (nth out p) (V p)) → RwI (pruneLp plan k i pl out)
  | 0, i, pl, out, V, _, _, _, h4, h5 => ⟨h4, V, h5⟩
  | k + 1, i, pl, out, V, hk, hp, h3, h4, h5 => by
    unfold pruneLp
    have hi : i < plan.length := by omega
    split
    · rename_i hd
      exact pruneLp_rw plan hI hw k (i + 1) pl out V (by omega) hp (fun j hj hjd => h3 j (by
        by_cases e : j = i
        · subst e; exact absurd hd hjd
        · omega) hjd) h4 h5
    · rename_i hd
      have rd : ∀ a : Int, a ∈ readsL (nth plan i) → 0 ≤ nth pl a.toNat ∧ (nth pl a.toNat).toNat < out.length ∧ V (nth pl a.toNat).toNat = W a.toNat := by
        intro a ha
        have h1 := readsL_lt hI hi ha
        have h2 := live_op hI hi hd ha
        exact h3 a.toNat h1.2 (by rw [Int.toNat_of_nonneg h1.1]; exact h2)
      have hx : PlanI (out ++ [prN pl (nth plan i)]) ∧ TyN V (prN pl (nth plan i)) (W i) ∧ ((prN pl (nth plan i)).op ≠ 1 → (prN pl (nth plan i)).a.toNat < out.length) := by
        by_cases o1 : (nth plan i).op = 1
        · have e : prN pl (nth plan i) = nth plan i := by unfold prN; rw [if_pos o1]
          rw [e]
          refine ⟨h4.snoc (fun q => absurd o1 q) (fun q => by omega), ⟨fun q => by omega, fun q => by omega⟩, fun q => absurd o1 q⟩
        · have ra := rd (nth plan i).a (by unfold readsL; rw [if_neg o1]; split <;> simp)
          have e : prN pl (nth plan i) = ⟨(nth plan i).op, nth pl (nth plan i).a.toNat, if (nth plan i).op = 4 ∨ (nth plan i).op = 6 then nth pl (nth plan i).b.toNat else (nth plan i).b, (nth plan i).col, (nth plan i).test, (nth plan i).value, (nth plan i).cells⟩ := by unfold prN; rw [if_neg o1]
          rw [e]
          refine ⟨h4.snoc (fun _ => ⟨ra.1, ra.2.1⟩) (fun q => ?_), ⟨fun q => ?_, fun q => ?_⟩, fun _ => ra.2.1⟩
          · have q : (nth plan i).op = 4 ∨ (nth plan i).op = 6 := q
            have rb := rd (nth plan i).b (by unfold readsL; rw [if_neg o1, if_pos q]; simp)
            show 0 ≤ (if (nth plan i).op = 4 ∨ (nth plan i).op = 6 then nth pl (nth plan i).b.toNat else (nth plan i).b) ∧ (if (nth plan i).op = 4 ∨ (nth plan i).op = 6 then nth pl (nth plan i).b.toNat else (nth plan i).b).toNat < out.length
            rw [if_pos q]; exact ⟨rb.1, rb.2.1⟩
          · have q : (nth plan i).op = 3 := q
            obtain ⟨⟨z1, z2, z3, z4⟩, x2, x3⟩ := (hw i hi).1 q
            refine ⟨⟨?_, z2, z3, z4⟩, x2, fun c hc => ?_⟩
            · show (if (nth plan i).op = 4 ∨ (nth plan i).op = 6 then nth pl (nth plan i).b.toNat else (nth plan i).b) = 0
              rw [if_neg (by omega)]; exact z1
            · show 0 ≤ c ∧ c < V (nth pl (nth plan i).a.toNat).toNat
              rw [ra.2.2]; exact x3 c hc
          · show W i = V (nth pl (nth plan i).a.toNat).toNat
            rw [ra.2.2]; exact (hw i hi).2 q
      refine pruneLp_rw plan hI hw k (i + 1) _ _ (fun p => if p = out.length then W i else V p) (by omega) (by simp; omega) (fun j hj hjd => ?_) hx.1 (fun p hp' => ?_)
      · rw [nth_set _ _ _ _ (by omega)]
        by_cases e : j = i
        · subst e
          rw [if_pos rfl]
          refine ⟨by omega, by simp, ?_⟩
          simp
        · rw [if_neg e]
          have h1 := h3 j (by omega) hjd
          refine ⟨h1.1, by simp; omega, ?_⟩
          show (if (nth pl j).toNat = out.length then W i else V (nth pl j).toNat) = W j
          rw [if_neg (by omega)]; exact h1.2.2
      · simp only [List.length_append, List.length_singleton] at hp'
        by_cases e : p < out.length
        · rw [nth_app_lt e]
          show TyN _ _ (if p = out.length then W i else V p)
          rw [if_neg (by omega)]
          refine (h5 p e).congr (fun q => ?_)
          have := h4.a p e q
          show (if (nth out p).a.toNat = out.length then W i else V (nth out p).a.toNat) = _
          rw [if_neg (by omega)]
        · have : p = out.length := by omega
          subst this
          rw [nth_app_at]
          show TyN _ _ (if out.length = out.length then W i else V out.length)
          rw [if_pos rfl]
          refine hx.2.1.congr (fun q => ?_)
          have := hx.2.2 q
          show (if (prN pl (nth plan i)).a.toNat = out.length then W i else V (prN pl (nth plan i)).a.toNat) = _
          rw [if_neg (by omega)]
theorem pruneF_rw {plan : List NodeV} (h : RwI plan) : RwI (pruneF plan).1 := by
  obtain ⟨hp, W, hw⟩ := h
  exact pruneLp_rw plan hp hw _ 0 _ [] (fun _ => 0) rfl (by simp) (fun j hj => absurd hj (by omega)) ⟨fun j hj => absurd hj (by simp), fun j hj => absurd hj (by simp)⟩ (fun p hp => absurd hp (by simp))
theorem pruneLp_ge (plan : List NodeV) : ∀ (k i : Nat) (pl : List Int) (out : List NodeV), out.length ≤ (pruneLp plan k i pl out).length
  | 0, i, pl, out => Nat.le_refl _
  | k + 1, i, pl, out => by
    unfold pruneLp
    split
    · exact pruneLp_ge plan k (i + 1) pl out
    · have := pruneLp_ge plan k (i + 1) (pl.set i (out.length : Int)) (out ++ [prN pl (nth plan i)]); simp at this; omega
theorem pruneF_pos {p : List NodeV} (h : PlanI p) (hl : 0 < p.length) : 0 < (pruneF p).1.length := by
  have hn : ¬ ((0 : Nat) : Int) ∈ deadL p := by
    rw [deadL_iff hl]
    intro hd
    unfold deadB at hd
    simp only [Bool.and_eq_true, Bool.not_eq_true', decide_eq_false_iff_not, Int.toNat_natCast] at hd
    have := h.a 0 hl hd.1.2
    omega
  obtain ⟨k, hk⟩ : ∃ k, p.length = k + 1 := ⟨p.length - 1, by omega⟩
  show 0 < (pruneLp p p.length 0 _ []).length
  rw [hk, pruneLp, if_neg hn]
  have := pruneLp_ge p k 1 ((List.replicate (k + 1) (0 : Int)).set 0 ((([] : List NodeV).length : Int))) ([] ++ [prN (List.replicate (k + 1) (0 : Int)) (nth p 0)])
  simp only [List.nil_append, List.length_singleton] at this
  exact this

end Go.Proofs.Try
