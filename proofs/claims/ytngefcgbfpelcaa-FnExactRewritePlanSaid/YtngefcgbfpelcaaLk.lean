/- Contracts. -/
import Derived.Test.YtngefcgbfpelcaaLj
set_option linter.unusedSimpArgs false
set_option linter.unusedVariables false
namespace Go.Proofs.Try
open Go Go.Aix
set_option maxRecDepth 100000
set_option maxHeartbeats 4000000
set_option linter.unusedSimpArgs false
set_option linter.unusedVariables false
theorem nth_set {α : Type} [Inhabited α] (l : List α) (i j : Nat) (x : α) (hi : i < l.length) : nth (l.set i x) j = if j = i then x else nth l j := by
  unfold nth
  rw [List.getElem?_set]
  by_cases h : i = j
  · subst h; simp [hi]
  · rw [if_neg h, if_neg (by omega)]
theorem planLp_node {plan : List NodeV} : ∀ (k i : Nat), planLp plan k i = 0 → ∀ j, i ≤ j → j < i + k → nodeF plan j = 0
  | 0, i, _, j, h1, h2 => by omega
  | k + 1, i, h, j, h1, h2 => by
    unfold planLp at h
    split at h
    · rename_i h0
      by_cases hj : j = i
      · subst hj; exact h0
      · exact planLp_node k (i + 1) h j (by omega) (by omega)
    · rename_i h0; exact absurd h h0
theorem planF_node {plan : List NodeV} (h : planF plan = 0) {j : Nat} (hj : j < plan.length) : nodeF plan j = 0 := by
  unfold planF at h
  split at h
  · omega
  · exact planLp_node _ _ h j (Nat.zero_le _) (by omega)
/-- What a node without a fault is. -/
theorem nodeF_ok {plan : List NodeV} {i : Nat} (h : nodeF plan i = 0) : (1 ≤ (nth plan i).op ∧ (nth plan i).op ≤ 12) ∧ named (nth plan i) = true ∧
    ((nth plan i).op ≠ 1 → ¬ badRead plan i (nth plan i).a) ∧ ((nth plan i).op = 4 ∨ (nth plan i).op = 6 → ¬ badRead plan i (nth plan i).b) ∧
    fieldF (nth plan i) (wat plan (nth plan i).a) (wat plan (nth plan i).b) = 0 := by
  have hr := readsOf_cases (nth plan i).op
  unfold nodeF at h
  split at h
  · omega
  rename_i h1
  split at h
  · omega
  rename_i h2
  split at h
  · omega
  rename_i h3
  split at h
  · omega
  rename_i h4
  refine ⟨by omega, by simpa using h2, fun h5 h6 => h3 ⟨by omega, h6⟩, fun h5 h6 => h4 ⟨by omega, h6⟩, h⟩
theorem named_parts {x : NodeV} (h : named x = true) : (readsOf x.op < 1 → x.a = 0) ∧ (readsOf x.op < 2 → x.b = 0) ∧ (x.op ≠ 2 → x.test = 0 ∧ x.value = 0) ∧ (x.op ≠ 3 → x.cells = []) ∧ (x.op = 3 ∨ x.op = 4 ∨ x.op = 5 ∨ x.op = 11 ∨ x.op = 12 → x.col = 0) := by
  unfold named at h
  split at h
  · cases h
  rename_i h1
  split at h
  · cases h
  rename_i h2
  refine ⟨fun q => Classical.byContradiction fun c => h1 (.inl ⟨q, c⟩), fun q => Classical.byContradiction fun c => h1 (.inr ⟨q, c⟩), fun q => ?_, fun q => ?_, fun q => ?_⟩
  · constructor
    · exact Classical.byContradiction fun c => h2 (.inl ⟨q, .inl c⟩)
    · exact Classical.byContradiction fun c => h2 (.inl ⟨q, .inr c⟩)
  · refine List.eq_nil_of_length_eq_zero (Classical.byContradiction fun c => h2 (.inr ⟨q, by omega⟩))
  · rw [if_pos q] at h
    simpa using h
theorem cellsF_ok : ∀ {l : List Int} {m : Int}, cellsF l m = 0 → ∀ c ∈ l, 0 ≤ c ∧ c ≤ m
  | [], _, _, c, hc => by simp at hc
  | a :: l, m, h, c, hc => by
    unfold cellsF at h
    split at h
    · rename_i h0
      rcases List.mem_cons.1 hc with rfl | hc
      · exact h0
      · exact cellsF_ok h c hc
    · omega
theorem cellsIn_of {row cells : List Int} (h1 : cells.length ≤ 1048576) (h2 : ∀ c ∈ cells, 0 ≤ c ∧ c < row.length) : cellsIn row cells = true := by
  unfold cellsIn
  simp only [Bool.and_eq_true, decide_eq_true_eq, List.all_eq_true]
  exact ⟨h1, h2⟩
theorem cellsIn_all {row cells : List Int} (h : cellsIn row cells = true) : ∀ c ∈ cells, 0 ≤ c ∧ c < row.length := by
  unfold cellsIn at h
  simp only [Bool.and_eq_true, decide_eq_true_eq, List.all_eq_true] at h
  exact h.2
theorem pickF_len (row cells : List Int) : (pickF row cells).length = cells.length := by simp [pickF]
structure PlanI (l : List NodeV) : Prop where
  a : ∀ j, j < l.length → (nth l j).op ≠ 1 → 0 ≤ (nth l j).a ∧ (nth l j).a.toNat < j
  b : ∀ j, j < l.length → (nth l j).op = 4 ∨ (nth l j).op = 6 → 0 ≤ (nth l j).b ∧ (nth l j).b.toNat < j
theorem PlanI.of {plan : List NodeV} (h : planF plan = 0) : PlanI plan := by
  refine ⟨fun j hj h1 => ?_, fun j hj h1 => ?_⟩
  · obtain ⟨_, _, h4, _, _⟩ := nodeF_ok (planF_node h hj)
    exact bad_not (h4 h1)
  · obtain ⟨_, _, _, h5, _⟩ := nodeF_ok (planF_node h hj)
    exact bad_not (h5 h1)
theorem PlanI.set {l : List NodeV} (h : PlanI l) {i : Nat} (hi : i < l.length) {x : NodeV} (ha : x.op ≠ 1 → 0 ≤ x.a ∧ x.a.toNat < i) (hb : x.op = 4 ∨ x.op = 6 → 0 ≤ x.b ∧ x.b.toNat < i) : PlanI (l.set i x) := by
  refine ⟨fun j hj => ?_, fun j hj => ?_⟩ <;> rw [List.length_set] at hj <;> rw [nth_set _ _ _ _ hi] <;> by_cases e : j = i
  · subst e; rw [if_pos rfl]; exact ha
  · rw [if_neg e]; exact h.a j hj
  · subst e; rw [if_pos rfl]; exact hb
  · rw [if_neg e]; exact h.b j hj
theorem wid_bd {plan : List NodeV} (h : planF plan = 0) : ∀ (n j : Nat), j < n → j < plan.length → 1 ≤ wat plan (j : Int) ∧ wat plan (j : Int) ≤ 4
  | 0, j, hn, _ => absurd hn (by omega)
  | n + 1, j, hn, hj => by
    obtain ⟨h1, h2, h3, h4, h5⟩ := nodeF_ok (planF_node h hj)
    have hs := (planF_wid h).2 j hj
    have ih := wid_bd h n
    have rd : ∀ a : Int, 0 ≤ a ∧ a.toNat < j → 1 ≤ wat plan a ∧ wat plan a ≤ 4 := by
      intro a ha
      have := ih a.toNat (by omega) (by omega)
      rwa [Int.toNat_of_nonneg ha.1] at this
    unfold fieldF at h5
    unfold wat
    rw [Int.toNat_natCast]
    rw [wid] at hs ⊢
    split
    · rename_i o
      rw [if_pos o] at h5
      split at h5
      · show 1 ≤ (nth plan j).col ∧ _; show 1 ≤ (nth plan j).col ∧ (nth plan j).col ≤ 4; omega
      · omega
    · rename_i o1
      have ha := bad_not (h3 o1)
      have ra := rd _ ha
      rw [if_neg o1] at h5 hs
      split
      · rename_i o
        rw [if_neg (by omega), if_pos o] at h5
        split at h5
        · omega
        · show 1 ≤ ((nth plan j).cells.length : Int) ∧ ((nth plan j).cells.length : Int) ≤ 4; omega
      · rename_i o3
        rw [if_neg o3] at hs
        split
        · rename_i o
          have hb := bad_not (h4 (Or.inr o))
          have rb := rd _ hb
          rw [if_pos o, dif_pos ⟨ha, hb⟩] at hs
          rw [dif_pos ⟨ha, hb⟩]
          rw [if_neg (by omega), if_neg (by omega), if_neg (by omega), if_pos o] at h5
          obtain ⟨x, hx⟩ := Option.isSome_iff_exists.1 ((planF_wid h).2 _ (show (nth plan j).a.toNat < plan.length by omega))
          obtain ⟨y, hy⟩ := Option.isSome_iff_exists.1 ((planF_wid h).2 _ (show (nth plan j).b.toNat < plan.length by omega))
          have ex : wat plan (nth plan j).a = x := by unfold wat; rw [hx]; rfl
          have ey : wat plan (nth plan j).b = y := by unfold wat; rw [hy]; rfl
          rw [ex] at ra h5; rw [ey] at rb h5
          rw [hx, hy]
          show 1 ≤ IntKind.i64.wrap (IntKind.i64.wrap (x + y) - (nth plan j).col) ∧ IntKind.i64.wrap (IntKind.i64.wrap (x + y) - (nth plan j).col) ≤ 4
          split at h5
          · split at h5
            · omega
            · rename_i q1 q2
              have e1 : IntKind.i64.wrap (x + y) = x + y := by rw [IntKind.wrap_i64]; omega
              rw [e1] at q2 ⊢
              have e2 : IntKind.i64.wrap (x + y - (nth plan j).col) = x + y - (nth plan j).col := by rw [IntKind.wrap_i64]; omega
              rw [e2] at q2 ⊢
              omega
          · omega
        · rename_i o6
          rw [if_neg o6] at hs
          split
          · rename_i o
            show 1 ≤ IntKind.i64.wrap ((nth plan j).col + 1) ∧ IntKind.i64.wrap ((nth plan j).col + 1) ≤ 4
            have hc : 0 ≤ (nth plan j).col ∧ (nth plan j).col ≤ 3 := by
              rw [if_neg (by omega), if_neg (by omega), if_neg (by omega), if_neg (by omega)] at h5
              split at h5
              · split at h5 <;> omega
              · rw [if_pos (by omega)] at h5
                have e : IntKind.i64.wrap (wat plan (nth plan j).a - 1) = wat plan (nth plan j).a - 1 := by rw [IntKind.wrap_i64]; omega
                rw [e] at h5
                split at h5 <;> omega
            rw [IntKind.wrap_i64]; omega
          · first
              | (rw [dif_pos ha]; exact ra)
              | exact ra
def TyN (W : Nat → Int) (x : NodeV) (w : Int) : Prop :=
  (x.op = 3 → (x.b = 0 ∧ x.col = 0 ∧ x.test = 0 ∧ x.value = 0) ∧ w = x.cells.length ∧ ∀ c ∈ x.cells, 0 ≤ c ∧ c < W x.a.toNat) ∧
  (x.op = 2 ∨ x.op = 5 ∨ x.op = 11 → w = W x.a.toNat)
def RwI (l : List NodeV) : Prop := PlanI l ∧ ∃ W : Nat → Int, ∀ j, j < l.length → TyN W (nth l j) (W j)
noncomputable def rwI (l : List NodeV) : Bool := @decide (RwI l) (Classical.propDecidable _)
theorem rwI_iff {l : List NodeV} : rwI l = true ↔ RwI l := @decide_eq_true_iff _ (Classical.propDecidable _)
theorem RwI.of {plan : List NodeV} (h : planF plan = 0) : RwI plan := by
  refine ⟨PlanI.of h, fun j => wat plan (j : Int), fun j hj => ⟨fun h3 => ?_, fun h2 => ?_⟩⟩
  · obtain ⟨h1, h2, h4, _, h5⟩ := nodeF_ok (planF_node h hj)
    obtain ⟨_, n2, n3, _, n5⟩ := named_parts h2
    have hr := readsOf_cases (nth plan j).op
    have n3 := n3 (by omega)
    have ha := bad_not (h4 (by omega))
    have hw := wid_bd h _ (nth plan j).a.toNat (Nat.lt_succ_self _) (by omega)
    refine ⟨⟨n2 (by omega), n5 (.inl h3), n3.1, n3.2⟩, ?_, fun c hc => ?_⟩
    · show wat plan (j : Int) = _
      unfold wat
      rw [Int.toNat_natCast, wid, if_neg (by omega), if_pos h3]
      rfl
    · unfold fieldF at h5
      rw [if_neg (by omega), if_neg (by omega), if_pos h3] at h5
      split at h5
      · omega
      · have := cellsF_ok h5 c hc
        rw [Int.toNat_of_nonneg ha.1] at hw
        have e : IntKind.i64.wrap (wat plan (nth plan j).a - 1) = wat plan (nth plan j).a - 1 := by rw [IntKind.wrap_i64]; omega
        rw [e] at this
        show 0 ≤ c ∧ c < wat plan (((nth plan j).a.toNat : Nat) : Int)
        rw [Int.toNat_of_nonneg ha.1]
        omega
  · obtain ⟨h1, _, h4, _, h5⟩ := nodeF_ok (planF_node h hj)
    have ha := bad_not (h4 (by omega))
    show wat plan (j : Int) = wat plan (((nth plan j).a.toNat : Nat) : Int)
    rw [Int.toNat_of_nonneg ha.1]
    unfold wat
    rw [Int.toNat_natCast, wid, if_neg (by omega), if_neg (by omega), if_neg (by omega), if_neg (by omega), dif_pos ha]
theorem RwI.set {l : List NodeV} {W : Nat → Int} (h : ∀ j, j < l.length → TyN W (nth l j) (W j)) {i : Nat} (hi : i < l.length) {x : NodeV} (hx : TyN W x (W i)) : ∀ j, j < (l.set i x).length → TyN W (nth (l.set i x) j) (W j) := by
  intro j hj
  rw [nth_set _ _ _ _ hi]
  split
  · rename_i e; subst e; exact hx
  · exact h j (by simpa using hj)
structure FoldI (l : List NodeV) : Prop where
  ok : ∀ j, j < l.length → (nth l j).op = 3 → 0 ≤ (nth l j).a ∧ (nth l j).a.toNat < j ∧ (nth l j).b = 0 ∧ (nth l j).col = 0 ∧ (nth l j).test = 0 ∧ (nth l j).value = 0 ∧ ((nth l (nth l j).a.toNat).op = 3 → cellsIn (nth l (nth l j).a.toNat).cells (nth l j).cells = true)
theorem FoldI.of {plan : List NodeV} (h : planF plan = 0) : FoldI plan := by
  refine ⟨fun j hj h3 => ?_⟩
  obtain ⟨h1, h2, h4, _, h5⟩ := nodeF_ok (planF_node h hj)
  have hb := bad_not (h4 (by omega))
  obtain ⟨_, n2, n3, _, n5⟩ := named_parts h2
  have hr := readsOf_cases (nth plan j).op
  have n3 := n3 (by omega)
  refine ⟨hb.1, hb.2, n2 (by omega), n5 (.inl h3), n3.1, n3.2, fun ha => ?_⟩
  unfold fieldF at h5
  rw [if_neg (by omega), if_neg (by omega), if_pos h3] at h5
  split at h5
  · omega
  rename_i hlen
  have hw : wat plan (nth plan j).a = (nth plan (nth plan j).a.toNat).cells.length := by
    unfold wat
    rw [wid, if_neg (by omega), if_pos ha]
    rfl
  have hal : (nth plan (nth plan j).a.toNat).cells.length ≤ 4 := by
    obtain ⟨_, _, _, _, q⟩ := nodeF_ok (planF_node h (show (nth plan j).a.toNat < plan.length by omega))
    unfold fieldF at q
    rw [if_neg (by omega), if_neg (by omega), if_pos ha] at q
    split at q <;> omega
  rw [hw] at h5
  have hwr : IntKind.i64.wrap (((nth plan (nth plan j).a.toNat).cells.length : Int) - 1) = ((nth plan (nth plan j).a.toNat).cells.length : Int) - 1 := by rw [IntKind.wrap_i64]; omega
  rw [hwr] at h5
  exact cellsIn_of (by omega) (fun c hc => by have := cellsF_ok h5 c hc; omega)
def foldN (l : List NodeV) (i : Nat) : NodeV := ⟨3, (nth l (nth l i).a.toNat).a, 0, 0, 0, 0, pickF (nth l (nth l i).a.toNat).cells (nth l i).cells⟩
theorem FoldI.set {l : List NodeV} (h : FoldI l) {i : Nat} (hi : i < l.length) (h3 : (nth l i).op = 3) (ha : (nth l (nth l i).a.toNat).op = 3) : FoldI (l.set i (foldN l i)) := by
  obtain ⟨a1, a2, _, _, _, _, a7⟩ := h.ok i hi h3
  obtain ⟨b1, b2, _, _, _, _, b7⟩ := h.ok _ (show (nth l i).a.toNat < l.length by omega) ha
  have a7 := a7 ha
  refine ⟨fun j hj hj3 => ?_⟩
  rw [List.length_set] at hj
  rw [nth_set _ _ _ _ hi] at hj3 ⊢
  by_cases hji : j = i
  · subst hji
    rw [if_pos rfl] at hj3 ⊢
    refine ⟨b1, by show (nth l (nth l j).a.toNat).a.toNat < j; omega, rfl, rfl, rfl, rfl, fun hq => ?_⟩
    have hne : (nth l (nth l j).a.toNat).a.toNat ≠ j := by omega
    show cellsIn (nth (l.set j (foldN l j)) (nth l (nth l j).a.toNat).a.toNat).cells (pickF _ _) = true
    have hq : (nth (l.set j (foldN l j)) (nth l (nth l j).a.toNat).a.toNat).op = 3 := hq
    rw [nth_set _ _ _ _ hi, if_neg hne] at hq ⊢
    have b8 := cellsIn_all (b7 hq)
    refine cellsIn_of (by rw [pickF_len]; exact cellsIn_len a7) (fun c hc => ?_)
    obtain ⟨c0, hc0, rfl⟩ := List.mem_map.1 hc
    have hc1 := cellsIn_all a7 c0 hc0
    exact b8 _ (nth_mem (by omega))
  · rw [if_neg hji] at hj3 ⊢
    obtain ⟨c1, c2, c3, c4, c5, c6, c7⟩ := h.ok j hj hj3
    refine ⟨c1, c2, c3, c4, c5, c6, fun hq => ?_⟩
    rw [nth_set _ _ _ _ hi] at hq ⊢
    by_cases hai : (nth l j).a.toNat = i
    · rw [if_pos hai]
      have c7 := c7 (by rw [hai]; exact h3)
      rw [hai] at c7
      have := cellsIn_all c7
      exact cellsIn_of (cellsIn_len c7) (fun c hc => by have := this c hc; show 0 ≤ c ∧ c < ((pickF _ _).length : Int); rw [pickF_len]; exact this)
    · rw [if_neg hai] at hq ⊢
      exact c7 hq
def foldLp : Nat → Nat → List NodeV → Int → List NodeV × Int
  | 0, _, l, d => (l, d)
  | k + 1, i, l, d => if (nth l i).op = 3 ∧ (nth l (nth l i).a.toNat).op = 3 then foldLp k (i + 1) (l.set i (foldN l i)) (d + 1) else foldLp k (i + 1) l d
def foldF (plan : List NodeV) : List NodeV × Int := foldLp plan.length 0 plan 0
theorem FoldI.rw {l : List NodeV} (h : RwI l) (hc : cellsOk l = true) : FoldI l := by
  obtain ⟨hp, W, hw⟩ := h
  refine ⟨fun j hj h3 => ?_⟩
  have ha := hp.a j hj (by omega)
  obtain ⟨⟨z1, z2, z3, z4⟩, _, hcs⟩ := (hw j hj).1 h3
  refine ⟨ha.1, ha.2, z1, z2, z3, z4, fun q => cellsIn_of ?_ (fun c hcc => ?_)⟩
  · unfold cellsOk at hc
    simp only [List.all_eq_true, decide_eq_true_eq] at hc
    exact hc _ (nth_mem hj)
  · have h1 := hcs c hcc
    have h2 := ((hw _ (show (nth l j).a.toNat < l.length by omega)).1 q).2.1
    omega
theorem foldLp_rw : ∀ (k i : Nat) (l : List NodeV) (d : Int), k + i = l.length → RwI l → RwI (foldLp k i l d).1
  | 0, i, l, d, _, h => h
  | k + 1, i, l, d, hk, h => by
    unfold foldLp
    split
    · rename_i q
      refine foldLp_rw k (i + 1) _ _ (by simp; omega) ?_
      obtain ⟨hp, W, hw⟩ := h
      have hi : i < l.length := by omega
      have ha := hp.a i hi (by omega)
      have hya := hp.a (nth l i).a.toNat (by omega) (by omega)
      obtain ⟨_, x2, x3⟩ := (hw i hi).1 q.1
      obtain ⟨_, y2, y3⟩ := (hw (nth l i).a.toNat (by omega)).1 q.2
      refine ⟨hp.set hi (fun _ => ?_) (fun hb => ?_), W, RwI.set hw hi ⟨fun _ => ⟨⟨rfl, rfl, rfl, rfl⟩, ?_, fun c hc => ?_⟩, fun h2 => ?_⟩⟩
      · show 0 ≤ (nth l (nth l i).a.toNat).a ∧ _; show 0 ≤ (nth l (nth l i).a.toNat).a ∧ (nth l (nth l i).a.toNat).a.toNat < i; omega
      · have hb : (3 : Int) = 4 ∨ (3 : Int) = 6 := hb; omega
      · show W i = ((pickF _ _).length : Int); rw [pickF_len]; exact x2
      · obtain ⟨c0, hc0, rfl⟩ := List.mem_map.1 hc
        have h1 := x3 c0 hc0
        rw [y2] at h1
        exact y3 _ (nth_mem (by omega))
      · have h2 : (3 : Int) = 2 ∨ (3 : Int) = 5 ∨ (3 : Int) = 11 := h2; omega
    · exact foldLp_rw k (i + 1) l d (by omega) h
theorem foldF_rw {plan : List NodeV} (h : RwI plan) : RwI (foldF plan).1 := foldLp_rw _ 0 plan 0 rfl h
theorem foldLp_did : ∀ (k i : Nat) (l : List NodeV) (d : Int), d ≤ (foldLp k i l d).2 ∧ (foldLp k i l d).2 ≤ d + k
  | 0, i, l, d => by simp [foldLp]
  | k + 1, i, l, d => by
    unfold foldLp
    split
    · have := foldLp_did k (i + 1) (l.set i (foldN l i)) (d + 1); omega
    · have := foldLp_did k (i + 1) l d; omega
def resPD (x : List NodeV × Int) : RES := (.tp [(false, [.arr 0 0 x.1.length]), (false, [.pv (.sc (.int .i64 x.2))])], [(0, .row 7 (tNode.encs x.1))], 1)

theorem ent43 : Enters Try.prog 43 := ⟨Try.f43, Try.func43, by kernel_rfl, by kernel_rfl⟩
def G43_0 (w : World) (Xs : Nat → Prop) (plan : List NodeV) (r0 : List NodeV) (did : Int) (x13 : Int) (r : RES) : Prop := W Try.prog 43 Try.f43 (Ent0 w Xs) (Back (Ent0 w Xs) r.1 r.2.1 r.2.2) (place (bodyOf Try.f43) [1,1,0,1,0,0] [])
  ⟨[(4, .one (.arr 0 0 r0.length)), (5, .one (.pv (.sc (.int .i64 did)))), (11, .one (.arr 0 0 r0.length)), (12, .one (.pv (.sc (.int .i64 (plan.length : Int))))), (13, .one (.pv (.sc (.int .i64 x13))))], [(0, .row 7 (tNode.encs r0))], 1⟩
noncomputable def Y43 (I : Ops) (K : FuncId → En) : CallsA := (Tab.calls [(64, false, callIce I (callE I (K 64) sh64)), (65, true, callPv (callE I (K 65) sh65))])
theorem tY43 {I : Ops} (hI : I = real) {K : FuncId → En} (k64 : K 64 = en64) (k65 : K 65 = en65) : CallsOk Try.prog (Y43 I K) := (TabOk.calls mixed ⟨EntryOk.own (s64 hI k64) hI, notQuiet, ⟨EntryOk.pv (s65 hI k65), fun _ => callPv_quiet _, trivial⟩⟩)
theorem st43_0 {w : World} {Xs : Nat → Prop} (plan : List NodeV) (r0 : List NodeV) (did : Int) (x13 : Int) {r : RES} (h : (if x13 < (plan.length : Int) then ((0 ≤ x13 ∧ x13 < (r0.length : Int)) ∧ (if (nth r0 x13.toNat).op = 3 then ((0 ≤ (nth r0 x13.toNat).a ∧ (nth r0 x13.toNat).a < (r0.length : Int)) ∧ (if (nth r0 (((nth r0 x13.toNat).a).toNat)).op = 3 then (((cellsIn ((nth r0 (((nth r0 x13.toNat).a).toNat)).cells) ((nth r0 x13.toNat).cells)) = true) ∧ G43_0 w Xs plan (r0.set x13.toNat (NodeV.mk 3 ((nth r0 (((nth r0 x13.toNat).a).toNat)).a) 0 0 0 0 (pickF ((nth r0 (((nth r0 x13.toNat).a).toNat)).cells) ((nth r0 x13.toNat).cells)))) (IntKind.i64.wrap (did + 1)) (IntKind.i64.wrap (x13 + 1)) r) else G43_0 w Xs plan r0 did (IntKind.i64.wrap (x13 + 1)) r)) else G43_0 w Xs plan r0 did (IntKind.i64.wrap (x13 + 1)) r)) else r = (.tp [(false, [.arr 0 0 r0.length]), (false, [.pv (.sc (.int .i64 did))])], [(0, .row 7 (tNode.encs r0))], 1))) : G43_0 w Xs plan r0 did x13 r := by
  obtain ⟨I, hI⟩ : ∃ I, I = real := ⟨_, rfl⟩; obtain ⟨K, hK⟩ : ∃ K : FuncId → En, K = fun g => (lk g [(64, en64), (65, en65)]).getD default := ⟨_, rfl⟩; have k64 : K 64 = en64 := (by subst hK; rfl); have k65 : K 65 = en65 := (by subst hK; rfl); clear hK
  unfold G43_0
  obtain ⟨q0, hq0⟩ : ∃ q, q = (plan.length : Int) := ⟨_, rfl⟩
  try rw [← hq0]
  obtain ⟨q1, hq1⟩ : ∃ q, q = (tNode.encs r0) := ⟨_, rfl⟩
  try rw [← hq1]
  obtain ⟨q2, hq2⟩ : ∃ q, q = r0.length := ⟨_, rfl⟩
  try rw [← hq2]
  refine W_go (Y := (Y43 I K)) xok (tY43 hI k64 k65) Try.func43 rfl 2000 _ hI ?_; (conv => arg 4; cbv)
  repeat' (first | (have hd := And.left h; replace h := And.right h) | ((with_reducible refine on_eqs ?_ ?_); (focus (with_reducible rfl)); conv => arg 4; cbv) | (with_reducible refine on_both ?_ ?_ <;> (conv => arg 4; cbv)) | (with_reducible refine on_true (by assumption) ?_; conv => arg 4; cbv) | (with_reducible refine on_false (by assumption) ?_; conv => arg 4; cbv) | (with_reducible refine on_ask (fun g => ?_) (fun g => ?_) <;> (have hc := g) <;> (try simp (disch := omega) [hI, k64, en64, an64, k65, en65, an65, hq0, hq1, hq2, -List.length_eq_zero_iff] at hc) <;> (try (exfalso; omega)) <;> (try (first | (revert h; (refine imp_l ?_ (fun h => ?_)); focus (first | exact hc | assumption | omega | (simpa using hc; done))) | (revert h; (refine imp_r ?_ (fun h => ?_)); focus (first | exact hc | assumption | omega | (simpa using hc; done))))) <;> (conv => arg 4; cbv)) | ((with_reducible refine on_must ?_ ?_); (focus ((simp (disch := omega) [hI, k64, en64, an64, k65, en65, an65, hq0, hq1, hq2]) <;> (first | omega | assumption | ((repeat' (refine And.intro ?_ ?_)) <;> (first | omega | assumption))))); conv => arg 4; cbv) | ((with_reducible refine on_any ?_); refine W_early (Y := (Y43 I K)) xok (tY43 hI k64 k65) mixed hI rfl (by kernel_rfl) rfl rfl ?_; (conv => arg 4; cbv)) | ((with_reducible refine on_any ?_); refine W_any (Y := (Y43 I K)) xok (tY43 hI k64 k65) mixed hI rfl (by kernel_rfl) rfl rfl ?_; (conv => arg 4; cbv)) | ((with_reducible refine on_any ?_); refine W_behind (Y := (Y43 I K)) xok (tY43 hI k64 k65) Try.func43 rfl 2000 _ hI ?_; (conv => arg 4; cbv)))
  all_goals (first | ((with_reducible have hG : G43_0 _ _ _ _ _ _ _ := h); unfold G43_0 at hG; (with_reducible refine on_loop ?_); simp only [List.cons_append, List.nil_append]; refine W_norm [4, 5, 11, 12, 13] ?_ hG) | ((subst h); (with_reducible refine on_ret ?_); refine Ended_of rfl ?_))
  all_goals ((conv => lhs; cbv); (try (first | rfl | ((try simp (disch := omega) [hI, k64, en64, an64, k65, en65, an65, hq0, hq1, hq2, mapE_append, Ty.encs_append, encs1_I64, encs1_U8, encs1, mapE1, encs_setR, mapE_setR, Ty.nth_encs, tNode_enc, tNode_own]) <;> (first | rfl | omega | (simp; done))))))
theorem go43 (plan : List NodeV) {r : RES} (h : ∀ (w : World) (Xs : Nat → Prop), ((0 < plan.length ∧ plan.length ≤ 1048576) ∧ G43_0 w Xs plan plan 0 0 r)) : Ok0 Try.prog 43 [(pL tNode).enc plan] r.1 r.2.1 r.2.2 := by
  obtain ⟨I, hI⟩ : ∃ I, I = real := ⟨_, rfl⟩; obtain ⟨K, hK⟩ : ∃ K : FuncId → En, K = fun g => (lk g [(64, en64), (65, en65)]).getD default := ⟨_, rfl⟩; have k64 : K 64 = en64 := (by subst hK; rfl); have k65 : K 65 = en65 := (by subst hK; rfl); clear hK
  show Ok0 Try.prog 43 [.one (.pv (.sl false 7 (tNode.encs plan)))] _ _ _
  obtain ⟨q0, hq0⟩ : ∃ q, q = (tNode.encs plan) := ⟨_, rfl⟩
  try rw [← hq0]
  refine Ok0_run (Y := (Y43 I K)) xok (tY43 hI k64 k65) Try.func43 rfl rfl rfl 2000 hI fun w Xs => ?_; (conv => arg 4; cbv)
  replace h := h w Xs
  repeat' (first | (have hd := And.left h; replace h := And.right h) | ((with_reducible refine on_eqs ?_ ?_); (focus (with_reducible rfl)); conv => arg 4; cbv) | (with_reducible refine on_both ?_ ?_ <;> (conv => arg 4; cbv)) | (with_reducible refine on_true (by assumption) ?_; conv => arg 4; cbv) | (with_reducible refine on_false (by assumption) ?_; conv => arg 4; cbv) | (with_reducible refine on_ask (fun g => ?_) (fun g => ?_) <;> (have hc := g) <;> (try simp (disch := omega) [hI, k64, en64, an64, k65, en65, an65, hq0, -List.length_eq_zero_iff] at hc) <;> (try (exfalso; omega)) <;> (try (first | (revert h; (refine imp_l ?_ (fun h => ?_)); focus (first | exact hc | assumption | omega | (simpa using hc; done))) | (revert h; (refine imp_r ?_ (fun h => ?_)); focus (first | exact hc | assumption | omega | (simpa using hc; done))))) <;> (conv => arg 4; cbv)) | ((with_reducible refine on_must ?_ ?_); (focus ((simp (disch := omega) [hI, k64, en64, an64, k65, en65, an65, hq0]) <;> (first | omega | assumption | ((repeat' (refine And.intro ?_ ?_)) <;> (first | omega | assumption))))); conv => arg 4; cbv) | ((with_reducible refine on_any ?_); refine W_early (Y := (Y43 I K)) xok (tY43 hI k64 k65) mixed hI rfl (by kernel_rfl) rfl rfl ?_; (conv => arg 4; cbv)) | ((with_reducible refine on_any ?_); refine W_any (Y := (Y43 I K)) xok (tY43 hI k64 k65) mixed hI rfl (by kernel_rfl) rfl rfl ?_; (conv => arg 4; cbv)) | ((with_reducible refine on_any ?_); refine W_behind (Y := (Y43 I K)) xok (tY43 hI k64 k65) Try.func43 rfl 2000 _ hI ?_; (conv => arg 4; cbv)))
  all_goals (first | ((with_reducible have hG : G43_0 _ _ _ _ _ _ _ := h); unfold G43_0 at hG; (with_reducible refine on_loop ?_); simp only [List.cons_append, List.nil_append]; refine W_norm [4, 5, 11, 12, 13] ?_ hG) | ((subst h); (with_reducible refine on_ret ?_); refine Ended_of rfl ?_))
  all_goals ((conv => lhs; cbv); (try (first | rfl | ((try simp (disch := omega) [hI, k64, en64, an64, k65, en65, an65, hq0, mapE_append, Ty.encs_append, encs1_I64, encs1_U8, encs1, mapE1, encs_setR, mapE_setR, Ty.nth_encs, tNode_enc, tNode_own]) <;> (first | rfl | omega | (simp; done))))))
theorem lm_fold {w : World} {Xs : Nat → Prop} (plan : List NodeV) (hl : plan.length ≤ 8) : ∀ (k i : Nat) (l : List NodeV) (d : Int), k + i = plan.length → l.length = plan.length → FoldI l → 0 ≤ d ∧ d ≤ i → G43_0 w Xs plan l d i (resPD (foldLp k i l d)) := by
  intro k
  induction k with
  | zero =>
    intro i l d hk hll hI hd
    apply st43_0
    rw [if_neg (by omega)]
    rfl
  | succ k ih =>
    intro i l d hk hll hI hd
    have hw : IntKind.i64.wrap (d + 1) = d + 1 := by rw [IntKind.wrap_i64]; omega
    apply st43_0
    rw [if_pos (by omega), wsucc (by omega), Int.toNat_natCast, foldLp, hw]
    refine ⟨by omega, if_go (fun h3 => ?_) (fun h3 => ?_)⟩
    · obtain ⟨a1, a2, _, _, _, _, a7⟩ := hI.ok i (by omega) h3
      refine ⟨by omega, if_go (fun ha => ?_) (fun ha => ?_)⟩
      · rw [if_pos ⟨h3, ha⟩]
        exact ⟨a7 ha, ih (i + 1) _ _ (by omega) (by simp; omega) (hI.set (by omega) h3 ha) (by omega)⟩
      · rw [if_neg (fun h => ha h.2)]
        exact ih (i + 1) _ _ (by omega) hll hI (by omega)
    · rw [if_neg (fun h => h3 h.1)]
      exact ih (i + 1) _ _ (by omega) hll hI (by omega)

def sh43 : Shp := fun I i b l s => .ok (.tp [(false, [.arr 0 0 (I.len (l 0))]), (false, [.pv (.sc (.int .i64 (i 0)))])], [(0, .row 7 (l 0))], 1)
noncomputable def an43 : An (List NodeV × Unit) where
  pre t := (rwI t.1) && decide (0 < t.1.length ∧ t.1.length ≤ 8) && (cellsOk t.1)
  i _ t := (foldF t.1).2
  l _ t := (tNode.encs ((foldF t.1).1))
noncomputable def en43 : En := mkE (parsC (pL tNode) pars0) an43
theorem ok43 (plan : List NodeV) (p0 : rwI plan = true) (p1 : 0 < plan.length ∧ plan.length ≤ 8) (p2 : cellsOk plan = true) : Ok0 Try.prog 43 [(pL tNode).enc plan] ((.tp [(false, [.arr 0 0 ((foldF plan).1).length]), (false, [.pv (.sc (.int .i64 ((foldF plan).2)))])], [(0, .row 7 (tNode.encs ((foldF plan).1)))], 1) : RES).1 ((.tp [(false, [.arr 0 0 ((foldF plan).1).length]), (false, [.pv (.sc (.int .i64 ((foldF plan).2)))])], [(0, .row 7 (tNode.encs ((foldF plan).1)))], 1) : RES).2.1 ((.tp [(false, [.arr 0 0 ((foldF plan).1).length]), (false, [.pv (.sc (.int .i64 ((foldF plan).2)))])], [(0, .row 7 (tNode.encs ((foldF plan).1)))], 1) : RES).2.2 := by
  have hI := rwI_iff.1 p0
  exact go43 plan fun w Xs => ⟨by omega, lm_fold plan p1.2 plan.length 0 plan 0 rfl rfl (FoldI.rw hI p2) (by omega)⟩
theorem s43 {I : Ops} (hI : I = real) {e : En} (he : e = en43) : Sound Try.prog 43 (callE I e sh43) := by
  refine Sound.mkR ent43 hI ?_ he
  rintro ⟨plan, ⟨⟩⟩ hp r σ n e
  have hp : ((rwI plan) && decide (0 < plan.length ∧ plan.length ≤ 8) && (cellsOk plan)) = true := hp
  try simp only [Bool.and_eq_true, decide_eq_true_eq] at hp
  obtain ⟨⟨p0, p1⟩, p2⟩ := hp
  have e : (R.ok ((.tp [(false, [.arr 0 0 ((foldF plan).1).length]), (false, [.pv (.sc (.int .i64 ((foldF plan).2)))])], [(0, .row 7 (tNode.encs ((foldF plan).1)))], 1) : RES) : R RES).val = some (r, σ, n) := by
    rw [← e]
    simp [sh43, an43]
  cases e
  exact ok43 plan p0 p1 p2
theorem ent41 : Enters Try.prog 41 := ⟨Try.f41, Try.func41, by kernel_rfl, by kernel_rfl⟩
def G41_0 (w : World) (Xs : Nat → Prop) (r0 : List NodeV) (did : Int) (i : Int) (r : RES) : Prop := W Try.prog 41 Try.f41 (Ent0 w Xs) (Back (Ent0 w Xs) r.1 r.2.1 r.2.2) (place (bodyOf Try.f41) [1,1,1,0,1,0,0] [])
  ⟨[(4, .one (.arr 0 0 r0.length)), (5, .one (.pv (.sc (.int .i64 did)))), (6, .one (.pv (.sc (.int .i64 i))))], [(0, .row 7 (tNode.encs r0))], 1⟩
noncomputable def Y41 (I : Ops) (K : FuncId → En) : CallsA := (Tab.calls [(51, false, callIce I (callE I (K 51) sh51)), (62, true, callPv (callE I (K 62) sh62))])
theorem tY41 {I : Ops} (hI : I = real) {K : FuncId → En} (k51 : K 51 = en51) (k62 : K 62 = en62) : CallsOk Try.prog (Y41 I K) := (TabOk.calls mixed ⟨EntryOk.own (s51 hI k51) hI, notQuiet, ⟨EntryOk.pv (s62 hI k62), fun _ => callPv_quiet _, trivial⟩⟩)
theorem st41_0 {w : World} {Xs : Nat → Prop} (r0 : List NodeV) (did : Int) (i : Int) {r : RES} (h : (if i < (r0.length : Int) then ((0 ≤ i ∧ i < (r0.length : Int)) ∧ (if (nth r0 i.toNat).op = 3 then ((0 ≤ (nth r0 i.toNat).a ∧ (nth r0 i.toNat).a < (r0.length : Int)) ∧ (if (nth r0 (((nth r0 i.toNat).a).toNat)).op = 3 then (((cellsIn ((nth r0 (((nth r0 i.toNat).a).toNat)).cells) ((nth r0 i.toNat).cells)) = true) ∧ G41_0 w Xs (r0.set i.toNat (NodeV.mk ((nth r0 i.toNat).op) ((nth r0 (((nth r0 i.toNat).a).toNat)).a) ((nth r0 i.toNat).b) ((nth r0 i.toNat).col) ((nth r0 i.toNat).test) ((nth r0 i.toNat).value) (pickF ((nth r0 (((nth r0 i.toNat).a).toNat)).cells) ((nth r0 i.toNat).cells)))) (IntKind.i64.wrap (did + 1)) (IntKind.i64.wrap (i + 1)) r) else G41_0 w Xs r0 did (IntKind.i64.wrap (i + 1)) r)) else G41_0 w Xs r0 did (IntKind.i64.wrap (i + 1)) r)) else r = (.tp [(false, [.arr 0 0 r0.length]), (false, [.pv (.sc (.int .i64 did))])], [(0, .row 7 (tNode.encs r0))], 1))) : G41_0 w Xs r0 did i r := by
  obtain ⟨I, hI⟩ : ∃ I, I = real := ⟨_, rfl⟩; obtain ⟨K, hK⟩ : ∃ K : FuncId → En, K = fun g => (lk g [(51, en51), (62, en62)]).getD default := ⟨_, rfl⟩; have k51 : K 51 = en51 := (by subst hK; rfl); have k62 : K 62 = en62 := (by subst hK; rfl); clear hK
  unfold G41_0
  obtain ⟨q0, hq0⟩ : ∃ q, q = (tNode.encs r0) := ⟨_, rfl⟩
  try rw [← hq0]
  obtain ⟨q1, hq1⟩ : ∃ q, q = r0.length := ⟨_, rfl⟩
  try rw [← hq1]
  refine W_go (Y := (Y41 I K)) xok (tY41 hI k51 k62) Try.func41 rfl 2000 _ hI ?_; (conv => arg 4; cbv)
  repeat' (first | (have hd := And.left h; replace h := And.right h) | ((with_reducible refine on_eqs ?_ ?_); (focus (with_reducible rfl)); conv => arg 4; cbv) | (with_reducible refine on_both ?_ ?_ <;> (conv => arg 4; cbv)) | (with_reducible refine on_true (by assumption) ?_; conv => arg 4; cbv) | (with_reducible refine on_false (by assumption) ?_; conv => arg 4; cbv) | (with_reducible refine on_ask (fun g => ?_) (fun g => ?_) <;> (have hc := g) <;> (try simp (disch := omega) [hI, k51, en51, an51, k62, en62, an62, hq0, hq1, -List.length_eq_zero_iff] at hc) <;> (try (exfalso; omega)) <;> (try (first | (revert h; (refine imp_l ?_ (fun h => ?_)); focus (first | exact hc | assumption | omega | (simpa using hc; done))) | (revert h; (refine imp_r ?_ (fun h => ?_)); focus (first | exact hc | assumption | omega | (simpa using hc; done))))) <;> (conv => arg 4; cbv)) | ((with_reducible refine on_must ?_ ?_); (focus ((simp (disch := omega) [hI, k51, en51, an51, k62, en62, an62, hq0, hq1]) <;> (first | omega | assumption | ((repeat' (refine And.intro ?_ ?_)) <;> (first | omega | assumption))))); conv => arg 4; cbv))
  all_goals (first | ((with_reducible have hG : G41_0 _ _ _ _ _ _ := h); unfold G41_0 at hG; (with_reducible refine on_loop ?_); simp only [List.cons_append, List.nil_append]; refine W_norm [4, 5, 6] ?_ hG) | ((subst h); (with_reducible refine on_ret ?_); refine Ended_of rfl ?_))
  all_goals ((conv => lhs; cbv); (try (first | rfl | ((try simp (disch := omega) [hI, k51, en51, an51, k62, en62, an62, hq0, hq1, mapE_append, Ty.encs_append, encs1_I64, encs1_U8, encs1, mapE1, encs_setR, mapE_setR, Ty.nth_encs, tNode_enc, tNode_own]) <;> (first | rfl | omega | (simp; done))))))
theorem go41 (plan : List NodeV) {r : RES} (h : ∀ (w : World) (Xs : Nat → Prop), ((plan.length ≤ 1048576) ∧ (((cellsOk plan) = true) ∧ G41_0 w Xs plan 0 0 r))) : Ok0 Try.prog 41 [(pL tNode).enc plan] r.1 r.2.1 r.2.2 := by
  obtain ⟨I, hI⟩ : ∃ I, I = real := ⟨_, rfl⟩; obtain ⟨K, hK⟩ : ∃ K : FuncId → En, K = fun g => (lk g [(51, en51), (62, en62)]).getD default := ⟨_, rfl⟩; have k51 : K 51 = en51 := (by subst hK; rfl); have k62 : K 62 = en62 := (by subst hK; rfl); clear hK
  show Ok0 Try.prog 41 [.one (.pv (.sl false 7 (tNode.encs plan)))] _ _ _
  obtain ⟨q0, hq0⟩ : ∃ q, q = (tNode.encs plan) := ⟨_, rfl⟩
  try rw [← hq0]
  refine Ok0_run (Y := (Y41 I K)) xok (tY41 hI k51 k62) Try.func41 rfl rfl rfl 2000 hI fun w Xs => ?_; (conv => arg 4; cbv)
  replace h := h w Xs
  repeat' (first | (have hd := And.left h; replace h := And.right h) | ((with_reducible refine on_eqs ?_ ?_); (focus (with_reducible rfl)); conv => arg 4; cbv) | (with_reducible refine on_both ?_ ?_ <;> (conv => arg 4; cbv)) | (with_reducible refine on_true (by assumption) ?_; conv => arg 4; cbv) | (with_reducible refine on_false (by assumption) ?_; conv => arg 4; cbv) | (with_reducible refine on_ask (fun g => ?_) (fun g => ?_) <;> (have hc := g) <;> (try simp (disch := omega) [hI, k51, en51, an51, k62, en62, an62, hq0, -List.length_eq_zero_iff] at hc) <;> (try (exfalso; omega)) <;> (try (first | (revert h; (refine imp_l ?_ (fun h => ?_)); focus (first | exact hc | assumption | omega | (simpa using hc; done))) | (revert h; (refine imp_r ?_ (fun h => ?_)); focus (first | exact hc | assumption | omega | (simpa using hc; done))))) <;> (conv => arg 4; cbv)) | ((with_reducible refine on_must ?_ ?_); (focus ((simp (disch := omega) [hI, k51, en51, an51, k62, en62, an62, hq0]) <;> (first | omega | assumption | ((repeat' (refine And.intro ?_ ?_)) <;> (first | omega | assumption))))); conv => arg 4; cbv))
  all_goals (first | ((with_reducible have hG : G41_0 _ _ _ _ _ _ := h); unfold G41_0 at hG; (with_reducible refine on_loop ?_); simp only [List.cons_append, List.nil_append]; refine W_norm [4, 5, 6] ?_ hG) | ((subst h); (with_reducible refine on_ret ?_); refine Ended_of rfl ?_))
  all_goals ((conv => lhs; cbv); (try (first | rfl | ((try simp (disch := omega) [hI, k51, en51, an51, k62, en62, an62, hq0, mapE_append, Ty.encs_append, encs1_I64, encs1_U8, encs1, mapE1, encs_setR, mapE_setR, Ty.nth_encs, tNode_enc, tNode_own]) <;> (first | rfl | omega | (simp; done))))))
theorem lm_sfold {w : World} {Xs : Nat → Prop} (n : Nat) (hl : n ≤ 8) : ∀ (k i : Nat) (l : List NodeV) (d : Int), k + i = n → l.length = n → FoldI l → 0 ≤ d ∧ d ≤ i → G41_0 w Xs l d i (resPD (foldLp k i l d)) := by
  intro k
  induction k with
  | zero =>
    intro i l d hk hll hI hd
    apply st41_0
    rw [if_neg (by omega)]
    rfl
  | succ k ih =>
    intro i l d hk hll hI hd
    have hw : IntKind.i64.wrap (d + 1) = d + 1 := by rw [IntKind.wrap_i64]; omega
    apply st41_0
    rw [if_pos (by omega), wsucc (by omega), Int.toNat_natCast, foldLp, hw]
    refine ⟨by omega, if_go (fun h3 => ?_) (fun h3 => ?_)⟩
    · obtain ⟨a1, a2, a3, a4, a5, a6, a7⟩ := hI.ok i (by omega) h3
      refine ⟨by omega, if_go (fun ha => ?_) (fun ha => ?_)⟩
      · rw [if_pos ⟨h3, ha⟩, h3, a3, a4, a5, a6]
        exact ⟨a7 ha, ih (i + 1) _ _ (by omega) (by simp; omega) (hI.set (by omega) h3 ha) (by omega)⟩
      · rw [if_neg (fun h => ha h.2)]
        exact ih (i + 1) _ _ (by omega) hll hI (by omega)
    · rw [if_neg (fun h => h3 h.1)]
      exact ih (i + 1) _ _ (by omega) hll hI (by omega)

def sh41 : Shp := fun I i b l s => .ok (.tp [(false, [.arr 0 0 (I.len (l 0))]), (false, [.pv (.sc (.int .i64 (i 0)))])], [(0, .row 7 (l 0))], 1)
noncomputable def an41 : An (List NodeV × Unit) where
  pre t := (rwI t.1) && decide (0 < t.1.length ∧ t.1.length ≤ 8) && (cellsOk t.1)
  i _ t := (foldF t.1).2
  l _ t := (tNode.encs ((foldF t.1).1))
noncomputable def en41 : En := mkE (parsC (pL tNode) pars0) an41
theorem ok41 (plan : List NodeV) (p0 : rwI plan = true) (p1 : 0 < plan.length ∧ plan.length ≤ 8) (p2 : cellsOk plan = true) : Ok0 Try.prog 41 [(pL tNode).enc plan] ((.tp [(false, [.arr 0 0 ((foldF plan).1).length]), (false, [.pv (.sc (.int .i64 ((foldF plan).2)))])], [(0, .row 7 (tNode.encs ((foldF plan).1)))], 1) : RES).1 ((.tp [(false, [.arr 0 0 ((foldF plan).1).length]), (false, [.pv (.sc (.int .i64 ((foldF plan).2)))])], [(0, .row 7 (tNode.encs ((foldF plan).1)))], 1) : RES).2.1 ((.tp [(false, [.arr 0 0 ((foldF plan).1).length]), (false, [.pv (.sc (.int .i64 ((foldF plan).2)))])], [(0, .row 7 (tNode.encs ((foldF plan).1)))], 1) : RES).2.2 := by
  have hI := rwI_iff.1 p0
  exact go41 plan fun w Xs => ⟨by omega, p2, lm_sfold plan.length p1.2 plan.length 0 plan 0 rfl rfl (FoldI.rw hI p2) (by omega)⟩
theorem s41 {I : Ops} (hI : I = real) {e : En} (he : e = en41) : Sound Try.prog 41 (callE I e sh41) := by
  refine Sound.mkR ent41 hI ?_ he
  rintro ⟨plan, ⟨⟩⟩ hp r σ n e
  have hp : ((rwI plan) && decide (0 < plan.length ∧ plan.length ≤ 8) && (cellsOk plan)) = true := hp
  try simp only [Bool.and_eq_true, decide_eq_true_eq] at hp
  obtain ⟨⟨p0, p1⟩, p2⟩ := hp
  have e : (R.ok ((.tp [(false, [.arr 0 0 ((foldF plan).1).length]), (false, [.pv (.sc (.int .i64 ((foldF plan).2)))])], [(0, .row 7 (tNode.encs ((foldF plan).1)))], 1) : RES) : R RES).val = some (r, σ, n) := by
    rw [← e]
    simp [sh41, an41]
  cases e
  exact ok41 plan p0 p1 p2
end Go.Proofs.Try
