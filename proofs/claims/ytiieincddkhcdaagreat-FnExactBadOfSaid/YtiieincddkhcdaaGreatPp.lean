/- Plans: what their faults are, in plain Lean. -/
import Derived.Test.YtiieincddkhcdaaGreatAixH
set_option linter.unusedSimpArgs false
set_option linter.unusedVariables false
namespace Go.Proofs.Tryz
open Go Go.Aix
def rowLp : List Int → Int
  | [] => 0
  | c :: r => if -1000000000 ≤ c ∧ c ≤ 1000000000 then rowLp r else 3
def rowFault (l : List Int) : Int := if 4 < l.length then 2 else rowLp l
def readsOf (op : Int) : Int := if op = 1 then 0 else if op = 4 ∨ op = 6 then 2 else 1
def named (n : NodeV) : Bool :=
  if (readsOf n.op < 1 ∧ n.a ≠ 0) ∨ (readsOf n.op < 2 ∧ n.b ≠ 0) then false
  else if (n.op ≠ 2 ∧ (n.test ≠ 0 ∨ n.value ≠ 0)) ∨ (n.op ≠ 3 ∧ 0 < n.cells.length) then false
  else if n.op = 3 ∨ n.op = 4 ∨ n.op = 5 ∨ n.op = 11 ∨ n.op = 12 then (n.col == 0)
  else true
def wid (plan : List NodeV) (i : Nat) : Option Int :=
  if (nth plan i).op = 1 then some (nth plan i).col
  else if (nth plan i).op = 3 then some (nth plan i).cells.length
  else if (nth plan i).op = 6 then
    if h : (0 ≤ (nth plan i).a ∧ (nth plan i).a.toNat < i) ∧ 0 ≤ (nth plan i).b ∧ (nth plan i).b.toNat < i then
      match wid plan (nth plan i).a.toNat, wid plan (nth plan i).b.toNat with
      | some x, some y => some (IntKind.i64.wrap (IntKind.i64.wrap (x + y) - (nth plan i).col))
      | _, _ => none
    else none
  else if 7 ≤ (nth plan i).op ∧ (nth plan i).op ≤ 10 then some (IntKind.i64.wrap ((nth plan i).col + 1))
  else if h : 0 ≤ (nth plan i).a ∧ (nth plan i).a.toNat < i then wid plan (nth plan i).a.toNat
  else none
termination_by i
decreasing_by all_goals omega
theorem wid_cases {plan : List NodeV} {i : Nat} {v : Int} (h : wid plan i = some v) :
    ((nth plan i).op = 1 ∧ v = (nth plan i).col) ∨ ((nth plan i).op = 3 ∧ v = (nth plan i).cells.length) ∨
    ((nth plan i).op = 6 ∧ ∃ x y, wid plan (nth plan i).a.toNat = some x ∧ wid plan (nth plan i).b.toNat = some y ∧ (0 ≤ (nth plan i).a ∧ (nth plan i).a.toNat < i) ∧ (0 ≤ (nth plan i).b ∧ (nth plan i).b.toNat < i) ∧ v = IntKind.i64.wrap (IntKind.i64.wrap (x + y) - (nth plan i).col)) ∨
    ((7 ≤ (nth plan i).op ∧ (nth plan i).op ≤ 10) ∧ v = IntKind.i64.wrap ((nth plan i).col + 1)) ∨
    (((nth plan i).op ≠ 1 ∧ (nth plan i).op ≠ 3 ∧ (nth plan i).op ≠ 6 ∧ ¬ (7 ≤ (nth plan i).op ∧ (nth plan i).op ≤ 10)) ∧ (0 ≤ (nth plan i).a ∧ (nth plan i).a.toNat < i) ∧ wid plan (nth plan i).a.toNat = some v) := by
  rw [wid] at h
  split at h
  · simp_all
  · split at h
    · simp_all
    · split at h
      · split at h
        · rename_i hc
          split at h
          · rename_i x y hx hy
            exact .inr (.inr (.inl ⟨by assumption, x, y, hx, hy, hc.1, hc.2, (Option.some.inj h).symm⟩))
          · cases h
        · cases h
      · split at h
        · rename_i hc
          exact .inr (.inr (.inr (.inl ⟨hc, (Option.some.inj h).symm⟩)))
        · split at h
          · rename_i h1 h2 h3 h4 hc
            exact .inr (.inr (.inr (.inr ⟨⟨h1, h2, h3, h4⟩, hc, h⟩)))
          · cases h
def cellsF : List Int → Int → Int
  | [], _ => 0
  | c :: r, m => if 0 ≤ c ∧ c ≤ m then cellsF r m else 3
def fieldF (n : NodeV) (wa wb : Int) : Int :=
  if n.op = 1 then (if 1 ≤ n.col ∧ n.col ≤ 3 then 0 else 3)
  else if n.op = 2 then (if (0 ≤ n.col ∧ n.col ≤ IntKind.i64.wrap (wa - 1)) ∧ (0 ≤ n.test ∧ n.test ≤ 2) ∧ (-1000000000 ≤ n.value ∧ n.value ≤ 1000000000) then 0 else 3)
  else if n.op = 3 then (if n.cells.length < 1 ∨ 4 < n.cells.length then 2 else cellsF n.cells (IntKind.i64.wrap (wa - 1)))
  else if n.op = 4 then (if wa = wb then 0 else 1)
  else if n.op = 6 then (if 1 ≤ n.col ∧ n.col ≤ min wa wb then (if 4 < IntKind.i64.wrap (IntKind.i64.wrap (wa + wb) - n.col) then 2 else 0) else 3)
  else if n.op = 7 then (if 0 ≤ n.col ∧ n.col ≤ min wa 3 then 0 else 3)
  else if 8 ≤ n.op ∧ n.op ≤ 10 then (if 0 ≤ n.col ∧ n.col ≤ IntKind.i64.wrap (wa - 1) then 0 else 3)
  else 0
def badRead (plan : List NodeV) (i : Nat) (k : Int) : Prop := ¬ (0 ≤ k ∧ k ≤ (i : Int) - 1) ∨ (nth plan k.toNat).op = 12
instance (plan : List NodeV) (i : Nat) (k : Int) : Decidable (badRead plan i k) := by unfold badRead; infer_instance
theorem bad1 {plan : List NodeV} {i : Nat} {k : Int} (h : ¬ (0 ≤ k ∧ k ≤ (i : Int) - 1)) : badRead plan i k := Or.inl h
theorem bad2 {plan : List NodeV} {i : Nat} {k : Int} (h : (nth plan k.toNat).op = 12) : badRead plan i k := Or.inr h
def wat (plan : List NodeV) (k : Int) : Int := (wid plan k.toNat).getD 0
def nodeF (plan : List NodeV) (i : Nat) : Int :=
  if ¬ (1 ≤ (nth plan i).op ∧ (nth plan i).op ≤ 12) then 5
  else if named (nth plan i) = false then 1
  else if 0 < readsOf (nth plan i).op ∧ badRead plan i (nth plan i).a then 3
  else if 1 < readsOf (nth plan i).op ∧ badRead plan i (nth plan i).b then 3
  else fieldF (nth plan i) (wat plan (nth plan i).a) (wat plan (nth plan i).b)
theorem readsOf_cases (op : Int) : (op = 1 ∧ readsOf op = 0) ∨ ((op = 4 ∨ op = 6) ∧ readsOf op = 2) ∨ ((op ≠ 1 ∧ op ≠ 4 ∧ op ≠ 6) ∧ readsOf op = 1) := by
  unfold readsOf
  split
  · omega
  · split <;> omega
theorem nodeF_wid {plan : List NodeV} {i : Nat} (h : nodeF plan i = 0) (hW : ∀ j, j < i → (wid plan j).isSome = true) : (wid plan i).isSome = true := by
  unfold nodeF at h
  split at h
  · omega
  · split at h
    · omega
    · split at h
      · omega
      · rename_i h0 h1 h2
        split at h
        · omega
        · rename_i h3
          have hr := readsOf_cases (nth plan i).op
          have hA : 0 < readsOf (nth plan i).op → 0 ≤ (nth plan i).a ∧ (nth plan i).a.toNat < i := by
            intro h4
            by_cases hb : 0 ≤ (nth plan i).a ∧ (nth plan i).a ≤ (i : Int) - 1
            · omega
            · exact absurd ⟨h4, bad1 hb⟩ h2
          have hB : 1 < readsOf (nth plan i).op → 0 ≤ (nth plan i).b ∧ (nth plan i).b.toNat < i := by
            intro h4
            by_cases hb : 0 ≤ (nth plan i).b ∧ (nth plan i).b ≤ (i : Int) - 1
            · omega
            · exact absurd ⟨h4, bad1 hb⟩ h3
          rw [wid]
          split
          · rfl
          · split
            · rfl
            · split
              · have ha := hA (by omega)
                have hb := hB (by omega)
                rw [dif_pos ⟨ha, hb⟩]
                obtain ⟨x, hx⟩ := Option.isSome_iff_exists.1 (hW _ ha.2)
                obtain ⟨y, hy⟩ := Option.isSome_iff_exists.1 (hW _ hb.2)
                rw [hx, hy]
                rfl
              · split
                · rfl
                · have ha := hA (by omega)
                  rw [dif_pos ha]
                  exact hW _ ha.2
def planLp (plan : List NodeV) : Nat → Nat → Int
  | 0, _ => 0
  | k + 1, i => if nodeF plan i = 0 then planLp plan k (i + 1) else nodeF plan i
def planF (plan : List NodeV) : Int := if plan.length < 1 ∨ 8 < plan.length then 2 else planLp plan plan.length 0
theorem planLp_wid {plan : List NodeV} : ∀ (k i : Nat), planLp plan k i = 0 → (∀ j, j < i → (wid plan j).isSome = true) → ∀ j, j < i + k → (wid plan j).isSome = true
  | 0, i, _, hW, j, hj => hW j hj
  | k + 1, i, h, hW, j, hj => by
    unfold planLp at h
    split at h
    · rename_i h0
      refine planLp_wid k (i + 1) h (fun q hq => ?_) j (by omega)
      by_cases hqi : q < i
      · exact hW q hqi
      · have : q = i := by omega
        subst this
        exact nodeF_wid h0 hW
    · rename_i h0; exact absurd h h0
theorem planF_wid {plan : List NodeV} (h : planF plan = 0) : (1 ≤ plan.length ∧ plan.length ≤ 8) ∧ ∀ j, j < plan.length → (wid plan j).isSome = true := by
  unfold planF at h
  split at h
  · omega
  · exact ⟨by omega, fun j hj => planLp_wid plan.length 0 h (fun _ h => by omega) j (by omega)⟩
def plainN (x : NodeV) : NodeV where
  op := x.op
  a := if x.op = 1 then 0 else x.a
  b := if x.op = 4 ∨ x.op = 6 then x.b else 0
  col := if x.op = 1 ∨ x.op = 6 ∨ x.op = 7 ∨ x.op = 8 ∨ x.op = 9 ∨ x.op = 10 ∨ x.op = 2 then x.col else 0
  test := if x.op = 2 then x.test else 0
  value := if x.op = 2 then x.value else 0
  cells := if x.op = 3 then x.cells else []
def readsL (x : NodeV) : List Int := if x.op = 1 then [] else if x.op = 4 ∨ x.op = 6 then [x.a, x.b] else [x.a]
def widF (x : NodeV) (ws : List Int) : Int :=
  if x.op = 1 then x.col else if x.op = 3 then x.cells.length
  else if x.op = 6 then IntKind.i64.wrap (IntKind.i64.wrap (nth ws x.a.toNat + nth ws x.b.toNat) - x.col)
  else if 7 ≤ x.op ∧ x.op ≤ 10 then IntKind.i64.wrap (x.col + 1) else nth ws x.a.toNat
def wsOf (plan : List NodeV) (n : Nat) : List Int := (List.range n).map fun j => (wid plan j).getD 0
theorem wsOf_len (plan : List NodeV) (n : Nat) : (wsOf plan n).length = n := by simp [wsOf]
theorem wsOf_nth {plan : List NodeV} {n j : Nat} (h : j < n) : nth (wsOf plan n) j = (wid plan j).getD 0 := by simp [wsOf, nth, h]
theorem wsOf_succ (plan : List NodeV) (n : Nat) : wsOf plan (n + 1) = wsOf plan n ++ [(wid plan n).getD 0] := by simp [wsOf, List.range_succ]
theorem plain_named {x : NodeV} (h : 1 ≤ x.op ∧ x.op ≤ 12) : x = plainN x ↔ named x = true := by
  obtain ⟨op, a, b, col, test, value, cells⟩ := x
  dsimp only at h
  have hc : ¬ (0 < cells.length) ↔ cells = [] := by rw [Nat.not_lt, Nat.le_zero_eq, List.length_eq_zero_iff]
  have hr := readsOf_cases op
  have hn : named ⟨op, a, b, col, test, value, cells⟩ = true ↔ (¬ ((readsOf op < 1 ∧ a ≠ 0) ∨ (readsOf op < 2 ∧ b ≠ 0)) ∧ ¬ ((op ≠ 2 ∧ (test ≠ 0 ∨ value ≠ 0)) ∨ (op ≠ 3 ∧ 0 < cells.length)) ∧ ((op = 3 ∨ op = 4 ∨ op = 5 ∨ op = 11 ∨ op = 12) → col = 0)) := by
    unfold named
    dsimp only
    split
    · simp_all
    · split
      · simp_all
      · split
        · rename_i h1 h2 h3
          simp only [beq_iff_eq]
          exact ⟨fun h => ⟨h1, h2, fun _ => h⟩, fun h => h.2.2 h3⟩
        · rename_i h1 h2 h3
          exact ⟨fun _ => ⟨h1, h2, fun h => absurd h h3⟩, fun _ => rfl⟩
  rw [hn]
  have key : (⟨op, a, b, col, test, value, cells⟩ : NodeV) = plainN ⟨op, a, b, col, test, value, cells⟩ ↔ ((op = 1 → a = 0) ∧ (¬ (op = 4 ∨ op = 6) → b = 0) ∧ (¬ (op = 1 ∨ op = 6 ∨ op = 7 ∨ op = 8 ∨ op = 9 ∨ op = 10 ∨ op = 2) → col = 0) ∧ (op ≠ 2 → test = 0) ∧ (op ≠ 2 → value = 0) ∧ (op ≠ 3 → cells = [])) := by
    unfold plainN
    simp only [NodeV.mk.injEq, true_and]
    constructor
    · rintro ⟨h1, h2, h3, h4, h5, h6⟩
      refine ⟨fun h => by rw [if_pos h] at h1; exact h1, fun h => by rw [if_neg h] at h2; exact h2, fun h => by rw [if_neg h] at h3; exact h3, fun h => by rw [if_neg h] at h4; exact h4, fun h => by rw [if_neg h] at h5; exact h5, fun h => by rw [if_neg h] at h6; exact h6⟩
    · rintro ⟨h1, h2, h3, h4, h5, h6⟩
      refine ⟨?_, ?_, ?_, ?_, ?_, ?_⟩
      · split
        · exact h1 (by assumption)
        · rfl
      · split
        · rfl
        · exact h2 (by assumption)
      · split
        · rfl
        · exact h3 (by assumption)
      · split
        · rfl
        · exact h4 (by assumption)
      · split
        · rfl
        · exact h5 (by assumption)
      · split
        · rfl
        · exact h6 (by assumption)
  rw [key, ← hc]
  omega
theorem fieldF_congr {x : NodeV} {u v u' v' : Int} (h1 : x.op ≠ 1 → u = u') (h2 : x.op = 4 ∨ x.op = 6 → v = v') : fieldF x u v = fieldF x u' v' := by
  by_cases h : x.op = 1
  · simp [fieldF, h]
  · have hu := h1 h
    subst hu
    by_cases h' : x.op = 4 ∨ x.op = 6
    · rw [h2 h']
    · simp only [fieldF]
      rw [if_neg h, if_neg h, if_neg (show ¬ x.op = 4 by omega), if_neg (show ¬ x.op = 4 by omega), if_neg (show ¬ x.op = 6 by omega), if_neg (show ¬ x.op = 6 by omega)]
theorem node_bad {plan : List NodeV} {i : Nat} {x : NodeV} (hx : nth plan i = x) (hop : 1 ≤ x.op ∧ x.op ≤ 12) (hn : named x = true) {e : Int} (he : e ∈ readsL x) (hb : badRead plan i e) : nodeF plan i = 3 := by
  have hr := readsOf_cases x.op
  unfold nodeF
  rw [hx, if_neg (by omega), if_neg (by simp [hn])]
  unfold readsL at he
  split at he
  · simp at he
  · split at he
    · rcases List.mem_cons.1 he with rfl | he
      · rw [if_pos ⟨by omega, hb⟩]
      · obtain rfl := List.mem_singleton.1 he
        split
        · rfl
        · rw [if_pos ⟨by omega, hb⟩]
    · obtain rfl := List.mem_singleton.1 he
      rw [if_pos ⟨by omega, hb⟩]
theorem bad_not {plan : List NodeV} {i : Nat} {k : Int} (h : ¬ badRead plan i k) : 0 ≤ k ∧ k.toNat < i := by
  by_cases hb : 0 ≤ k ∧ k ≤ (i : Int) - 1
  · omega
  · exact absurd (bad1 hb) h
theorem node_good {plan : List NodeV} {i : Nat} {x : NodeV} (hx : nth plan i = x) (hop : 1 ≤ x.op ∧ x.op ≤ 12) (hn : named x = true) (hg : ∀ e ∈ readsL x, ¬ badRead plan i e) :
    (x.op ≠ 1 → 0 ≤ x.a ∧ x.a.toNat < i) ∧ (x.op = 4 ∨ x.op = 6 → 0 ≤ x.b ∧ x.b.toNat < i) ∧ nodeF plan i = fieldF x (nth (wsOf plan i) x.a.toNat) (nth (wsOf plan i) x.b.toNat) := by
  have hr := readsOf_cases x.op
  have hA : x.op ≠ 1 → ¬ badRead plan i x.a := by
    intro h
    refine hg _ ?_
    unfold readsL
    rw [if_neg h]
    split <;> simp
  have hB : x.op = 4 ∨ x.op = 6 → ¬ badRead plan i x.b := by
    intro h
    refine hg _ ?_
    unfold readsL
    rw [if_neg (by omega), if_pos h]
    simp
  refine ⟨fun h => bad_not (hA h), fun h => bad_not (hB h), ?_⟩
  unfold nodeF
  rw [hx, if_neg (by omega), if_neg (by simp [hn]), if_neg (fun h => hA (by omega) h.2), if_neg (fun h => hB (by omega) h.2)]
  refine fieldF_congr (fun h => ?_) (fun h => ?_)
  · rw [wsOf_nth (bad_not (hA h)).2]; rfl
  · rw [wsOf_nth (bad_not (hB h)).2]; rfl
theorem wid_width {plan : List NodeV} {i : Nat} {x : NodeV} (hx : nth plan i = x) (h : (wid plan i).isSome = true) : widF x (wsOf plan i) = (wid plan i).getD 0 := by
  obtain ⟨v, hv⟩ := Option.isSome_iff_exists.1 h
  rw [hv, Option.getD_some]
  rcases wid_cases hv with ⟨h0, h1⟩ | ⟨h0, h1⟩ | ⟨h0, y, z, h1, h2, h3, h4, h5⟩ | ⟨h0, h1⟩ | ⟨h0, h1, h2⟩ <;> rw [hx] at *
  · simp [widF, h0, h1]
  · simp [widF, h0, h1]
  · simp only [widF]
    rw [if_neg (by omega), if_neg (by omega), if_pos h0, wsOf_nth h3.2, wsOf_nth h4.2, h1, h2, h5]
    rfl
  · simp only [widF]
    rw [if_neg (by omega), if_neg (by omega), if_neg (by omega), if_pos h0, h1]
  · simp only [widF]
    rw [if_neg h0.1, if_neg h0.2.1, if_neg h0.2.2.1, if_neg h0.2.2.2, wsOf_nth h1.2, h2]
    rfl
end Go.Proofs.Tryz
