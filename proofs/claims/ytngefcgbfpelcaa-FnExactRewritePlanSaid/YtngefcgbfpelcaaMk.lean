/- Contracts. -/
import Derived.Test.YtngefcgbfpelcaaLa
set_option linter.unusedSimpArgs false
set_option linter.unusedVariables false
namespace Go.Proofs.Try
open Go Go.Aix
set_option maxRecDepth 100000
set_option maxHeartbeats 4000000
set_option linter.unusedSimpArgs false
set_option linter.unusedVariables false
theorem hd_mk {V : Type} {f : V → Int → V × Int} {h : V → Int → Option Int} (hf : ∀ e k, h (f e k).1 k = some (f e k).2) : ∀ (l : List V) (k : Int), hdS h (mkS f l k).1 k = (mkS f l k).2
  | [], k => rfl
  | e :: r, k => by
    rw [mkS]
    dsimp only
    rw [hdS, hf]
    exact hd_mk hf r _
theorem hd_mkU8 (l : List Int) (k : Int) : hdS hU8 (mkS fU8 l k).1 k = (mkS fU8 l k).2 := hd_mk (fun e k => by simp [hU8, fU8]) l k
theorem hd_mkI64 (l : List Int) (k : Int) : hdS hI64 (mkS fI64 l k).1 k = (mkS fI64 l k).2 := hd_mk (fun e k => by simp [hI64, fI64]) l k
theorem nx1_id {k : Int} (h : 0 ≤ k) (h2 : k < 9223372036854775807) : nx1 k = k + 1 := by unfold nx1; rw [IntKind.wrap_i64]; omega
theorem mkI_n : ∀ (l : List Int) (k : Int), 0 ≤ k → k + l.length < 9223372036854775807 → (mkS fI64 l k).2 = k + l.length
  | [], k, _, _ => by simp [mkS]
  | e :: r, k, h0, h1 => by
    rw [mkS]
    dsimp only
    simp only [List.length_cons] at h1
    rw [show (fI64 e k).2 = k + 1 from nx1_id h0 (by omega), mkI_n r (k + 1) (by omega) (by omega), List.length_cons]
    omega
theorem mkU_n : ∀ (l : List Int) (k : Int), 0 ≤ k → k + l.length < 9223372036854775807 → (mkS fU8 l k).2 = k + l.length
  | [], k, _, _ => by simp [mkS]
  | e :: r, k, h0, h1 => by
    rw [mkS]
    dsimp only
    simp only [List.length_cons] at h1
    rw [show (fU8 e k).2 = k + 1 from nx1_id h0 (by omega), mkU_n r (k + 1) (by omega) (by omega), List.length_cons]
    omega
theorem szS_ok {V : Type} {f : V → Int → Int} {B C : V → Prop} (hf : ∀ e m, B e → 0 ≤ m → m ≤ 1048576 → 0 ≤ f e m → C e ∧ f e m ≤ m) : ∀ (l : List V) (m : Int), (∀ e ∈ l, B e) → 0 ≤ m → m ≤ 1048576 → 0 ≤ szS f l m → (∀ e ∈ l, C e) ∧ szS f l m ≤ m
  | [], m, _, _, _, _ => ⟨fun _ he => by simp at he, Int.le_refl _⟩
  | e :: r, m, hb, h0, h1, h => by
    unfold szS at h ⊢
    by_cases hn : f e m < 0
    · rw [if_pos hn] at h; omega
    · rw [if_neg hn] at h ⊢
      obtain ⟨q1, q2⟩ := hf e m (hb e List.mem_cons_self) h0 h1 (by omega)
      obtain ⟨r1, r2⟩ := szS_ok hf r (f e m) (fun e he => hb e (List.mem_cons_of_mem _ he)) (by omega) (by omega) h
      refine ⟨fun x hx => ?_, by omega⟩
      rcases List.mem_cons.1 hx with rfl | hx
      · exact q1
      · exact r1 x hx
theorem szA_ok {V : Type} {f : V → Int → Int} {B C : V → Prop} (hf : ∀ e m, B e → 0 ≤ m → m ≤ 1048576 → 0 ≤ f e m → C e ∧ f e m ≤ m) {l : List V} {m : Int} (hl : l.length ≤ 9223372036854775807) (hb : ∀ e ∈ l, B e) (h0 : 0 ≤ m) (h1 : m ≤ 1048576) (h : 0 ≤ szA f l m) : l.length ≤ 1048576 ∧ (∀ e ∈ l, C e) ∧ szA f l m ≤ m := by
  unfold szA at h ⊢
  by_cases hn : IntKind.i64.wrap (m - l.length) < 0
  · rw [if_pos hn] at h; omega
  · rw [if_neg hn] at h ⊢
    have q : IntKind.i64.wrap (m - l.length) = m - l.length := by
      rw [IntKind.wrap_i64]; omega
    rw [q] at h hn ⊢
    obtain ⟨r1, r2⟩ := szS_ok hf l (m - l.length) hb (by omega) (by omega) h
    exact ⟨by omega, r1, by omega⟩
theorem szL_ok {n : Nat} {m : Int} (hn : n ≤ 9223372036854775807) (h0 : 0 ≤ m) (h1 : m ≤ 1048576) (h : 0 ≤ szL n m) : n ≤ 1048576 ∧ szL n m ≤ m := by
  unfold szL at h ⊢
  rw [IntKind.wrap_i64] at *
  split at h
  · omega
  · rename_i hh
    rw [if_neg hh]
    omega
theorem szNd_ok (e : NodeV) (m : Int) (hb : e.cells.length ≤ 9223372036854775807) (h0 : 0 ≤ m) (h1 : m ≤ 1048576) (h : 0 ≤ szNd e m) : e.cells.length ≤ 1048576 ∧ szNd e m ≤ m := by
  unfold szNd at h ⊢
  split at h
  · omega
  · rename_i hh
    rw [if_neg hh]
    exact szL_ok hb h0 h1 h
theorem fNode_nx (e : NodeV) (k : Int) (h0 : 0 ≤ k) (hl : e.cells.length ≤ 1048576) (h1 : k + 1048582 < 4611686018427387904) : (fNode e k).2 = k + 6 + e.cells.length := by
  show (mkS fI64 e.cells (nx1 (nx1 (nx1 (nx1 (nx1 (nx1 k))))))).2 = _
  rw [nx1_id (k := k) (by omega) (by omega), nx1_id (k := k + 1) (by omega) (by omega), nx1_id (k := k + 1 + 1) (by omega) (by omega), nx1_id (k := k + 1 + 1 + 1) (by omega) (by omega), nx1_id (k := k + 1 + 1 + 1 + 1) (by omega) (by omega), nx1_id (k := k + 1 + 1 + 1 + 1 + 1) (by omega) (by omega), mkI_n _ _ (by omega) (by omega)]
  omega
theorem mkNode_nn : ∀ (l : List NodeV) (k : Int), 0 ≤ k → (∀ e ∈ l, e.cells.length ≤ 1048576) → k + l.length * 1048582 < 4611686018427387904 → 0 ≤ (mkS fNode l k).2
  | [], k, h0, _, _ => h0
  | e :: r, k, h0, hb, h1 => by
    have hx := hb e List.mem_cons_self
    simp only [List.length_cons] at h1
    have q := fNode_nx e k h0 hx (by omega)
    show 0 ≤ (mkS fNode r (fNode e k).2).2
    rw [q]
    exact mkNode_nn r _ (by omega) (fun e he => hb e (List.mem_cons_of_mem _ he)) (by omega)
theorem mkNode_cells {B : Nat} : ∀ (l : List NodeV) (k : Int), (∀ e ∈ l, e.cells.length ≤ B) → ∀ e ∈ (mkS fNode l k).1, e.cells.length ≤ B
  | [], k, _, e, h => by simp [mkS] at h
  | x :: r, k, hl, e, h => by
    rw [mkS] at h
    rcases List.mem_cons.1 h with rfl | h
    · show (mkS fI64 x.cells _).1.length ≤ B
      rw [mkS_len]
      exact hl _ List.mem_cons_self
    · exact mkNode_cells r _ (fun e he => hl e (List.mem_cons_of_mem _ he)) e h
theorem hd_mkNode : ∀ (l : List NodeV) (k : Int), 0 ≤ k → (∀ e ∈ l, e.cells.length ≤ 1048576) → k + l.length * 1048582 < 4611686018427387904 → hdS hNode (mkS fNode l k).1 k = (mkS fNode l k).2
  | [], k, h0, _, _ => rfl
  | e :: r, k, h0, hl, h1 => by
    have hx := hl e List.mem_cons_self
    simp only [List.length_cons] at h1
    have e3 := fNode_nx e k h0 hx (by omega)
    have ih := hd_mkNode r (fNode e k).2 (by omega) (fun e he => hl e (List.mem_cons_of_mem _ he)) (by omega)
    have e1 : (mkS fNode (e :: r) k).1 = (fNode e k).1 :: (mkS fNode r (fNode e k).2).1 := rfl
    have e2 : (mkS fNode (e :: r) k).2 = (mkS fNode r (fNode e k).2).2 := rfl
    have e4 : hNode (fNode e k).1 k = some (fNode e k).2 := by
      unfold hNode
      have e5 : hdS hI64 (mkS fI64 e.cells (nx1 (nx1 (nx1 (nx1 (nx1 (nx1 k))))))).1 (nx1 (nx1 (nx1 (nx1 (nx1 (nx1 k)))))) = (fNode e k).2 := hd_mkI64 _ _
      show (if k = k then if nx1 k = nx1 k then if nx1 (nx1 k) = nx1 (nx1 k) then if nx1 (nx1 (nx1 k)) = nx1 (nx1 (nx1 k)) then if nx1 (nx1 (nx1 (nx1 k))) = nx1 (nx1 (nx1 (nx1 k))) then if nx1 (nx1 (nx1 (nx1 (nx1 k)))) = nx1 (nx1 (nx1 (nx1 (nx1 k)))) then if hdS hI64 (mkS fI64 e.cells (nx1 (nx1 (nx1 (nx1 (nx1 (nx1 k))))))).1 (nx1 (nx1 (nx1 (nx1 (nx1 (nx1 k)))))) < 0 then none else some _ else none else none else none else none else none else none) = _
      rw [if_pos rfl, if_pos rfl, if_pos rfl, if_pos rfl, if_pos rfl, if_pos rfl, e5, if_neg (by omega)]
      exact congrArg some e5
    rw [e1, e2, hdS, e4]
    exact ih
theorem tN_own (l : List NodeV) : mapE tNode.own l = mapE tNode_own l := rfl

end Go.Proofs.Try
