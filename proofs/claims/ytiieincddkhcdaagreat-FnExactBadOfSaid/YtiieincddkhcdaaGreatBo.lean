/- Contracts. -/
import Derived.Test.YtiieincddkhcdaaGreatBm
import Derived.Test.YtiieincddkhcdaaGreatBl
set_option linter.unusedSimpArgs false
set_option linter.unusedVariables false
namespace Go.Proofs.Tryz
open Go Go.Aix
set_option maxRecDepth 100000
set_option maxHeartbeats 4000000
theorem hd_mk {V : Type} {f : V → Int → V × Int} {h : V → Int → Option Int} (hf : ∀ e k, h (f e k).1 k = some (f e k).2) : ∀ (l : List V) (k : Int), hdS h (mkS f l k).1 k = (mkS f l k).2
  | [], k => rfl
  | e :: r, k => by
    rw [mkS]
    dsimp only
    rw [hdS, hf]
    exact hd_mk hf r _
theorem hd_mkI64 (l : List Int) (k : Int) : hdS hI64 (mkS fI64 l k).1 k = (mkS fI64 l k).2 := hd_mk (fun e k => by simp [hI64, fI64]) l k
theorem nx1_id {k : Int} (h : 0 ≤ k) (h2 : k < 9223372036854775807) : nx1 k = k + 1 := by unfold nx1; rw [IntKind.wrap_i64]; omega
theorem mkI_n : ∀ (l : List Int) (k : Int), 0 ≤ k → k + l.length < 9223372036854775807 → (mkS fI64 l k).2 = k + l.length
  | [], k, _, _ => by simp [mkS]
  | e :: r, k, h0, h1 => by
    rw [mkS]
    dsimp only
    simp only [List.length_cons] at h1
    rw [show (fI64 e k).2 = k + 1 from nx1_id h0 (by omega), mkI_n r (k + 1) (by omega) (by omega), List.length_cons]
    omega
theorem mkS_bd {V : Type} {f : V → Int → V × Int} {s : V → Int → Int} {B : V → Prop} (hf : ∀ e k m, B e → 0 ≤ k → 0 ≤ m → m ≤ 1048576 → k + 8 + 8 * m < 1125899906842624 → 0 ≤ s e m → s e m ≤ m ∧ k ≤ (f e k).2 ∧ (f e k).2 ≤ k + 8 + 8 * (m - s e m)) : ∀ (l : List V) (k m : Int), (∀ e ∈ l, B e) → 0 ≤ k → 0 ≤ m → m ≤ 1048576 → k + 8 * (l.length : Int) + 8 * m < 1125899906842624 → 0 ≤ szS s l m → szS s l m ≤ m ∧ k ≤ (mkS f l k).2 ∧ (mkS f l k).2 ≤ k + 8 * (l.length : Int) + 8 * (m - szS s l m)
  | [], k, m, _, _, _, _, _, _ => by simp [szS, mkS]
  | e :: r, k, m, hb, h0, h1, h2, h3, h => by
    unfold szS at h ⊢
    rw [mkS]
    dsimp only
    simp only [List.length_cons] at h3 ⊢
    by_cases q : s e m < 0
    · rw [if_pos q] at h; omega
    · rw [if_neg q] at h ⊢
      obtain ⟨a1, a2, a3⟩ := hf e k m (hb e List.mem_cons_self) h0 h1 h2 (by omega) (by omega)
      obtain ⟨b1, b2, b3⟩ := mkS_bd hf r (f e k).2 (s e m) (fun x hx => hb x (List.mem_cons_of_mem _ hx)) (by omega) (by omega) (by omega) (by omega) h
      omega
theorem mkA_bd {V : Type} {f : V → Int → V × Int} {s : V → Int → Int} {B : V → Prop} (hf : ∀ e k m, B e → 0 ≤ k → 0 ≤ m → m ≤ 1048576 → k + 8 + 8 * m < 1125899906842624 → 0 ≤ s e m → s e m ≤ m ∧ k ≤ (f e k).2 ∧ (f e k).2 ≤ k + 8 + 8 * (m - s e m)) {l : List V} {k m : Int} (hl : l.length ≤ 9223372036854775807) (hb : ∀ e ∈ l, B e) (h0 : 0 ≤ k) (h1 : 0 ≤ m) (h2 : m ≤ 1048576) (h3 : k + 8 * m < 1125899906842624) (h : 0 ≤ szA s l m) : szA s l m ≤ m ∧ k ≤ (mkS f l k).2 ∧ (mkS f l k).2 ≤ k + 8 * (m - szA s l m) := by
  unfold szA at h ⊢
  by_cases hn : IntKind.i64.wrap (m - l.length) < 0
  · rw [if_pos hn] at h; omega
  · rw [if_neg hn] at h ⊢
    have q : IntKind.i64.wrap (m - l.length) = m - l.length := by rw [IntKind.wrap_i64]; omega
    rw [q] at h hn ⊢
    obtain ⟨b1, b2, b3⟩ := mkS_bd hf l k (m - l.length) hb h0 (by omega) (by omega) (by omega) h
    omega
theorem mkCount_bd : ∀ (l : List CountV) (k : Int), 0 ≤ k → k + 8 * (l.length : Int) < 1125899906842624 → k ≤ (mkS fCount l k).2 ∧ (mkS fCount l k).2 ≤ k + 8 * (l.length : Int)
  | [], k, _, _ => by simp [mkS]
  | e :: r, k, h0, h => by
    rw [mkS]
    dsimp only
    simp only [List.length_cons] at h ⊢
    have e1 : (fCount e k).2 = k + 3 := by
      show nx1 (nx1 (nx1 k)) = _
      rw [nx1_id (k := k) (by omega) (by omega), nx1_id (k := k + 1) (by omega) (by omega), nx1_id (k := k + 1 + 1) (by omega) (by omega)]; omega
    rw [e1]
    have := mkCount_bd r (k + 3) (by omega) (by omega)
    omega
theorem szL_v {n : Nat} {m : Int} (hn : n ≤ 9223372036854775807) (h0 : 0 ≤ m) (h1 : m ≤ 1048576) (h : 0 ≤ szL n m) : szL n m = m - n := by
  unfold szL at h ⊢
  rw [IntKind.wrap_i64] at *
  split at h
  · omega
  · rename_i hh
    rw [if_neg hh]
    omega
theorem fEntry_bd (e : EntryV) (k m : Int) (hz : zEntry e = true) (h0 : 0 ≤ k) (h1 : 0 ≤ m) (h2 : m ≤ 1048576) (h3 : k + 8 + 8 * m < 1125899906842624) (h : 0 ≤ szEntryf e m) : szEntryf e m ≤ m ∧ k ≤ (fEntry e k).2 ∧ (fEntry e k).2 ≤ k + 8 + 8 * (m - szEntryf e m) := by
  have x0 := zEntry_p hz
  show szEntryf e m ≤ m ∧ k ≤ (nx1 (mkS fI64 e.row k).2) ∧ (nx1 (mkS fI64 e.row k).2) ≤ k + 8 + 8 * (m - szEntryf e m)
  unfold szEntryf at h ⊢
  by_cases q0 : szL e.row.length m < 0
  · rw [if_pos q0] at h; omega
  rw [if_neg q0] at h ⊢
  have b0 := szL_v (zI_len x0) (by omega) (by omega) (Int.not_lt.1 q0)
  have u0 : (mkS fI64 e.row k).2 = k + e.row.length := mkI_n _ _ (by omega) (by omega)
  generalize (mkS fI64 e.row k).2 = k0 at u0 ⊢
  generalize szL e.row.length m = m0 at *
  have a0 : nx1 k0 = k0 + 1 := nx1_id (by omega) (by omega)
  rw [a0]
  omega
theorem fEntryS_bd {l : List EntryV} {k m : Int} (hz : zEntryS l = true) (h0 : 0 ≤ k) (h1 : 0 ≤ m) (h2 : m ≤ 1048576) (h3 : k + 8 * m < 1125899906842624) (h : 0 ≤ szA szEntryf l m) : szA szEntryf l m ≤ m ∧ k ≤ (mkS fEntry l k).2 ∧ (mkS fEntry l k).2 ≤ k + 8 * (m - szA szEntryf l m) := by
  have hz2 := hz
  unfold zEntryS at hz2
  simp only [Bool.and_eq_true, List.all_eq_true] at hz2
  exact mkA_bd (B := fun e => zEntry e = true) fEntry_bd (zEntryS_len hz) hz2.2 h0 h1 h2 h3 h
theorem fNode_bd (e : NodeV) (k m : Int) (hz : zNode e = true) (h0 : 0 ≤ k) (h1 : 0 ≤ m) (h2 : m ≤ 1048576) (h3 : k + 8 + 8 * m < 1125899906842624) (h : 0 ≤ szNodef e m) : szNodef e m ≤ m ∧ k ≤ (fNode e k).2 ∧ (fNode e k).2 ≤ k + 8 + 8 * (m - szNodef e m) := by
  have x0 := zNode_p hz
  show szNodef e m ≤ m ∧ k ≤ (mkS fI64 e.cells (nx1 (nx1 (nx1 (nx1 (nx1 (nx1 k))))))).2 ∧ (mkS fI64 e.cells (nx1 (nx1 (nx1 (nx1 (nx1 (nx1 k))))))).2 ≤ k + 8 + 8 * (m - szNodef e m)
  unfold szNodef at h ⊢
  have a0 : nx1 k = k + 1 := nx1_id (by omega) (by omega)
  rw [a0]
  have a1 : nx1 (k + 1) = k + 1 + 1 := nx1_id (by omega) (by omega)
  rw [a1]
  have a2 : nx1 (k + 1 + 1) = k + 1 + 1 + 1 := nx1_id (by omega) (by omega)
  rw [a2]
  have a3 : nx1 (k + 1 + 1 + 1) = k + 1 + 1 + 1 + 1 := nx1_id (by omega) (by omega)
  rw [a3]
  have a4 : nx1 (k + 1 + 1 + 1 + 1) = k + 1 + 1 + 1 + 1 + 1 := nx1_id (by omega) (by omega)
  rw [a4]
  have a5 : nx1 (k + 1 + 1 + 1 + 1 + 1) = k + 1 + 1 + 1 + 1 + 1 + 1 := nx1_id (by omega) (by omega)
  rw [a5]
  by_cases q0 : szL e.cells.length m < 0
  · rw [if_pos q0] at h; omega
  rw [if_neg q0] at h ⊢
  have b0 := szL_v (zI_len x0) (by omega) (by omega) (Int.not_lt.1 q0)
  have u0 : (mkS fI64 e.cells (k + 1 + 1 + 1 + 1 + 1 + 1)).2 = k + 1 + 1 + 1 + 1 + 1 + 1 + e.cells.length := mkI_n _ _ (by omega) (by omega)
  generalize (mkS fI64 e.cells (k + 1 + 1 + 1 + 1 + 1 + 1)).2 = k0 at u0 ⊢
  generalize szL e.cells.length m = m0 at *
  omega
theorem fNodeS_bd {l : List NodeV} {k m : Int} (hz : zNodeS l = true) (h0 : 0 ≤ k) (h1 : 0 ≤ m) (h2 : m ≤ 1048576) (h3 : k + 8 * m < 1125899906842624) (h : 0 ≤ szA szNodef l m) : szA szNodef l m ≤ m ∧ k ≤ (mkS fNode l k).2 ∧ (mkS fNode l k).2 ≤ k + 8 * (m - szA szNodef l m) := by
  have hz2 := hz
  unfold zNodeS at hz2
  simp only [Bool.and_eq_true, List.all_eq_true] at hz2
  exact mkA_bd (B := fun e => zNode e = true) fNode_bd (zNodeS_len hz) hz2.2 h0 h1 h2 h3 h
theorem fBatch_bd (e : BatchV) (k m : Int) (hz : zBatch e = true) (h0 : 0 ≤ k) (h1 : 0 ≤ m) (h2 : m ≤ 1048576) (h3 : k + 8 + 8 * m < 1125899906842624) (h : 0 ≤ szBatchf e m) : szBatchf e m ≤ m ∧ k ≤ (fBatch e k).2 ∧ (fBatch e k).2 ≤ k + 8 + 8 * (m - szBatchf e m) := by
  have x0 := zBatch_p hz
  show szBatchf e m ≤ m ∧ k ≤ (mkS fEntry e.set (nx1 (nx1 k))).2 ∧ (mkS fEntry e.set (nx1 (nx1 k))).2 ≤ k + 8 + 8 * (m - szBatchf e m)
  unfold szBatchf at h ⊢
  have a0 : nx1 k = k + 1 := nx1_id (by omega) (by omega)
  rw [a0]
  have a1 : nx1 (k + 1) = k + 1 + 1 := nx1_id (by omega) (by omega)
  rw [a1]
  by_cases q0 : szA szEntryf e.set m < 0
  · rw [if_pos q0] at h; omega
  rw [if_neg q0] at h ⊢
  obtain ⟨b0, u0⟩ := fEntryS_bd x0 (k := k + 1 + 1) (by omega) (by omega) (by omega) (by omega) (Int.not_lt.1 q0)
  generalize (mkS fEntry e.set (k + 1 + 1)).2 = k0 at u0 ⊢
  generalize szA szEntryf e.set m = m0 at *
  omega
theorem fBatchS_bd {l : List BatchV} {k m : Int} (hz : zBatchS l = true) (h0 : 0 ≤ k) (h1 : 0 ≤ m) (h2 : m ≤ 1048576) (h3 : k + 8 * m < 1125899906842624) (h : 0 ≤ szA szBatchf l m) : szA szBatchf l m ≤ m ∧ k ≤ (mkS fBatch l k).2 ∧ (mkS fBatch l k).2 ≤ k + 8 * (m - szA szBatchf l m) := by
  have hz2 := hz
  unfold zBatchS at hz2
  simp only [Bool.and_eq_true, List.all_eq_true] at hz2
  exact mkA_bd (B := fun e => zBatch e = true) fBatch_bd (zBatchS_len hz) hz2.2 h0 h1 h2 h3 h
theorem fFrame_bd (e : FrameV) (k m : Int) (hz : zFrame e = true) (h0 : 0 ≤ k) (h1 : 0 ≤ m) (h2 : m ≤ 1048576) (h3 : k + 8 + 8 * m < 1125899906842624) (h : 0 ≤ szFramef e m) : szFramef e m ≤ m ∧ k ≤ (fFrame e k).2 ∧ (fFrame e k).2 ≤ k + 8 + 8 * (m - szFramef e m) := by
  obtain ⟨x0, x1⟩ := zFrame_p hz
  show szFramef e m ≤ m ∧ k ≤ (mkS fCount e.news (mkS fEntry e.set (nx1 (nx1 (nx1 (nx1 k))))).2).2 ∧ (mkS fCount e.news (mkS fEntry e.set (nx1 (nx1 (nx1 (nx1 k))))).2).2 ≤ k + 8 + 8 * (m - szFramef e m)
  unfold szFramef at h ⊢
  have a0 : nx1 k = k + 1 := nx1_id (by omega) (by omega)
  rw [a0]
  have a1 : nx1 (k + 1) = k + 1 + 1 := nx1_id (by omega) (by omega)
  rw [a1]
  have a2 : nx1 (k + 1 + 1) = k + 1 + 1 + 1 := nx1_id (by omega) (by omega)
  rw [a2]
  have a3 : nx1 (k + 1 + 1 + 1) = k + 1 + 1 + 1 + 1 := nx1_id (by omega) (by omega)
  rw [a3]
  by_cases q0 : szA szEntryf e.set m < 0
  · rw [if_pos q0] at h; omega
  rw [if_neg q0] at h ⊢
  obtain ⟨b0, u0⟩ := fEntryS_bd x0 (k := k + 1 + 1 + 1 + 1) (by omega) (by omega) (by omega) (by omega) (Int.not_lt.1 q0)
  generalize (mkS fEntry e.set (k + 1 + 1 + 1 + 1)).2 = k0 at u0 ⊢
  generalize szA szEntryf e.set m = m0 at *
  by_cases q1 : szL e.news.length m0 < 0
  · rw [if_pos q1] at h; omega
  rw [if_neg q1] at h ⊢
  have b1 := szL_v (zCountS_len x1) (by omega) (by omega) (Int.not_lt.1 q1)
  have u1 := mkCount_bd e.news k0 (by omega) (by omega)
  generalize (mkS fCount e.news k0).2 = k1 at u1 ⊢
  generalize szL e.news.length m0 = m1 at *
  omega
theorem fFrameS_bd {l : List FrameV} {k m : Int} (hz : zFrameS l = true) (h0 : 0 ≤ k) (h1 : 0 ≤ m) (h2 : m ≤ 1048576) (h3 : k + 8 * m < 1125899906842624) (h : 0 ≤ szA szFramef l m) : szA szFramef l m ≤ m ∧ k ≤ (mkS fFrame l k).2 ∧ (mkS fFrame l k).2 ≤ k + 8 * (m - szA szFramef l m) := by
  have hz2 := hz
  unfold zFrameS at hz2
  simp only [Bool.and_eq_true, List.all_eq_true] at hz2
  exact mkA_bd (B := fun e => zFrame e = true) fFrame_bd (zFrameS_len hz) hz2.2 h0 h1 h2 h3 h
theorem fHeld_bd (e : HeldV) (k m : Int) (hz : zHeld e = true) (h0 : 0 ≤ k) (h1 : 0 ≤ m) (h2 : m ≤ 1048576) (h3 : k + 8 + 8 * m < 1125899906842624) (h : 0 ≤ szHeldf e m) : szHeldf e m ≤ m ∧ k ≤ (fHeld e k).2 ∧ (fHeld e k).2 ≤ k + 8 + 8 * (m - szHeldf e m) := by
  obtain ⟨x0, x1, x2⟩ := zHeld_p hz
  show szHeldf e m ≤ m ∧ k ≤ (nx1 (mkS fBatch e.waits (mkS fEntry e.oldB (mkS fEntry e.oldA k).2).2).2) ∧ (nx1 (mkS fBatch e.waits (mkS fEntry e.oldB (mkS fEntry e.oldA k).2).2).2) ≤ k + 8 + 8 * (m - szHeldf e m)
  unfold szHeldf at h ⊢
  by_cases q0 : szA szEntryf e.oldA m < 0
  · rw [if_pos q0] at h; omega
  rw [if_neg q0] at h ⊢
  obtain ⟨b0, u0⟩ := fEntryS_bd x0 (k := k) (by omega) (by omega) (by omega) (by omega) (Int.not_lt.1 q0)
  generalize (mkS fEntry e.oldA k).2 = k0 at u0 ⊢
  generalize szA szEntryf e.oldA m = m0 at *
  by_cases q1 : szA szEntryf e.oldB m0 < 0
  · rw [if_pos q1] at h; omega
  rw [if_neg q1] at h ⊢
  obtain ⟨b1, u1⟩ := fEntryS_bd x1 (k := k0) (by omega) (by omega) (by omega) (by omega) (Int.not_lt.1 q1)
  generalize (mkS fEntry e.oldB k0).2 = k1 at u1 ⊢
  generalize szA szEntryf e.oldB m0 = m1 at *
  by_cases q2 : szA szBatchf e.waits m1 < 0
  · rw [if_pos q2] at h; omega
  rw [if_neg q2] at h ⊢
  obtain ⟨b2, u2⟩ := fBatchS_bd x2 (k := k1) (by omega) (by omega) (by omega) (by omega) (Int.not_lt.1 q2)
  generalize (mkS fBatch e.waits k1).2 = k2 at u2 ⊢
  generalize szA szBatchf e.waits m1 = m2 at *
  have a0 : nx1 k2 = k2 + 1 := nx1_id (by omega) (by omega)
  rw [a0]
  omega
theorem fHeldS_bd {l : List HeldV} {k m : Int} (hz : zHeldS l = true) (h0 : 0 ≤ k) (h1 : 0 ≤ m) (h2 : m ≤ 1048576) (h3 : k + 8 * m < 1125899906842624) (h : 0 ≤ szA szHeldf l m) : szA szHeldf l m ≤ m ∧ k ≤ (mkS fHeld l k).2 ∧ (mkS fHeld l k).2 ≤ k + 8 * (m - szA szHeldf l m) := by
  have hz2 := hz
  unfold zHeldS at hz2
  simp only [Bool.and_eq_true, List.all_eq_true] at hz2
  exact mkA_bd (B := fun e => zHeld e = true) fHeld_bd (zHeldS_len hz) hz2.2 h0 h1 h2 h3 h
theorem fRelease_bd (e : ReleaseV) (k m : Int) (hz : zRelease e = true) (h0 : 0 ≤ k) (h1 : 0 ≤ m) (h2 : m ≤ 1048576) (h3 : k + 8 + 8 * m < 1125899906842624) (h : 0 ≤ szReleasef e m) : szReleasef e m ≤ m ∧ k ≤ (fRelease e k).2 ∧ (fRelease e k).2 ≤ k + 8 + 8 * (m - szReleasef e m) := by
  have x0 := zRelease_p hz
  show szReleasef e m ≤ m ∧ k ≤ (mkS fEntry e.set (nx1 (nx1 k))).2 ∧ (mkS fEntry e.set (nx1 (nx1 k))).2 ≤ k + 8 + 8 * (m - szReleasef e m)
  unfold szReleasef at h ⊢
  have a0 : nx1 k = k + 1 := nx1_id (by omega) (by omega)
  rw [a0]
  have a1 : nx1 (k + 1) = k + 1 + 1 := nx1_id (by omega) (by omega)
  rw [a1]
  by_cases q0 : szA szEntryf e.set m < 0
  · rw [if_pos q0] at h; omega
  rw [if_neg q0] at h ⊢
  obtain ⟨b0, u0⟩ := fEntryS_bd x0 (k := k + 1 + 1) (by omega) (by omega) (by omega) (by omega) (Int.not_lt.1 q0)
  generalize (mkS fEntry e.set (k + 1 + 1)).2 = k0 at u0 ⊢
  generalize szA szEntryf e.set m = m0 at *
  omega
theorem fReleaseS_bd {l : List ReleaseV} {k m : Int} (hz : zReleaseS l = true) (h0 : 0 ≤ k) (h1 : 0 ≤ m) (h2 : m ≤ 1048576) (h3 : k + 8 * m < 1125899906842624) (h : 0 ≤ szA szReleasef l m) : szA szReleasef l m ≤ m ∧ k ≤ (mkS fRelease l k).2 ∧ (mkS fRelease l k).2 ≤ k + 8 * (m - szA szReleasef l m) := by
  have hz2 := hz
  unfold zReleaseS at hz2
  simp only [Bool.and_eq_true, List.all_eq_true] at hz2
  exact mkA_bd (B := fun e => zRelease e = true) fRelease_bd (zReleaseS_len hz) hz2.2 h0 h1 h2 h3 h
theorem fWorker_bd (e : WorkerV) (k m : Int) (hz : zWorker e = true) (h0 : 0 ≤ k) (h1 : 0 ≤ m) (h2 : m ≤ 1048576) (h3 : k + 8 + 8 * m < 1125899906842624) (h : 0 ≤ szWorkerf e m) : szWorkerf e m ≤ m ∧ k ≤ (fWorker e k).2 ∧ (fWorker e k).2 ≤ k + 8 + 8 * (m - szWorkerf e m) := by
  obtain ⟨x0, x1, x2, x3⟩ := zWorker_p hz
  show szWorkerf e m ≤ m ∧ k ≤ (nx1 (mkS fRelease e.outs (nx1 (nx1 (mkS fHeld e.nodes (mkS fCount e.counts (mkS fFrame e.inbox k).2).2).2))).2) ∧ (nx1 (mkS fRelease e.outs (nx1 (nx1 (mkS fHeld e.nodes (mkS fCount e.counts (mkS fFrame e.inbox k).2).2).2))).2) ≤ k + 8 + 8 * (m - szWorkerf e m)
  unfold szWorkerf at h ⊢
  by_cases q0 : szA szFramef e.inbox m < 0
  · rw [if_pos q0] at h; omega
  rw [if_neg q0] at h ⊢
  obtain ⟨b0, u0⟩ := fFrameS_bd x0 (k := k) (by omega) (by omega) (by omega) (by omega) (Int.not_lt.1 q0)
  generalize (mkS fFrame e.inbox k).2 = k0 at u0 ⊢
  generalize szA szFramef e.inbox m = m0 at *
  by_cases q1 : szL e.counts.length m0 < 0
  · rw [if_pos q1] at h; omega
  rw [if_neg q1] at h ⊢
  have b1 := szL_v (zCountS_len x1) (by omega) (by omega) (Int.not_lt.1 q1)
  have u1 := mkCount_bd e.counts k0 (by omega) (by omega)
  generalize (mkS fCount e.counts k0).2 = k1 at u1 ⊢
  generalize szL e.counts.length m0 = m1 at *
  by_cases q2 : szA szHeldf e.nodes m1 < 0
  · rw [if_pos q2] at h; omega
  rw [if_neg q2] at h ⊢
  obtain ⟨b2, u2⟩ := fHeldS_bd x2 (k := k1) (by omega) (by omega) (by omega) (by omega) (Int.not_lt.1 q2)
  generalize (mkS fHeld e.nodes k1).2 = k2 at u2 ⊢
  generalize szA szHeldf e.nodes m1 = m2 at *
  have a0 : nx1 k2 = k2 + 1 := nx1_id (by omega) (by omega)
  rw [a0]
  have a1 : nx1 (k2 + 1) = k2 + 1 + 1 := nx1_id (by omega) (by omega)
  rw [a1]
  by_cases q3 : szA szReleasef e.outs m2 < 0
  · rw [if_pos q3] at h; omega
  rw [if_neg q3] at h ⊢
  obtain ⟨b3, u3⟩ := fReleaseS_bd x3 (k := k2 + 1 + 1) (by omega) (by omega) (by omega) (by omega) (Int.not_lt.1 q3)
  generalize (mkS fRelease e.outs (k2 + 1 + 1)).2 = k3 at u3 ⊢
  generalize szA szReleasef e.outs m2 = m3 at *
  have a2 : nx1 k3 = k3 + 1 := nx1_id (by omega) (by omega)
  rw [a2]
  omega
theorem fWorkerS_bd {l : List WorkerV} {k m : Int} (hz : zWorkerS l = true) (h0 : 0 ≤ k) (h1 : 0 ≤ m) (h2 : m ≤ 1048576) (h3 : k + 8 * m < 1125899906842624) (h : 0 ≤ szA szWorkerf l m) : szA szWorkerf l m ≤ m ∧ k ≤ (mkS fWorker l k).2 ∧ (mkS fWorker l k).2 ≤ k + 8 * (m - szA szWorkerf l m) := by
  have hz2 := hz
  unfold zWorkerS at hz2
  simp only [Bool.and_eq_true, List.all_eq_true] at hz2
  exact mkA_bd (B := fun e => zWorker e = true) fWorker_bd (zWorkerS_len hz) hz2.2 h0 h1 h2 h3 h
theorem fLink_bd (e : LinkV) (k m : Int) (hz : zLink e = true) (h0 : 0 ≤ k) (h1 : 0 ≤ m) (h2 : m ≤ 1048576) (h3 : k + 8 + 8 * m < 1125899906842624) (h : 0 ≤ szLinkf e m) : szLinkf e m ≤ m ∧ k ≤ (fLink e k).2 ∧ (fLink e k).2 ≤ k + 8 + 8 * (m - szLinkf e m) := by
  have x0 := zLink_p hz
  show szLinkf e m ≤ m ∧ k ≤ (mkS fFrame e.frames k).2 ∧ (mkS fFrame e.frames k).2 ≤ k + 8 + 8 * (m - szLinkf e m)
  unfold szLinkf at h ⊢
  by_cases q0 : szA szFramef e.frames m < 0
  · rw [if_pos q0] at h; omega
  rw [if_neg q0] at h ⊢
  obtain ⟨b0, u0⟩ := fFrameS_bd x0 (k := k) (by omega) (by omega) (by omega) (by omega) (Int.not_lt.1 q0)
  generalize (mkS fFrame e.frames k).2 = k0 at u0 ⊢
  generalize szA szFramef e.frames m = m0 at *
  omega
theorem fLinkS_bd {l : List LinkV} {k m : Int} (hz : zLinkS l = true) (h0 : 0 ≤ k) (h1 : 0 ≤ m) (h2 : m ≤ 1048576) (h3 : k + 8 * m < 1125899906842624) (h : 0 ≤ szA szLinkf l m) : szA szLinkf l m ≤ m ∧ k ≤ (mkS fLink l k).2 ∧ (mkS fLink l k).2 ≤ k + 8 * (m - szA szLinkf l m) := by
  have hz2 := hz
  unfold zLinkS at hz2
  simp only [Bool.and_eq_true, List.all_eq_true] at hz2
  exact mkA_bd (B := fun e => zLink e = true) fLink_bd (zLinkS_len hz) hz2.2 h0 h1 h2 h3 h
end Go.Proofs.Tryz
