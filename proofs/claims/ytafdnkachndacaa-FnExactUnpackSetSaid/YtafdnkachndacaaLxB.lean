/- What the two readings of a set answer is the same. -/
import Derived.Test.YtafdnkachndacaaLxA
import Derived.Test.YtafdnkachndacaaLwV
set_option linter.unusedSimpArgs false
set_option linter.unusedVariables false
namespace Go.Proofs.Try
open Go Go.Aix
set_option linter.unusedSimpArgs false
set_option linter.unusedVariables false
/-- The row's longs, read without a look at their size. -/
def rawU : Nat → List Int → List Int
  | 0, _ => []
  | k + 1, d => lngV (rd8 d) :: rawU k (d.drop 8)
theorem rawU_len : ∀ (k : Nat) (d : List Int), (rawU k d).length = k
  | 0, _ => rfl
  | k + 1, d => by rw [rawU, List.length_cons, rawU_len k]
def rawE (d : List Int) : EntryV := ⟨rawU (nth d 0).toNat (d.drop 1), lngV (rd8 (d.drop (1 + 8 * (nth d 0).toNat)))⟩
/-- The entries, read without a look at them: none where bytes lack. -/
def rawS : Nat → List Int → Option (List EntryV)
  | 0, _ => some []
  | k + 1, d => if d.length = 0 ∨ d.length < enN d then none else (rawS k (d.drop (enN d))).map (rawE d :: ·)
theorem rowV_eq : ∀ (k : Nat) (d : List Int), inB d → 8 * k ≤ d.length → rowV k d false = rawU k d ∧ rowD k d false = (d.drop (8 * k), false)
  | 0, d, _, _ => by simp [rowV, rowD, rawU]
  | k + 1, d, hd, h => by
    have h1 := lngB_eq hd (by omega)
    have ih := rowV_eq k (d.drop 8) (inB_drop hd 8) (by simp; omega)
    rw [rowV, rowD, h1]
    dsimp only
    rw [ih.1, ih.2, List.drop_drop, rawU]
    refine ⟨rfl, ?_⟩
    congr 2
    omega
theorem rowD_short : ∀ (k : Nat) (d : List Int) (s : Bool), inB d → d.length < 8 * k ∨ s = true → (rowD k d s).2 = true
  | 0, d, s, _, h => by rcases h with h | h; exact absurd h (by omega); exact h
  | k + 1, d, true, hd, h => rowD_short k _ _ (lngB_in hd) (.inr (lngB_short (.inr rfl)))
  | k + 1, d, false, hd, h => by
    rw [rowD]
    by_cases h8 : 8 ≤ d.length
    · rw [lngB_eq hd h8]
      exact rowD_short k _ _ (inB_drop hd 8) (.inl (by rcases h with h | h; simp; omega; cases h))
    · exact rowD_short k _ _ (lngB_in hd) (.inr (lngB_short (.inl (by omega))))
theorem eD_eq {d : List Int} (hd : inB d) (h0 : 1 ≤ d.length) (h : enN d ≤ d.length) : eD d false = (lngV (rd8 (d.drop (1 + 8 * (nth d 0).toNat))), d.drop (enN d), false) ∧ eV d false = rawE d := by
  have hr := rowV_eq (nth d 0).toNat (d.drop 1) (inB_drop hd 1) (by unfold enN at h; simp; omega)
  have h1 : eR d false = (d.drop (1 + 8 * (nth d 0).toNat), false) := by
    unfold eR
    rw [nxB_eq h0]
    dsimp only
    rw [hr.2, List.drop_drop]
  have h2 : eD d false = (lngV (rd8 (d.drop (1 + 8 * (nth d 0).toNat))), d.drop (enN d), false) := by
    unfold eD
    rw [h1]
    dsimp only
    rw [lngB_eq (inB_drop hd _) (by unfold enN at h; simp; omega), List.drop_drop]
    congr 3
    unfold enN
    omega
  refine ⟨h2, ?_⟩
  unfold eV rawE
  rw [h2, nxB_eq h0]
  dsimp only
  rw [hr.1]
theorem eD_short {d : List Int} (hd : inB d) (h : d.length = 0 ∨ d.length < enN d) : (eD d false).2.2 = true := by
  unfold eD
  apply lngB_short
  unfold eR
  cases d with
  | nil => exact .inr (rowD_short _ _ _ inB_nil (.inr rfl))
  | cons b r =>
    have e3 : nth (b :: r) 0 = b := rfl
    unfold enN at h
    rw [e3] at h
    simp only [List.length_cons] at h
    show _ ∨ (rowD b.toNat r false).2 = true
    by_cases h8 : 8 * b.toNat ≤ r.length
    · refine .inl ?_
      show (rowD b.toNat r false).1.length < 8
      rw [(rowV_eq b.toNat r (inB_tl hd) h8).2]
      simp
      omega
    · exact .inr (rowD_short _ _ _ (inB_tl hd) (.inl (by omega)))
theorem setO_eq : ∀ (k : Nat) (d : List Int), inB d → setO k d false = rawS k d ∧ (setO k d false ≠ none → setQ k d false = (setW k d, false))
  | 0, d, _ => ⟨rfl, fun _ => rfl⟩
  | k + 1, d, hd => by
    rw [setO, rawS, setQ, setW]
    by_cases h : d.length = 0 ∨ d.length < enN d
    · rw [if_pos (eD_short hd h), if_pos h]
      exact ⟨rfl, fun h => absurd rfl h⟩
    · have he := eD_eq hd (by omega) (by omega)
      have ih := setO_eq k (d.drop (enN d)) (inB_drop hd _)
      rw [if_neg h, he.1, he.2]
      dsimp only
      rw [if_neg (by simp), if_neg (by simp), ih.1]
      refine ⟨rfl, fun hn => ?_⟩
      refine ih.2 (fun hx => hn ?_)
      rw [← ih.1, hx]
      rfl
theorem val_no2 {d : List Int} (h : rdOk d = false) : lngV (rd8 d) < -1000000000000 ∨ 1000000000000 < lngV (rd8 d) := val_no h
def rngE (e : EntryV) : Prop := e.row.length ≤ 4 ∧ (∀ c ∈ e.row, -1000000000 ≤ c ∧ c ≤ 1000000000) ∧ (-1000000000000 ≤ e.weight ∧ e.weight ≤ 1000000000000)
theorem rowLp_ok : ∀ (l : List Int), rowLp l = 0 → ∀ c ∈ l, -1000000000 ≤ c ∧ c ≤ 1000000000
  | [], _, c, h => by simp at h
  | x :: r, h, c, hc => by
    rw [rowLp] at h
    split at h
    · rename_i hx
      rcases List.mem_cons.1 hc with rfl | hc
      · exact hx
      · exact rowLp_ok r h c hc
    · exact absurd h (by decide)
theorem setLp_rng (l : List EntryV) : ∀ (k i : Nat), setLp l k i = 0 → ∀ j, i ≤ j → j < i + k → rngE (nth l j)
  | 0, i, _, j, h1, h2 => by omega
  | k + 1, i, h, j, h1, h2 => by
    rw [setLp] at h
    split at h
    · contradiction
    · rename_i hr
      split at h
      · exact absurd h (by decide)
      · rename_i hw
        split at h
        · exact absurd h (by decide)
        · by_cases hj : j = i
          · subst hj
            have hr : rowFault (nth l j).row = 0 := by simpa using hr
            simp only [not_or, Classical.not_not] at hw
            refine ⟨rowFault_len hr, rowLp_ok _ ?_, hw.1⟩
            unfold rowFault at hr
            split at hr
            · exact absurd hr (by decide)
            · exact hr
          · exact setLp_rng l k (i + 1) h j (by omega) (by omega)
theorem setF_rng {l : List EntryV} (h : setF l = 0) : ∀ e ∈ l, rngE e := by
  intro c hc
  unfold setF at h
  split at h
  · exact absurd h (by decide)
  · obtain ⟨j, hj, rfl⟩ := List.mem_iff_getElem.1 hc
    have := setLp_rng l l.length 0 h j (by omega) (by omega)
    rwa [show nth l j = l[j] by simp [nth, hj]] at this
theorem rowU_eq : ∀ (k : Nat) (d : List Int), rowK k d = true → rowU k d = rawU k d ∧ rdV (d.drop (8 * k)) = lngV (rd8 (d.drop (8 * k)))
  | 0, d, h => ⟨rfl, val_ok h⟩
  | k + 1, d, h => by
    rw [rowK, Bool.and_eq_true] at h
    have ih := rowU_eq k _ h.2
    rw [rowU, rawU, val_ok h.1, ih.1]
    refine ⟨rfl, ?_⟩
    have := ih.2
    rw [List.drop_drop, show 8 + 8 * k = 8 * (k + 1) by omega] at this
    exact this
theorem rowK_raw : ∀ (k : Nat) (d : List Int), (∀ c ∈ rawU k d, -1000000000 ≤ c ∧ c ≤ 1000000000) → (-1000000000000 ≤ lngV (rd8 (d.drop (8 * k))) ∧ lngV (rd8 (d.drop (8 * k))) ≤ 1000000000000) → rowK k d = true
  | 0, d, _, h => by
    rw [rowK]
    cases h1 : rdOk d with
    | true => rfl
    | false =>
      have := val_no h1
      simp only [Nat.mul_zero, List.drop_zero] at h
      omega
  | k + 1, d, hr, hw => by
    rw [rowK]
    have h0 := hr (lngV (rd8 d)) (by rw [rawU]; exact List.mem_cons_self)
    have hk : rowK k (d.drop 8) = true := rowK_raw k _ (fun c hc => hr c (by rw [rawU]; exact List.mem_cons_of_mem _ hc)) (by rw [List.drop_drop, show 8 + 8 * k = 8 * (k + 1) by omega]; exact hw)
    rw [hk]
    cases h1 : rdOk d with
    | true => rfl
    | false =>
      have := val_no h1
      omega
theorem enV_eq {d : List Int} (h : enBad d = false) : enV d = rawE d := by
  unfold enBad at h
  simp only [Bool.or_eq_false_iff, decide_eq_false_iff_not, Bool.not_eq_false'] at h
  have hk := rowU_eq _ _ h.2
  rw [List.drop_drop] at hk
  unfold enV rawE
  rw [hk.1, hk.2]
/-- What the reference reads, the program reads. -/
theorem setU_some : ∀ (k : Nat) (d : List Int), inB d → ∀ {l : List EntryV}, setU k d = some l → rawS k d = some l
  | 0, d, _, l, h => h
  | k + 1, d, hd, l, h => by
    rw [setU] at h
    rw [rawS]
    split at h
    · cases h
    · rename_i hb
      have hb : enBad d = false := by simpa using hb
      obtain ⟨e1, e2, e3⟩ := enV_row hb hd
      have h0 : ¬ d.length = 0 := by
        intro hx
        unfold enBad at hb
        simp [hx] at hb
      rw [if_neg (by omega)]
      cases e : setU k (d.drop (enN d)) with
      | none => rw [e] at h; cases h
      | some r =>
        rw [e] at h
        rw [setU_some k _ (inB_drop hd _) e, ← enV_eq hb]
        exact h
/-- What the program reads, and is in order, the reference reads. -/
theorem setU_raw : ∀ (k : Nat) (d : List Int), inB d → ∀ {l : List EntryV}, rawS k d = some l → (∀ e ∈ l, rngE e) → setU k d = some l
  | 0, d, _, l, h, _ => h
  | k + 1, d, hd, l, h, hr => by
    rw [rawS] at h
    rw [setU]
    split at h
    · cases h
    · rename_i hn
      cases e : rawS k (d.drop (enN d)) with
      | none => rw [e] at h; cases h
      | some r =>
        rw [e] at h
        simp only [Option.map_some, Option.some.injEq] at h
        subst h
        have h0 := hr _ List.mem_cons_self
        have hb : enBad d = false := by
          have hb0 := hd _ (nth_mem (l := d) (i := 0) (by omega))
          have h4 : (nth d 0).toNat ≤ 4 := by
            have := h0.1
            have e : (rawE d).row.length = (nth d 0).toNat := rawU_len _ _
            omega
          have hk := rowK_raw (nth d 0).toNat (d.drop 1) h0.2.1 (by rw [List.drop_drop]; exact h0.2.2)
          unfold enBad
          unfold enN at hn
          simp only [Bool.or_eq_false_iff, decide_eq_false_iff_not, Bool.not_eq_false']
          refine ⟨⟨⟨by omega, by omega⟩, by omega⟩, hk⟩
        rw [if_neg (by simp [hb]), setU_raw k _ (inB_drop hd _) e (fun x hx => hr x (List.mem_cons_of_mem _ hx)), enV_eq hb]
        rfl
theorem E_eq (d : List Int) (hd : inB d) : implE d = specE d := by
  cases d with
  | nil => rfl
  | cons b r =>
    have hr := inB_tl hd
    have e1 : unP (b :: r) false = setO b.toNat r false := rfl
    have e2 : unQ (b :: r) false = setQ b.toNat r false := rfl
    have e3 : unU (b :: r) = setU b.toNat r := rfl
    have e4 : (b :: r).drop 1 = r := rfl
    have e5 : nth (b :: r) 0 = b := rfl
    have hq := setO_eq b.toNat r hr
    unfold implE specE
    rw [e1, e2, e3, e4, e5, hq.1]
    cases hs : rawS b.toNat r with
    | none =>
      cases hu : setU b.toNat r with
      | none => rfl
      | some l =>
        have := setU_some _ _ hr hu
        rw [hs] at this
        cases this
    | some l =>
      have hne : setO b.toNat r false ≠ none := by rw [hq.1, hs]; simp
      rw [hq.2 hne]
      dsimp only
      by_cases hf : setF l = 0
      · rw [setU_raw _ _ hr hs (setF_rng hf)]
        dsimp only
        by_cases hl : (setW b.toNat r).length = 0
        · rw [if_pos ⟨rfl, hl, hf⟩, if_pos ⟨hl, hf⟩]
        · rw [if_neg (fun h => hl h.2.1), if_neg (fun h => hl h.1)]
      · rw [if_neg (fun h => hf h.2.2)]
        cases hu : setU b.toNat r with
        | none => rfl
        | some l' =>
          have := setU_some _ _ hr hu
          rw [hs] at this
          cases this
          dsimp only
          rw [if_neg (fun h => hf h.2)]
end Go.Proofs.Try
