/- What the two readings of counts answer is the same. -/
import Derived.Test.YtafdnkachndacaaLwU
set_option linter.unusedSimpArgs false
set_option linter.unusedVariables false
namespace Go.Proofs.Try
open Go Go.Aix
set_option linter.unusedSimpArgs false
set_option linter.unusedVariables false
theorem orb_eq {n b : Int} (h : 0 ≤ b ∧ b ≤ 255) : orb n b = IntKind.u64.wrap (IntKind.u64.wrap (n * 256) + b) := by
  obtain ⟨m, hm⟩ : ∃ m : Nat, (m : Int) = n % 72057594037927936 := ⟨(n % 72057594037927936).toNat, by omega⟩
  obtain ⟨c, hc⟩ : ∃ c : Nat, (c : Int) = b := ⟨b.toNat, by omega⟩
  have hA : IntKind.u64.wrap (n * 256) = ((m * 256 : Nat) : Int) := by rw [IntKind.wrap_u64]; omega
  have hB : IntKind.u64.wrap b = ((c : Nat) : Int) := by rw [IntKind.wrap_u64]; omega
  unfold orb
  have e8 : real.ar .shl .u64 n 8 = IntKind.u64.wrap (n * 256) := rfl
  rw [e8, hA, hB]
  show IntKind.u64.wrap ((BitVec.ofInt 64 ((m * 256 : Nat) : Int) ||| BitVec.ofInt 64 (c : Int)).toNat : Int) = _
  have h1 : (BitVec.ofInt 64 ((m * 256 : Nat) : Int)).toNat = m * 256 := by
    rw [BitVec.ofInt_natCast, BitVec.toNat_ofNat]
    omega
  have h2 : (BitVec.ofInt 64 (c : Int)).toNat = c := by
    rw [BitVec.ofInt_natCast, BitVec.toNat_ofNat]
    omega
  rw [BitVec.toNat_or, h1, h2]
  have h3 : m * 256 ||| c = m * 256 + c := by
    have := Nat.shiftLeft_add_eq_or_of_lt (b := c) (i := 8) (by omega) m
    rw [Nat.shiftLeft_eq] at this
    exact this.symm
  rw [h3, ← hc]
  simp
theorem lngL_eq : ∀ (k : Nat) (n : Int) (d : List Int), inB d → k ≤ d.length → lngL k n d false = (rdF n (d.take k), d.drop k, false)
  | 0, n, d, _, _ => by simp [lngL, rdF]
  | k + 1, n, [], _, h => by simp at h
  | k + 1, n, b :: d, hd, h => by
    rw [lngL]
    show lngL k (orb n b) d false = _
    rw [lngL_eq k _ d (inB_tl hd) (by simpa using h), orb_eq (inB_hd hd)]
    simp [rdF]
theorem lngL_short : ∀ (k : Nat) (n : Int) (d : List Int) (s : Bool), d.length < k ∨ s = true → (lngL k n d s).2.2 = true
  | 0, n, d, s, h => by rcases h with h | h; exact absurd h (by omega); exact h
  | k + 1, n, [], s, h => lngL_short k _ [] true (.inr rfl)
  | k + 1, n, b :: d, s, h => lngL_short k _ d s (by rcases h with h | h; exact .inl (by simpa using h); exact .inr h)
theorem lngB_eq {d : List Int} (hd : inB d) (h : 8 ≤ d.length) : lngB d false = (lngV (rd8 d), d.drop 8, false) := by
  unfold lngB rd8
  rw [lngL_eq 8 0 d hd h]
theorem lngB_short {d : List Int} {s : Bool} (h : d.length < 8 ∨ s = true) : (lngB d s).2.2 = true := lngL_short 8 0 d s h
def rawC (d : List Int) : CountV := ⟨nth d 0, lngV (rd8 (d.drop 1)), lngV (rd8 (d.drop 9))⟩
def rawL : Nat → List Int → List CountV
  | 0, _ => []
  | k + 1, d => rawC d :: rawL k (d.drop 17)
theorem nxB_eq {d : List Int} (h : 1 ≤ d.length) : nxB d false = (nth d 0, d.drop 1, false) := by
  cases d with
  | nil => simp at h
  | cons b r => rfl
theorem cD_eq {d : List Int} (hd : inB d) (h : 17 ≤ d.length) : cD d false = (lngV (rd8 (d.drop 9)), d.drop 17, false) ∧ cV d false = rawC d := by
  have h1 := lngB_eq (inB_drop hd 1) (d := d.drop 1) (by simp; omega)
  have h2 := lngB_eq (inB_drop hd 9) (d := d.drop 9) (by simp; omega)
  have e1 : (d.drop 1).drop 8 = d.drop 9 := by rw [List.drop_drop]
  have e2 : (d.drop 9).drop 8 = d.drop 17 := by rw [List.drop_drop]
  have h3 : cD d false = (lngV (rd8 (d.drop 9)), d.drop 17, false) := by
    unfold cD
    rw [nxB_eq (by omega)]
    dsimp only
    rw [h1]
    dsimp only
    rw [e1, h2, e2]
  refine ⟨h3, ?_⟩
  unfold cV
  rw [h3, nxB_eq (by omega)]
  dsimp only
  rw [h1]
  rfl
theorem cD_short {d : List Int} (hd : inB d) (h : d.length < 17) : (cD d false).2.2 = true := by
  unfold cD
  apply lngB_short
  by_cases h1 : 1 ≤ d.length
  · rw [nxB_eq h1]
    dsimp only
    by_cases h2 : 9 ≤ d.length
    · rw [lngB_eq (inB_drop hd 1) (by simp; omega)]
      exact .inl (by simp; omega)
    · exact .inr (lngB_short (.inl (by simp; omega)))
  · cases d with
    | nil => exact .inr (lngB_short (.inr rfl))
    | cons b r => simp at h1
theorem newsO_eq : ∀ (k : Nat) (d : List Int), inB d → 17 * k ≤ d.length → newsO k d false = some (rawL k d) ∧ newsR k d false = (d.drop (17 * k), false)
  | 0, d, _, _ => by simp [newsO, newsR, rawL]
  | k + 1, d, hd, h => by
    have hc := cD_eq hd (by omega)
    have ih := newsO_eq k (d.drop 17) (inB_drop hd 17) (by simp; omega)
    rw [newsO, newsR, hc.2, hc.1]
    dsimp only
    rw [if_neg (by simp), if_neg (by simp), ih.1, ih.2, List.drop_drop, rawL]
    refine ⟨rfl, ?_⟩
    congr 2
    omega
theorem newsO_short : ∀ (k : Nat) (d : List Int), inB d → d.length < 17 * k → newsO k d false = none
  | 0, d, _, h => by omega
  | k + 1, d, hd, h => by
    rw [newsO]
    by_cases h1 : d.length < 17
    · rw [if_pos (cD_short hd h1)]
    · have hc := cD_eq hd (by omega)
      rw [hc.1]
      dsimp only
      rw [if_neg (by simp), newsO_short k (d.drop 17) (inB_drop hd 17) (by simp; omega)]
      rfl
theorem rdF_in : ∀ (l : List Int) (n : Int), 0 ≤ n ∧ n < 18446744073709551616 → 0 ≤ rdF n l ∧ rdF n l < 18446744073709551616
  | [], n, h => h
  | b :: r, n, h => by
    rw [rdF]
    refine rdF_in r _ ?_
    rw [IntKind.wrap_u64 (IntKind.u64.wrap (n * 256) + b)]
    omega
theorem rd8_in (d : List Int) : 0 ≤ rd8 d ∧ rd8 d < 18446744073709551616 := rdF_in _ 0 (by decide)
theorem val_ok {d : List Int} (h : rdOk d = true) : rdV d = lngV (rd8 d) := by
  have hr := rd8_in d
  have h : rd8 d ≤ 9223372036854775807 := by simpa [rdOk] using h
  unfold rdV lngV
  rw [if_pos h]
  generalize rd8 d = r at *
  rw [IntKind.wrap_i64, IntKind.wrap_i64, IntKind.wrap_i64, IntKind.wrap_u64]
  omega
theorem val_no {d : List Int} (h : rdOk d = false) : lngV (rd8 d) < -1000000000000 ∨ 1000000000000 < lngV (rd8 d) := by
  have hr := rd8_in d
  have h : 9223372036854775807 < rd8 d := by simpa [rdOk] using h
  unfold lngV
  generalize rd8 d = r at *
  rw [IntKind.wrap_i64, IntKind.wrap_u64]
  omega
theorem newsLp_ok (l : List CountV) : ∀ (k i : Nat), newsLp l k i = 0 → ∀ j, i ≤ j → j < i + k → (0 ≤ (nth l j).epoch ∧ (nth l j).epoch ≤ 1000) ∧ (-1000000000000 ≤ (nth l j).n ∧ (nth l j).n ≤ 1000000000000)
  | 0, i, _, j, h1, h2 => by omega
  | k + 1, i, h, j, h1, h2 => by
    rw [newsLp] at h
    split at h
    · exact absurd h (by decide)
    · rename_i hn
      split at h
      · exact absurd h (by decide)
      · by_cases hj : j = i
        · subst hj
          simp only [not_or, Classical.not_not] at hn
          exact ⟨hn.2.1, hn.2.2.1⟩
        · exact newsLp_ok l k (i + 1) h j (by omega) (by omega)
def rngC (c : CountV) : Prop := (0 ≤ c.epoch ∧ c.epoch ≤ 1000) ∧ (-1000000000000 ≤ c.n ∧ c.n ≤ 1000000000000)
theorem newsF_ok {l : List CountV} (h : newsF l = 0) : ∀ c ∈ l, rngC c := by
  intro c hc
  unfold newsF at h
  split at h
  · exact absurd h (by decide)
  · obtain ⟨j, hj, rfl⟩ := List.mem_iff_getElem.1 hc
    have := newsLp_ok l l.length 0 h j (by omega) (by omega)
    rwa [show nth l j = l[j] by simp [nth, hj]] at this
theorem rdC_eq {d : List Int} (h : rdCok d = true) : rdC d = rawC d := by
  simp only [rdCok, Bool.and_eq_true] at h
  unfold rdC rawC
  rw [val_ok h.1, val_ok h.2]
theorem unL_raw : ∀ (k : Nat) (d : List Int), (∀ c ∈ rawL k d, rngC c) → unL k d = some (rawL k d)
  | 0, d, _ => rfl
  | k + 1, d, h => by
    have h0 : rngC (rawC d) := h _ (by rw [rawL]; exact List.mem_cons_self)
    have hk : rdCok d = true := by
      unfold rdCok
      cases h1 : rdOk (d.drop 1) with
      | false =>
        have := val_no h1
        have h2 := h0.1
        simp only [rawC] at h2
        omega
      | true =>
        cases h2 : rdOk (d.drop 9) with
        | false =>
          have := val_no h2
          have h3 := h0.2
          simp only [rawC] at h3
          omega
        | true => rfl
    rw [unL, if_pos hk, unL_raw k _ (fun c hc => h c (by rw [rawL]; exact List.mem_cons_of_mem _ hc)), rdC_eq hk]
    rfl
theorem unL_some : ∀ (k : Nat) (d : List Int) {l : List CountV}, unL k d = some l → l = rawL k d
  | 0, d, l, h => by simp [unL] at h; subst h; rfl
  | k + 1, d, l, h => by
    rw [unL] at h
    split at h
    · rename_i hk
      cases e : unL k (d.drop 17) with
      | none => rw [e] at h; cases h
      | some r =>
        rw [e] at h
        simp only [Option.map_some, Option.some.injEq] at h
        rw [← h, rawL, unL_some k _ e, rdC_eq hk]
    · cases h
theorem O_eq (d : List Int) (hd : inB d) : implO d = specO d := by
  cases d with
  | nil => rfl
  | cons b r =>
    have hb := inB_hd hd
    have hr := inB_tl hd
    have e1 : unO (b :: r) false = newsO b.toNat r false := rfl
    have e2 : unR (b :: r) false = newsR b.toNat r false := rfl
    have e3 : nth (b :: r) 0 = b := rfl
    have e4 : (b :: r).drop 1 = r := rfl
    unfold implO specO unS
    rw [e1, e2, e3, e4]
    by_cases h1 : r.length < 17 * b.toNat
    · rw [newsO_short _ _ hr h1, if_pos (by right; simp only [List.length_cons]; omega)]
    · have hq := newsO_eq b.toNat r hr (by omega)
      rw [hq.1, hq.2]
      dsimp only
      by_cases h2 : r.length = 17 * b.toNat
      · rw [if_neg (c := (b :: r).length = 0 ∨ _) (by simp only [List.length_cons]; omega)]
        have h3 : (r.drop (17 * b.toNat)).length = 0 := by simp; omega
        by_cases hf : newsF (rawL b.toNat r) = 0
        · rw [if_pos ⟨rfl, h3, hf⟩, unL_raw _ _ (newsF_ok hf)]
          dsimp only
          rw [if_pos hf]
        · rw [if_neg (fun h => hf h.2.2)]
          cases e : unL b.toNat r with
          | none => rfl
          | some l =>
            rw [unL_some _ _ e]
            dsimp only
            rw [if_neg hf]
      · rw [if_neg (by simp only [List.length_drop]; intro h; omega), if_pos (by right; simp only [List.length_cons]; omega)]
end Go.Proofs.Try
