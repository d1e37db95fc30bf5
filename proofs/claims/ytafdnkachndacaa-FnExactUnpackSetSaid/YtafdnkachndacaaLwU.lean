/- Contracts. -/
import Derived.Test.YtafdnkachndacaaLwT
set_option linter.unusedSimpArgs false
set_option linter.unusedVariables false
namespace Go.Proofs.Try
open Go Go.Aix
set_option maxRecDepth 100000
set_option maxHeartbeats 4000000
set_option linter.unusedSimpArgs false
set_option linter.unusedVariables false
/-- What both answer: the counts, or none. -/
def specO (d : List Int) : Option (List CountV) := match unS d with
  | none => none
  | some l => if newsF l = 0 then some l else none
def implO (d : List Int) : Option (List CountV) := match unO d false with
  | none => none
  | some l => if (unR d false).2 = false ∧ (unR d false).1.length = 0 ∧ newsF l = 0 then some l else none
theorem newsR_short : ∀ (k : Nat) (d : List Int) (s : Bool), newsO k d s = none → (newsR k d s).2 = true
  | 0, d, s, h => by simp [newsO] at h
  | k + 1, d, s, h => by
    rw [newsO] at h
    rw [newsR]
    split
    · rfl
    · rename_i hc
      rw [if_neg hc] at h
      refine newsR_short k _ _ ?_
      cases e : newsO k (cD d s).2.1 (cD d s).2.2 with
      | none => rfl
      | some r => rw [e] at h; cases h
theorem newsF_le {l : List CountV} (h : newsF l = 0) : l.length ≤ 200 := by
  unfold newsF at h
  split at h <;> omega

def an52 : An (List Int × Unit) where
  pre t := t.1.all fun b => decide (0 ≤ b ∧ b ≤ 255)
  b _ t := decide (6000 < t.1.length) || (specO t.1).isNone
  i _ t := if 6000 < t.1.length then 2 else 5
  l _ t := tCount.encs (getL (specO t.1))
noncomputable def en52 : En := mkE (parsC (pL tU8) pars0) an52
def sh52 : Shp := fun I i b l s => .ask (b 0) fun t => match t with | true => .ok (.ag [.pv (.sc (.int .i64 (i 0))), .pv .nl], [], 0) | false => .ok (.ag [.pv (.sc (.int .i64 0)), .arr 0 0 (I.len (l 0))], [(0, .row 3 (l 0))], 1)
theorem ent52 : Enters Try.prog 52 := ⟨Try.f52, Try.func52, by kernel_rfl, by kernel_rfl⟩

theorem okA52 (d : List Int) (hd : inB d) (hl : 6000 < d.length) : Ok0 Try.prog 52 [(pL tU8).enc d] (.ag [.pv (.sc (.int .i64 (2))), .pv .nl]) [] 0 := by
  obtain ⟨I, hI⟩ : ∃ I, I = real := ⟨_, rfl⟩; obtain ⟨K, hK⟩ : ∃ K : FuncId → En, K = fun g => (lk g [(132, en132)]).getD default := ⟨_, rfl⟩; have k132 : K 132 = en132 := (by subst hK; rfl); clear hK
  have h2 : True := trivial
  have hn : True := trivial
  obtain ⟨es, hes⟩ : ∃ es, es = tU8.encs d := ⟨_, rfl⟩
  show Ok0 Try.prog 52 [.one (.pv (.sl false 1 (tU8.encs d)))] _ _ _
  rw [← hes]
  refine Ok0_run (Y := (Tab.calls [(132, false, callVw I (callE I (K 132) sh132))])) xok (TabOk.calls mixed ⟨EntryOk.vw (s132 hI k132) hI, notQuiet, trivial⟩) Try.func52 rfl rfl rfl 2000 hI fun w Xs => ?_; (conv => arg 4; cbv)
  repeat' (first | ((with_reducible refine on_eqs ?_ ?_); (focus (with_reducible rfl)); conv => arg 4; cbv) | (with_reducible refine on_both ?_ ?_ <;> (conv => arg 4; cbv)) | (with_reducible refine on_true (by assumption) ?_; conv => arg 4; cbv) | (with_reducible refine on_false (by assumption) ?_; conv => arg 4; cbv) | (with_reducible refine on_ask (fun g => ?_) (fun g => ?_) <;> (have h := g) <;> (try simp (disch := omega) [hI, k132, en132, an132, hes, h2, hn, getL, -List.length_eq_zero_iff] at h) <;> (try (exfalso; omega)) <;> (conv => arg 4; cbv)) | ((with_reducible refine on_must ?_ ?_); (focus (first | (simp (disch := omega) [hI, k132, en132, an132, hes, h2, hn, getL]; done) | (simp (disch := omega) [hI, k132, en132, an132, hes, h2, hn, getL]; omega) | (simp (disch := omega) [hI, k132, en132, an132, hes, h2, hn, getL]; assumption) | (simp (disch := omega) [hI, k132, en132, an132, hes, h2, hn, getL]; (refine And.intro ?_ ?_) <;> (first | omega | assumption)))); conv => arg 4; cbv))
  (with_reducible refine on_ret ?_); refine Ended_of rfl ?_; (conv => lhs; cbv)
  try rfl
theorem okB52 (d : List Int) (hd : inB d) (hl : d.length ≤ 6000) (hz : specO d = none) : Ok0 Try.prog 52 [(pL tU8).enc d] (.ag [.pv (.sc (.int .i64 (5))), .pv .nl]) [] 0 := by
  obtain ⟨I, hI⟩ : ∃ I, I = real := ⟨_, rfl⟩; obtain ⟨K, hK⟩ : ∃ K : FuncId → En, K = fun g => (lk g [(132, en132)]).getD default := ⟨_, rfl⟩; have k132 : K 132 = en132 := (by subst hK; rfl); clear hK
  obtain ⟨es, hes⟩ : ∃ es, es = tU8.encs d := ⟨_, rfl⟩
  show Ok0 Try.prog 52 [.one (.pv (.sl false 1 (tU8.encs d)))] _ _ _
  rw [← hes]
  have h2 : unS d = none ∨ ∃ l, unS d = some l ∧ newsF l ≠ 0 := by
    unfold specO at hz
    split at hz
    · rename_i h; exact .inl h
    · rename_i l h
      split at hz
      · cases hz
      · rename_i hn; exact .inr ⟨l, h, hn⟩
  rcases h2 with h2 | ⟨l, h2, hn⟩
  · have hn : True := trivial
    refine Ok0_run (Y := (Tab.calls [(132, false, callVw I (callE I (K 132) sh132))])) xok (TabOk.calls mixed ⟨EntryOk.vw (s132 hI k132) hI, notQuiet, trivial⟩) Try.func52 rfl rfl rfl 2000 hI fun w Xs => ?_; (conv => arg 4; cbv)
    repeat' (first | ((with_reducible refine on_eqs ?_ ?_); (focus (with_reducible rfl)); conv => arg 4; cbv) | (with_reducible refine on_both ?_ ?_ <;> (conv => arg 4; cbv)) | (with_reducible refine on_true (by assumption) ?_; conv => arg 4; cbv) | (with_reducible refine on_false (by assumption) ?_; conv => arg 4; cbv) | (with_reducible refine on_ask (fun g => ?_) (fun g => ?_) <;> (have h := g) <;> (try simp (disch := omega) [hI, k132, en132, an132, hes, h2, hn, getL, -List.length_eq_zero_iff] at h) <;> (try (exfalso; omega)) <;> (conv => arg 4; cbv)) | ((with_reducible refine on_must ?_ ?_); (focus (first | (simp (disch := omega) [hI, k132, en132, an132, hes, h2, hn, getL]; done) | (simp (disch := omega) [hI, k132, en132, an132, hes, h2, hn, getL]; omega) | (simp (disch := omega) [hI, k132, en132, an132, hes, h2, hn, getL]; assumption) | (simp (disch := omega) [hI, k132, en132, an132, hes, h2, hn, getL]; (refine And.intro ?_ ?_) <;> (first | omega | assumption)))); conv => arg 4; cbv))
    all_goals first | ((with_reducible refine on_ret ?_); refine Ended_of rfl ?_; (conv => lhs; cbv); done) | ((with_reducible refine on_ret ?_); refine Ended_of rfl ?_; (conv => lhs; cbv); rfl)
  · refine Ok0_run (Y := (Tab.calls [(132, false, callVw I (callE I (K 132) sh132))])) xok (TabOk.calls mixed ⟨EntryOk.vw (s132 hI k132) hI, notQuiet, trivial⟩) Try.func52 rfl rfl rfl 2000 hI fun w Xs => ?_; (conv => arg 4; cbv)
    repeat' (first | ((with_reducible refine on_eqs ?_ ?_); (focus (with_reducible rfl)); conv => arg 4; cbv) | (with_reducible refine on_both ?_ ?_ <;> (conv => arg 4; cbv)) | (with_reducible refine on_true (by assumption) ?_; conv => arg 4; cbv) | (with_reducible refine on_false (by assumption) ?_; conv => arg 4; cbv) | (with_reducible refine on_ask (fun g => ?_) (fun g => ?_) <;> (have h := g) <;> (try simp (disch := omega) [hI, k132, en132, an132, hes, h2, hn, getL, -List.length_eq_zero_iff] at h) <;> (try (exfalso; omega)) <;> (conv => arg 4; cbv)) | ((with_reducible refine on_must ?_ ?_); (focus (first | (simp (disch := omega) [hI, k132, en132, an132, hes, h2, hn, getL]; done) | (simp (disch := omega) [hI, k132, en132, an132, hes, h2, hn, getL]; omega) | (simp (disch := omega) [hI, k132, en132, an132, hes, h2, hn, getL]; assumption) | (simp (disch := omega) [hI, k132, en132, an132, hes, h2, hn, getL]; (refine And.intro ?_ ?_) <;> (first | omega | assumption)))); conv => arg 4; cbv))
    all_goals first | ((with_reducible refine on_ret ?_); refine Ended_of rfl ?_; (conv => lhs; cbv); done) | ((with_reducible refine on_ret ?_); refine Ended_of rfl ?_; (conv => lhs; cbv); rfl)
theorem okC52 (d : List Int) (hd : inB d) (hl : d.length ≤ 6000) (fin : List CountV) (hz : specO d = some fin) : Ok0 Try.prog 52 [(pL tU8).enc d] (.ag [.pv (.sc (.int .i64 0)), .arr 0 0 fin.length]) [(0, .row 3 (tCount.encs fin))] 1 := by
  obtain ⟨I, hI⟩ : ∃ I, I = real := ⟨_, rfl⟩; obtain ⟨K, hK⟩ : ∃ K : FuncId → En, K = fun g => (lk g [(132, en132)]).getD default := ⟨_, rfl⟩; have k132 : K 132 = en132 := (by subst hK; rfl); clear hK
  obtain ⟨es, hes⟩ : ∃ es, es = tU8.encs d := ⟨_, rfl⟩
  show Ok0 Try.prog 52 [.one (.pv (.sl false 1 (tU8.encs d)))] _ _ _
  rw [← hes]
  have h2 : unS d = some fin ∧ newsF fin = 0 := by
    unfold specO at hz
    split at hz
    · cases hz
    · rename_i l h
      split at hz
      · rename_i hn; cases hz; exact ⟨h, hn⟩
      · cases hz
  obtain ⟨h2, hn⟩ := h2
  refine Ok0_run (Y := (Tab.calls [(132, false, callVw I (callE I (K 132) sh132))])) xok (TabOk.calls mixed ⟨EntryOk.vw (s132 hI k132) hI, notQuiet, trivial⟩) Try.func52 rfl rfl rfl 2000 hI fun w Xs => ?_; (conv => arg 4; cbv)
  repeat' (first | ((with_reducible refine on_eqs ?_ ?_); (focus (with_reducible rfl)); conv => arg 4; cbv) | (with_reducible refine on_both ?_ ?_ <;> (conv => arg 4; cbv)) | (with_reducible refine on_true (by assumption) ?_; conv => arg 4; cbv) | (with_reducible refine on_false (by assumption) ?_; conv => arg 4; cbv) | (with_reducible refine on_ask (fun g => ?_) (fun g => ?_) <;> (have h := g) <;> (try simp (disch := omega) [hI, k132, en132, an132, hes, h2, hn, getL, -List.length_eq_zero_iff] at h) <;> (try (exfalso; omega)) <;> (conv => arg 4; cbv)) | ((with_reducible refine on_must ?_ ?_); (focus (first | (simp (disch := omega) [hI, k132, en132, an132, hes, h2, hn, getL]; done) | (simp (disch := omega) [hI, k132, en132, an132, hes, h2, hn, getL]; omega) | (simp (disch := omega) [hI, k132, en132, an132, hes, h2, hn, getL]; assumption) | (simp (disch := omega) [hI, k132, en132, an132, hes, h2, hn, getL]; (refine And.intro ?_ ?_) <;> (first | omega | assumption)))); conv => arg 4; cbv))
  (with_reducible refine on_ret ?_); refine Ended_of rfl ?_; (conv => lhs; cbv)
  try (simp (disch := omega) [hI, k132, en132, an132, hes, h2, hn, getL])

theorem s52 {I : Ops} (hI : I = real) {e : En} (he : e = en52) : Sound Try.prog 52 (callE I e sh52) := by
  refine Sound.mkR ent52 hI ?_ he
  rintro ⟨d, ⟨⟩⟩ hp r σ n e
  
  have hp : (d.all fun b => decide (0 ≤ b ∧ b ≤ 255)) = true := hp
  simp only [List.all_eq_true, decide_eq_true_eq] at hp
  by_cases hl : 6000 < d.length
  · have e : (R.ok (.ag [.pv (.sc (.int .i64 2)), .pv .nl], [], 0) : R (AV × Store × Nat)).val = some (r, σ, n) := by
      rw [← e]
      simp [sh52, an52, hl, val_ask]
    cases e
    exact okA52 d hp hl
  · cases hz : specO d with
    | none =>
      have e : (R.ok (.ag [.pv (.sc (.int .i64 5)), .pv .nl], [], 0) : R (AV × Store × Nat)).val = some (r, σ, n) := by
        rw [← e]
        simp [sh52, an52, hz, hl, val_ask]
      cases e
      exact okB52 d hp (by omega) hz
    | some fin =>
      have e : (R.ok (.ag [.pv (.sc (.int .i64 0)), .arr 0 0 fin.length], [(0, .row 3 (tCount.encs fin))], 1) : R (AV × Store × Nat)).val = some (r, σ, n) := by
        rw [← e]
        simp [sh52, an52, hz, hl, val_ask, getL]
      cases e
      exact okC52 d hp (by omega) fin hz
def an54 : An (List Int × Unit) where
  pre t := t.1.all fun b => decide (0 ≤ b ∧ b ≤ 255)
  b _ t := decide (6000 < t.1.length) || (implO t.1).isNone
  i _ t := if 6000 < t.1.length then 2 else 5
  l _ t := tCount.encs (getL (implO t.1))
noncomputable def en54 : En := mkE (parsC (pL tU8) pars0) an54
def sh54 : Shp := fun I i b l s => .ask (b 0) fun t => match t with | true => .ok (.ag [.pv (.sc (.int .i64 (i 0))), .pv .nl], [], 0) | false => .ok (.ag [.pv (.sc (.int .i64 0)), .arr 0 0 (I.len (l 0))], [(0, .row 3 (l 0))], 1)
theorem ent54 : Enters Try.prog 54 := ⟨Try.f54, Try.func54, by kernel_rfl, by kernel_rfl⟩

theorem okA54 (d : List Int) (hd : inB d) (hl : 6000 < d.length) : Ok0 Try.prog 54 [(pL tU8).enc d] (.ag [.pv (.sc (.int .i64 (2))), .pv .nl]) [] 0 := by
  obtain ⟨I, hI⟩ : ∃ I, I = real := ⟨_, rfl⟩; obtain ⟨K, hK⟩ : ∃ K : FuncId → En, K = fun g => (lk g [(128, en128), (133, en133)]).getD default := ⟨_, rfl⟩; have k128 : K 128 = en128 := (by subst hK; rfl); have k133 : K 133 = en133 := (by subst hK; rfl); clear hK
  have h2 : True := trivial
  have h3 : True := trivial
  have h4 : True := trivial
  have h5 : True := trivial
  obtain ⟨es, hes⟩ : ∃ es, es = tU8.encs d := ⟨_, rfl⟩
  show Ok0 Try.prog 54 [.one (.pv (.sl false 1 (tU8.encs d)))] _ _ _
  rw [← hes]
  refine Ok0_run (Y := (Tab.calls [(128, true, callRd I (callE I (K 128) sh128)), (133, false, callRef I (boxE I (K 133) sh133)), (134, false, callRef I (inlR X I (Tab.calls []) Try.f134))])) xok (TabOk.calls mixed ⟨EntryOk.rd (s128 hI k128) hI, fun _ => callRd_quiet _ _, ⟨EntryOk.ref (s133 hI k133) hI, notQuiet, ⟨EntryOk.ref (s134 hI) hI, notQuiet, trivial⟩⟩⟩) Try.func54 rfl rfl rfl 2000 hI fun w Xs => ?_; (conv => arg 4; cbv)
  repeat' (first | ((with_reducible refine on_eqs ?_ ?_); (focus (with_reducible rfl)); conv => arg 4; cbv) | (with_reducible refine on_both ?_ ?_ <;> (conv => arg 4; cbv)) | (with_reducible refine on_true (by assumption) ?_; conv => arg 4; cbv) | (with_reducible refine on_false (by assumption) ?_; conv => arg 4; cbv) | (with_reducible refine on_ask (fun g => ?_) (fun g => ?_) <;> (have h := g) <;> (try simp (disch := omega) [hI, k128, en128, an128, k133, en133, an133, hes, h2, h3, h4, h5, getO, -List.length_eq_zero_iff] at h) <;> (try (exfalso; omega)) <;> (conv => arg 4; cbv)) | ((with_reducible refine on_must ?_ ?_); (focus (first | (simp (disch := omega) [hI, k128, en128, an128, k133, en133, an133, hes, h2, h3, h4, h5, getO]; done) | (simp (disch := omega) [hI, k128, en128, an128, k133, en133, an133, hes, h2, h3, h4, h5, getO]; omega) | (simp (disch := omega) [hI, k128, en128, an128, k133, en133, an133, hes, h2, h3, h4, h5, getO]; assumption) | (simp (disch := omega) [hI, k128, en128, an128, k133, en133, an133, hes, h2, h3, h4, h5, getO]; (refine And.intro ?_ ?_) <;> (first | omega | assumption)))); conv => arg 4; cbv))
  (with_reducible refine on_ret ?_); refine Ended_of rfl ?_; (conv => lhs; cbv)
  try rfl
theorem okB54 (d : List Int) (hd : inB d) (hl : d.length ≤ 6000) (hz : implO d = none) : Ok0 Try.prog 54 [(pL tU8).enc d] (.ag [.pv (.sc (.int .i64 (5))), .pv .nl]) [] 0 := by
  obtain ⟨I, hI⟩ : ∃ I, I = real := ⟨_, rfl⟩; obtain ⟨K, hK⟩ : ∃ K : FuncId → En, K = fun g => (lk g [(128, en128), (133, en133)]).getD default := ⟨_, rfl⟩; have k128 : K 128 = en128 := (by subst hK; rfl); have k133 : K 133 = en133 := (by subst hK; rfl); clear hK
  obtain ⟨es, hes⟩ : ∃ es, es = tU8.encs d := ⟨_, rfl⟩
  show Ok0 Try.prog 54 [.one (.pv (.sl false 1 (tU8.encs d)))] _ _ _
  rw [← hes]
  have h2 : unO d false = none ∨ ∃ l, unO d false = some l ∧ ¬ ((unR d false).2 = false ∧ (unR d false).1.length = 0 ∧ newsF l = 0) := by
    unfold implO at hz
    split at hz
    · rename_i h; exact .inl h
    · rename_i l h
      split at hz
      · cases hz
      · rename_i hn; exact .inr ⟨l, h, hn⟩
  rcases h2 with h2 | ⟨l, h2, hn⟩
  · have h3 : (unR d false).2 = true := newsR_short _ _ _ h2
    have h4 : True := trivial
    have h5 : True := trivial
    refine Ok0_run (Y := (Tab.calls [(128, true, callRd I (callE I (K 128) sh128)), (133, false, callRef I (boxE I (K 133) sh133)), (134, false, callRef I (inlR X I (Tab.calls []) Try.f134))])) xok (TabOk.calls mixed ⟨EntryOk.rd (s128 hI k128) hI, fun _ => callRd_quiet _ _, ⟨EntryOk.ref (s133 hI k133) hI, notQuiet, ⟨EntryOk.ref (s134 hI) hI, notQuiet, trivial⟩⟩⟩) Try.func54 rfl rfl rfl 2000 hI fun w Xs => ?_; (conv => arg 4; cbv)
    repeat' (first | ((with_reducible refine on_eqs ?_ ?_); (focus (with_reducible rfl)); conv => arg 4; cbv) | (with_reducible refine on_both ?_ ?_ <;> (conv => arg 4; cbv)) | (with_reducible refine on_true (by assumption) ?_; conv => arg 4; cbv) | (with_reducible refine on_false (by assumption) ?_; conv => arg 4; cbv) | (with_reducible refine on_ask (fun g => ?_) (fun g => ?_) <;> (have h := g) <;> (try simp (disch := omega) [hI, k128, en128, an128, k133, en133, an133, hes, h2, h3, h4, h5, getO, -List.length_eq_zero_iff] at h) <;> (try (exfalso; omega)) <;> (conv => arg 4; cbv)) | ((with_reducible refine on_must ?_ ?_); (focus (first | (simp (disch := omega) [hI, k128, en128, an128, k133, en133, an133, hes, h2, h3, h4, h5, getO]; done) | (simp (disch := omega) [hI, k128, en128, an128, k133, en133, an133, hes, h2, h3, h4, h5, getO]; omega) | (simp (disch := omega) [hI, k128, en128, an128, k133, en133, an133, hes, h2, h3, h4, h5, getO]; assumption) | (simp (disch := omega) [hI, k128, en128, an128, k133, en133, an133, hes, h2, h3, h4, h5, getO]; (refine And.intro ?_ ?_) <;> (first | omega | assumption)))); conv => arg 4; cbv))
    all_goals first | ((with_reducible refine on_ret ?_); refine Ended_of rfl ?_; (conv => lhs; cbv); done) | ((with_reducible refine on_ret ?_); refine Ended_of rfl ?_; (conv => lhs; cbv); rfl)
  · cases h3 : (unR d false).2 with
    | true =>
      have h4 : True := trivial
      have h5 : True := trivial
      refine Ok0_run (Y := (Tab.calls [(128, true, callRd I (callE I (K 128) sh128)), (133, false, callRef I (boxE I (K 133) sh133)), (134, false, callRef I (inlR X I (Tab.calls []) Try.f134))])) xok (TabOk.calls mixed ⟨EntryOk.rd (s128 hI k128) hI, fun _ => callRd_quiet _ _, ⟨EntryOk.ref (s133 hI k133) hI, notQuiet, ⟨EntryOk.ref (s134 hI) hI, notQuiet, trivial⟩⟩⟩) Try.func54 rfl rfl rfl 2000 hI fun w Xs => ?_; (conv => arg 4; cbv)
      repeat' (first | ((with_reducible refine on_eqs ?_ ?_); (focus (with_reducible rfl)); conv => arg 4; cbv) | (with_reducible refine on_both ?_ ?_ <;> (conv => arg 4; cbv)) | (with_reducible refine on_true (by assumption) ?_; conv => arg 4; cbv) | (with_reducible refine on_false (by assumption) ?_; conv => arg 4; cbv) | (with_reducible refine on_ask (fun g => ?_) (fun g => ?_) <;> (have h := g) <;> (try simp (disch := omega) [hI, k128, en128, an128, k133, en133, an133, hes, h2, h3, h4, h5, getO, -List.length_eq_zero_iff] at h) <;> (try (exfalso; omega)) <;> (conv => arg 4; cbv)) | ((with_reducible refine on_must ?_ ?_); (focus (first | (simp (disch := omega) [hI, k128, en128, an128, k133, en133, an133, hes, h2, h3, h4, h5, getO]; done) | (simp (disch := omega) [hI, k128, en128, an128, k133, en133, an133, hes, h2, h3, h4, h5, getO]; omega) | (simp (disch := omega) [hI, k128, en128, an128, k133, en133, an133, hes, h2, h3, h4, h5, getO]; assumption) | (simp (disch := omega) [hI, k128, en128, an128, k133, en133, an133, hes, h2, h3, h4, h5, getO]; (refine And.intro ?_ ?_) <;> (first | omega | assumption)))); conv => arg 4; cbv))
      all_goals first | ((with_reducible refine on_ret ?_); refine Ended_of rfl ?_; (conv => lhs; cbv); done) | ((with_reducible refine on_ret ?_); refine Ended_of rfl ?_; (conv => lhs; cbv); rfl)
    | false =>
      by_cases h4 : (unR d false).1.length = 0
      · have h5 : ¬ newsF l = 0 := fun h => hn ⟨h3, h4, h⟩
        refine Ok0_run (Y := (Tab.calls [(128, true, callRd I (callE I (K 128) sh128)), (133, false, callRef I (boxE I (K 133) sh133)), (134, false, callRef I (inlR X I (Tab.calls []) Try.f134))])) xok (TabOk.calls mixed ⟨EntryOk.rd (s128 hI k128) hI, fun _ => callRd_quiet _ _, ⟨EntryOk.ref (s133 hI k133) hI, notQuiet, ⟨EntryOk.ref (s134 hI) hI, notQuiet, trivial⟩⟩⟩) Try.func54 rfl rfl rfl 2000 hI fun w Xs => ?_; (conv => arg 4; cbv)
        repeat' (first | ((with_reducible refine on_eqs ?_ ?_); (focus (with_reducible rfl)); conv => arg 4; cbv) | (with_reducible refine on_both ?_ ?_ <;> (conv => arg 4; cbv)) | (with_reducible refine on_true (by assumption) ?_; conv => arg 4; cbv) | (with_reducible refine on_false (by assumption) ?_; conv => arg 4; cbv) | (with_reducible refine on_ask (fun g => ?_) (fun g => ?_) <;> (have h := g) <;> (try simp (disch := omega) [hI, k128, en128, an128, k133, en133, an133, hes, h2, h3, h4, h5, getO, -List.length_eq_zero_iff] at h) <;> (try (exfalso; omega)) <;> (conv => arg 4; cbv)) | ((with_reducible refine on_must ?_ ?_); (focus (first | (simp (disch := omega) [hI, k128, en128, an128, k133, en133, an133, hes, h2, h3, h4, h5, getO]; done) | (simp (disch := omega) [hI, k128, en128, an128, k133, en133, an133, hes, h2, h3, h4, h5, getO]; omega) | (simp (disch := omega) [hI, k128, en128, an128, k133, en133, an133, hes, h2, h3, h4, h5, getO]; assumption) | (simp (disch := omega) [hI, k128, en128, an128, k133, en133, an133, hes, h2, h3, h4, h5, getO]; (refine And.intro ?_ ?_) <;> (first | omega | assumption)))); conv => arg 4; cbv))
        all_goals first | ((with_reducible refine on_ret ?_); refine Ended_of rfl ?_; (conv => lhs; cbv); done) | ((with_reducible refine on_ret ?_); refine Ended_of rfl ?_; (conv => lhs; cbv); rfl)
      · have h5 : True := trivial
        refine Ok0_run (Y := (Tab.calls [(128, true, callRd I (callE I (K 128) sh128)), (133, false, callRef I (boxE I (K 133) sh133)), (134, false, callRef I (inlR X I (Tab.calls []) Try.f134))])) xok (TabOk.calls mixed ⟨EntryOk.rd (s128 hI k128) hI, fun _ => callRd_quiet _ _, ⟨EntryOk.ref (s133 hI k133) hI, notQuiet, ⟨EntryOk.ref (s134 hI) hI, notQuiet, trivial⟩⟩⟩) Try.func54 rfl rfl rfl 2000 hI fun w Xs => ?_; (conv => arg 4; cbv)
        repeat' (first | ((with_reducible refine on_eqs ?_ ?_); (focus (with_reducible rfl)); conv => arg 4; cbv) | (with_reducible refine on_both ?_ ?_ <;> (conv => arg 4; cbv)) | (with_reducible refine on_true (by assumption) ?_; conv => arg 4; cbv) | (with_reducible refine on_false (by assumption) ?_; conv => arg 4; cbv) | (with_reducible refine on_ask (fun g => ?_) (fun g => ?_) <;> (have h := g) <;> (try simp (disch := omega) [hI, k128, en128, an128, k133, en133, an133, hes, h2, h3, h4, h5, getO, -List.length_eq_zero_iff] at h) <;> (try (exfalso; omega)) <;> (conv => arg 4; cbv)) | ((with_reducible refine on_must ?_ ?_); (focus (first | (simp (disch := omega) [hI, k128, en128, an128, k133, en133, an133, hes, h2, h3, h4, h5, getO]; done) | (simp (disch := omega) [hI, k128, en128, an128, k133, en133, an133, hes, h2, h3, h4, h5, getO]; omega) | (simp (disch := omega) [hI, k128, en128, an128, k133, en133, an133, hes, h2, h3, h4, h5, getO]; assumption) | (simp (disch := omega) [hI, k128, en128, an128, k133, en133, an133, hes, h2, h3, h4, h5, getO]; (refine And.intro ?_ ?_) <;> (first | omega | assumption)))); conv => arg 4; cbv))
        all_goals first | ((with_reducible refine on_ret ?_); refine Ended_of rfl ?_; (conv => lhs; cbv); done) | ((with_reducible refine on_ret ?_); refine Ended_of rfl ?_; (conv => lhs; cbv); rfl)
theorem okC54 (d : List Int) (hd : inB d) (hl : d.length ≤ 6000) (fin : List CountV) (hz : implO d = some fin) : Ok0 Try.prog 54 [(pL tU8).enc d] (.ag [.pv (.sc (.int .i64 0)), .arr 0 0 fin.length]) [(0, .row 3 (tCount.encs fin))] 1 := by
  obtain ⟨I, hI⟩ : ∃ I, I = real := ⟨_, rfl⟩; obtain ⟨K, hK⟩ : ∃ K : FuncId → En, K = fun g => (lk g [(128, en128), (133, en133)]).getD default := ⟨_, rfl⟩; have k128 : K 128 = en128 := (by subst hK; rfl); have k133 : K 133 = en133 := (by subst hK; rfl); clear hK
  obtain ⟨es, hes⟩ : ∃ es, es = tU8.encs d := ⟨_, rfl⟩
  show Ok0 Try.prog 54 [.one (.pv (.sl false 1 (tU8.encs d)))] _ _ _
  rw [← hes]
  have h2 : unO d false = some fin ∧ (unR d false).2 = false ∧ (unR d false).1.length = 0 ∧ newsF fin = 0 := by
    unfold implO at hz
    split at hz
    · cases hz
    · rename_i l h
      split at hz
      · rename_i hn; cases hz; exact ⟨h, hn⟩
      · cases hz
  obtain ⟨h2, h3, h4, h5⟩ := h2
  refine Ok0_run (Y := (Tab.calls [(128, true, callRd I (callE I (K 128) sh128)), (133, false, callRef I (boxE I (K 133) sh133)), (134, false, callRef I (inlR X I (Tab.calls []) Try.f134))])) xok (TabOk.calls mixed ⟨EntryOk.rd (s128 hI k128) hI, fun _ => callRd_quiet _ _, ⟨EntryOk.ref (s133 hI k133) hI, notQuiet, ⟨EntryOk.ref (s134 hI) hI, notQuiet, trivial⟩⟩⟩) Try.func54 rfl rfl rfl 2000 hI fun w Xs => ?_; (conv => arg 4; cbv)
  repeat' (first | ((with_reducible refine on_eqs ?_ ?_); (focus (with_reducible rfl)); conv => arg 4; cbv) | (with_reducible refine on_both ?_ ?_ <;> (conv => arg 4; cbv)) | (with_reducible refine on_true (by assumption) ?_; conv => arg 4; cbv) | (with_reducible refine on_false (by assumption) ?_; conv => arg 4; cbv) | (with_reducible refine on_ask (fun g => ?_) (fun g => ?_) <;> (have h := g) <;> (try simp (disch := omega) [hI, k128, en128, an128, k133, en133, an133, hes, h2, h3, h4, h5, getO, -List.length_eq_zero_iff] at h) <;> (try (exfalso; omega)) <;> (conv => arg 4; cbv)) | ((with_reducible refine on_must ?_ ?_); (focus (first | (simp (disch := omega) [hI, k128, en128, an128, k133, en133, an133, hes, h2, h3, h4, h5, getO]; done) | (simp (disch := omega) [hI, k128, en128, an128, k133, en133, an133, hes, h2, h3, h4, h5, getO]; omega) | (simp (disch := omega) [hI, k128, en128, an128, k133, en133, an133, hes, h2, h3, h4, h5, getO]; assumption) | (simp (disch := omega) [hI, k128, en128, an128, k133, en133, an133, hes, h2, h3, h4, h5, getO]; (refine And.intro ?_ ?_) <;> (first | omega | assumption)))); conv => arg 4; cbv))
  (with_reducible refine on_ret ?_); refine Ended_of rfl ?_; (conv => lhs; cbv)
  try (simp (disch := omega) [hI, k128, en128, an128, k133, en133, an133, hes, h2, h3, h4, h5, getO])

theorem s54 {I : Ops} (hI : I = real) {e : En} (he : e = en54) : Sound Try.prog 54 (callE I e sh54) := by
  refine Sound.mkR ent54 hI ?_ he
  rintro ⟨d, ⟨⟩⟩ hp r σ n e
  
  have hp : (d.all fun b => decide (0 ≤ b ∧ b ≤ 255)) = true := hp
  simp only [List.all_eq_true, decide_eq_true_eq] at hp
  by_cases hl : 6000 < d.length
  · have e : (R.ok (.ag [.pv (.sc (.int .i64 2)), .pv .nl], [], 0) : R (AV × Store × Nat)).val = some (r, σ, n) := by
      rw [← e]
      simp [sh54, an54, hl, val_ask]
    cases e
    exact okA54 d hp hl
  · cases hz : implO d with
    | none =>
      have e : (R.ok (.ag [.pv (.sc (.int .i64 5)), .pv .nl], [], 0) : R (AV × Store × Nat)).val = some (r, σ, n) := by
        rw [← e]
        simp [sh54, an54, hz, hl, val_ask]
      cases e
      exact okB54 d hp (by omega) hz
    | some fin =>
      have e : (R.ok (.ag [.pv (.sc (.int .i64 0)), .arr 0 0 fin.length], [(0, .row 3 (tCount.encs fin))], 1) : R (AV × Store × Nat)).val = some (r, σ, n) := by
        rw [← e]
        simp [sh54, an54, hz, hl, val_ask, getL]
      cases e
      exact okC54 d hp (by omega) fin hz
end Go.Proofs.Try
