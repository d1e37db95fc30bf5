/- Contracts. -/
import Derived.Test.YtafdnkachndacaaLwZ
set_option linter.unusedSimpArgs false
set_option linter.unusedVariables false
namespace Go.Proofs.Try
open Go Go.Aix
set_option maxRecDepth 100000
set_option maxHeartbeats 4000000
set_option linter.unusedSimpArgs false
set_option linter.unusedVariables false
def unP (d : List Int) (s : Bool) : Option (List EntryV) := setO (nxB d s).1.toNat (nxB d s).2.1 (nxB d s).2.2
def unQ (d : List Int) (s : Bool) : List Int × Bool := setQ (nxB d s).1.toNat (nxB d s).2.1 (nxB d s).2.2
noncomputable def an140 : An (List Int × Bool × Unit) where
  pre t := decide (t.1.length ≤ 6000) && t.1.all fun b => decide (0 ≤ b ∧ b ≤ 255)
  b j t := match j with | 0 => (unP t.1 t.2.1).isNone | _ => (unQ t.1 t.2.1).2
  l j t := match j with | 0 => mapE tEntry_own (getE (unP t.1 t.2.1)) | _ => tU8.encs (unQ t.1 t.2.1).1
noncomputable def en140 : En := mkE (parsC (pE tU8) (parsC pB pars0)) an140
def sh140 : Shp := fun I i b l s => .ask (b 0) fun t => match t with | true => .ok (.one (.pv .nl), [(0, .box [.pv (.sl false 1 (l 1)), .pv (.sc (.bool (b 1)))])], 1) | false => .ok (.one (.arr 1 0 (I.len (l 0))), [(0, .box [.pv (.sl false 1 (l 1)), .pv (.sc (.bool (b 1)))]), (1, .row 2 (l 0))], 2)

theorem okN140 (d : List Int) (s : Bool) (hd : inB d) (hl : d.length ≤ 6000) (hz : unP d s = none) : OkR Try.prog 140 [.one (.ptr 0 0 0)] [(0, .box [.pv (.sl false 1 (tU8.encs d)), .pv (.sc (.bool s))])] 1 (.one (.pv .nl)) [(0, .box [.pv (.sl false 1 (tU8.encs (unQ d s).1)), .pv (.sc (.bool (unQ d s).2))])] 1 := by
  obtain ⟨I, hI⟩ : ∃ I, I = real := ⟨_, rfl⟩; obtain ⟨K, hK⟩ : ∃ K : FuncId → En, K = fun g => (lk g [(195, en195)]).getD default := ⟨_, rfl⟩; have k195 : K 195 = en195 := (by subst hK; rfl); clear hK
  have hna : True := trivial
  have hrs : True := trivial
  have hma : True := trivial
  have her : True := trivial
  have hl1 : True := trivial
  obtain ⟨ds, hds⟩ : ∃ ds, ds = tU8.encs d := ⟨_, rfl⟩
  obtain ⟨fr, hfr⟩ : ∃ fr, fr = unQ d s := ⟨_, rfl⟩
  suffices hs : OkR Try.prog 140 [.one (.ptr 0 0 0)] [(0, .box [.pv (.sl false 1 ds), .pv (.sc (.bool s))])] 1 (.one (.pv .nl)) [(0, .box [.pv (.sl false 1 (tU8.encs (fr).1)), .pv (.sc (.bool (fr).2))])] 1 by rwa [hds, hfr] at hs
  unfold unP at hz
  unfold unQ at hfr
  cases d with
  | nil =>
    refine OkR_run (Y := (Tab.calls [(194, false, callRef I (inlR X I (Tab.calls []) Try.f194)), (195, false, callRef I (boxE I (K 195) sh195))])) xok (TabOk.calls mixed ⟨EntryOk.ref (s194 hI) hI, notQuiet, ⟨EntryOk.ref (s195 hI k195) hI, notQuiet, trivial⟩⟩) Try.func140 rfl rfl rfl 2000 hI fun w Xs β0 O0 => ?_; (conv => arg 4; cbv)
    repeat' (first | ((with_reducible refine on_eqs ?_ ?_); (focus (with_reducible rfl)); conv => arg 4; cbv) | (with_reducible refine on_both ?_ ?_ <;> (conv => arg 4; cbv)) | (with_reducible refine on_true (by assumption) ?_; conv => arg 4; cbv) | (with_reducible refine on_false (by assumption) ?_; conv => arg 4; cbv) | (with_reducible refine on_ask (fun g => ?_) (fun g => ?_) <;> (have h := g) <;> (try simp (disch := omega) [hI, k195, en195, an195, hds, hna, hrs, hma, her, hl1, -List.length_eq_zero_iff] at h) <;> (try (exfalso; omega)) <;> (conv => arg 4; cbv)) | ((with_reducible refine on_must ?_ ?_); (focus (first | (simp (disch := omega) [hI, k195, en195, an195, hds, hna, hrs, hma, her, hl1]; done) | (simp (disch := omega) [hI, k195, en195, an195, hds, hna, hrs, hma, her, hl1]; omega) | (simp (disch := omega) [hI, k195, en195, an195, hds, hna, hrs, hma, her, hl1]; assumption) | (simp (disch := omega) [hI, k195, en195, an195, hds, hna, hrs, hma, her, hl1]; (refine And.intro ?_ ?_) <;> (first | omega | assumption)))); conv => arg 4; cbv))
    (with_reducible refine on_loop ?_); simp only [List.cons_append, List.nil_append]; refine W_norm [0, 3, 7, 8] ?_ (L140f ds s 0 (by decide) fr 0 0 0 [] [] (tU8.encs []) [] true rfl rfl rfl rfl inB_nil (by simp) rfl hfr.symm (by simpa [nxB] using hz)); (conv => lhs; cbv)
    simp (disch := omega) [hI, k195, en195, an195, hds, hna, hrs, hma, her, hl1]
  | cons b d =>
    have hlc : (b :: d).length = d.length + 1 := rfl
    have hb := inB_hd hd
    refine OkR_run (Y := (Tab.calls [(194, false, callRef I (inlR X I (Tab.calls []) Try.f194)), (195, false, callRef I (boxE I (K 195) sh195))])) xok (TabOk.calls mixed ⟨EntryOk.ref (s194 hI) hI, notQuiet, ⟨EntryOk.ref (s195 hI k195) hI, notQuiet, trivial⟩⟩) Try.func140 rfl rfl rfl 2000 hI fun w Xs β0 O0 => ?_; (conv => arg 4; cbv)
    repeat' (first | ((with_reducible refine on_eqs ?_ ?_); (focus (with_reducible rfl)); conv => arg 4; cbv) | (with_reducible refine on_both ?_ ?_ <;> (conv => arg 4; cbv)) | (with_reducible refine on_true (by assumption) ?_; conv => arg 4; cbv) | (with_reducible refine on_false (by assumption) ?_; conv => arg 4; cbv) | (with_reducible refine on_ask (fun g => ?_) (fun g => ?_) <;> (have h := g) <;> (try simp (disch := omega) [hI, k195, en195, an195, hds, hna, hrs, hma, her, hl1, -List.length_eq_zero_iff] at h) <;> (try (exfalso; omega)) <;> (conv => arg 4; cbv)) | ((with_reducible refine on_must ?_ ?_); (focus (first | (simp (disch := omega) [hI, k195, en195, an195, hds, hna, hrs, hma, her, hl1]; done) | (simp (disch := omega) [hI, k195, en195, an195, hds, hna, hrs, hma, her, hl1]; omega) | (simp (disch := omega) [hI, k195, en195, an195, hds, hna, hrs, hma, her, hl1]; assumption) | (simp (disch := omega) [hI, k195, en195, an195, hds, hna, hrs, hma, her, hl1]; (refine And.intro ?_ ?_) <;> (first | omega | assumption)))); conv => arg 4; cbv))
    (with_reducible refine on_loop ?_); simp only [List.cons_append, List.nil_append]; refine W_norm [0, 3, 7, 8] ?_ (L140f ds s b hb fr b.toNat 0 0 [] [] (tU8.encs d) d s (by omega) rfl rfl rfl (inB_tl hd) (by omega) rfl hfr.symm (by simpa [nxB] using hz)); (conv => lhs; cbv)
    simp (disch := omega) [hI, k195, en195, an195, hds, hna, hrs, hma, her, hl1, nth, i64w_byte hb]

theorem okS140 (d : List Int) (s : Bool) (hd : inB d) (hl : d.length ≤ 6000) (fin : List EntryV) (hz : unP d s = some fin) : OkR Try.prog 140 [.one (.ptr 0 0 0)] [(0, .box [.pv (.sl false 1 (tU8.encs d)), .pv (.sc (.bool s))])] 1 (.one (.arr 1 0 fin.length)) [(0, .box [.pv (.sl false 1 (tU8.encs (unQ d s).1)), .pv (.sc (.bool (unQ d s).2))]), (1, .row 2 (mapE tEntry_own fin))] 2 := by
  obtain ⟨I, hI⟩ : ∃ I, I = real := ⟨_, rfl⟩; obtain ⟨K, hK⟩ : ∃ K : FuncId → En, K = fun g => (lk g [(195, en195)]).getD default := ⟨_, rfl⟩; have k195 : K 195 = en195 := (by subst hK; rfl); clear hK
  have hna : True := trivial
  have hrs : True := trivial
  have hma : True := trivial
  have her : True := trivial
  have hl1 : True := trivial
  obtain ⟨ds, hds⟩ : ∃ ds, ds = tU8.encs d := ⟨_, rfl⟩
  obtain ⟨fr, hfr⟩ : ∃ fr, fr = unQ d s := ⟨_, rfl⟩
  suffices hs : OkR Try.prog 140 [.one (.ptr 0 0 0)] [(0, .box [.pv (.sl false 1 ds), .pv (.sc (.bool s))])] 1 (.one (.arr 1 0 fin.length)) [(0, .box [.pv (.sl false 1 (tU8.encs (fr).1)), .pv (.sc (.bool (fr).2))]), (1, .row 2 (mapE tEntry_own fin))] 2 by rwa [hds, hfr] at hs
  unfold unP at hz
  unfold unQ at hfr
  cases d with
  | nil =>
    refine OkR_run (Y := (Tab.calls [(194, false, callRef I (inlR X I (Tab.calls []) Try.f194)), (195, false, callRef I (boxE I (K 195) sh195))])) xok (TabOk.calls mixed ⟨EntryOk.ref (s194 hI) hI, notQuiet, ⟨EntryOk.ref (s195 hI k195) hI, notQuiet, trivial⟩⟩) Try.func140 rfl rfl rfl 2000 hI fun w Xs β0 O0 => ?_; (conv => arg 4; cbv)
    repeat' (first | ((with_reducible refine on_eqs ?_ ?_); (focus (with_reducible rfl)); conv => arg 4; cbv) | (with_reducible refine on_both ?_ ?_ <;> (conv => arg 4; cbv)) | (with_reducible refine on_true (by assumption) ?_; conv => arg 4; cbv) | (with_reducible refine on_false (by assumption) ?_; conv => arg 4; cbv) | (with_reducible refine on_ask (fun g => ?_) (fun g => ?_) <;> (have h := g) <;> (try simp (disch := omega) [hI, k195, en195, an195, hds, hna, hrs, hma, her, hl1, -List.length_eq_zero_iff] at h) <;> (try (exfalso; omega)) <;> (conv => arg 4; cbv)) | ((with_reducible refine on_must ?_ ?_); (focus (first | (simp (disch := omega) [hI, k195, en195, an195, hds, hna, hrs, hma, her, hl1]; done) | (simp (disch := omega) [hI, k195, en195, an195, hds, hna, hrs, hma, her, hl1]; omega) | (simp (disch := omega) [hI, k195, en195, an195, hds, hna, hrs, hma, her, hl1]; assumption) | (simp (disch := omega) [hI, k195, en195, an195, hds, hna, hrs, hma, her, hl1]; (refine And.intro ?_ ?_) <;> (first | omega | assumption)))); conv => arg 4; cbv))
    (with_reducible refine on_loop ?_); simp only [List.cons_append, List.nil_append]; refine W_norm [0, 3, 7, 8] ?_ (L140s ds s 0 (by decide) fr fin 0 0 0 [] [] (tU8.encs []) [] true rfl rfl rfl rfl inB_nil (by simp) rfl hfr.symm (by simpa [nxB] using hz)); (conv => lhs; cbv)
    simp (disch := omega) [hI, k195, en195, an195, hds, hna, hrs, hma, her, hl1]
  | cons b d =>
    have hlc : (b :: d).length = d.length + 1 := rfl
    have hb := inB_hd hd
    refine OkR_run (Y := (Tab.calls [(194, false, callRef I (inlR X I (Tab.calls []) Try.f194)), (195, false, callRef I (boxE I (K 195) sh195))])) xok (TabOk.calls mixed ⟨EntryOk.ref (s194 hI) hI, notQuiet, ⟨EntryOk.ref (s195 hI k195) hI, notQuiet, trivial⟩⟩) Try.func140 rfl rfl rfl 2000 hI fun w Xs β0 O0 => ?_; (conv => arg 4; cbv)
    repeat' (first | ((with_reducible refine on_eqs ?_ ?_); (focus (with_reducible rfl)); conv => arg 4; cbv) | (with_reducible refine on_both ?_ ?_ <;> (conv => arg 4; cbv)) | (with_reducible refine on_true (by assumption) ?_; conv => arg 4; cbv) | (with_reducible refine on_false (by assumption) ?_; conv => arg 4; cbv) | (with_reducible refine on_ask (fun g => ?_) (fun g => ?_) <;> (have h := g) <;> (try simp (disch := omega) [hI, k195, en195, an195, hds, hna, hrs, hma, her, hl1, -List.length_eq_zero_iff] at h) <;> (try (exfalso; omega)) <;> (conv => arg 4; cbv)) | ((with_reducible refine on_must ?_ ?_); (focus (first | (simp (disch := omega) [hI, k195, en195, an195, hds, hna, hrs, hma, her, hl1]; done) | (simp (disch := omega) [hI, k195, en195, an195, hds, hna, hrs, hma, her, hl1]; omega) | (simp (disch := omega) [hI, k195, en195, an195, hds, hna, hrs, hma, her, hl1]; assumption) | (simp (disch := omega) [hI, k195, en195, an195, hds, hna, hrs, hma, her, hl1]; (refine And.intro ?_ ?_) <;> (first | omega | assumption)))); conv => arg 4; cbv))
    (with_reducible refine on_loop ?_); simp only [List.cons_append, List.nil_append]; refine W_norm [0, 3, 7, 8] ?_ (L140s ds s b hb fr fin b.toNat 0 0 [] [] (tU8.encs d) d s (by omega) rfl rfl rfl (inB_tl hd) (by omega) rfl hfr.symm (by simpa [nxB] using hz)); (conv => lhs; cbv)
    simp (disch := omega) [hI, k195, en195, an195, hds, hna, hrs, hma, her, hl1, nth, i64w_byte hb]

theorem s140 {I : Ops} (hI : I = real) {e : En} (he : e = en140) : SoundR Try.prog 140 (boxE I e sh140) :=
  SoundR.boxE ent140 (fun d s hp r σ n e => by
    have hp : (decide (d.length ≤ 6000) && d.all fun b => decide (0 ≤ b ∧ b ≤ 255)) = true := hp
    simp only [Bool.and_eq_true, List.all_eq_true, decide_eq_true_eq] at hp
    cases hz : unP d s with
    | none =>
      have e : (R.ok (.one (.pv .nl), [(0, .box [.pv (.sl false 1 (tU8.encs (unQ d s).1)), .pv (.sc (.bool (unQ d s).2))])], 1) : R (AV × Store × Nat)).val = some (r, σ, n) := by
        rw [← e]
        simp [sh140, an140, hz, val_ask]
      cases e
      exact okN140 d s hp.2 hp.1 hz
    | some fin =>
      have e : (R.ok (.one (.arr 1 0 fin.length), [(0, .box [.pv (.sl false 1 (tU8.encs (unQ d s).1)), .pv (.sc (.bool (unQ d s).2))]), (1, .row 2 (mapE tEntry_own fin))], 2) : R (AV × Store × Nat)).val = some (r, σ, n) := by
        rw [← e]
        simp [sh140, an140, hz, val_ask, getE, mapE_length]
      cases e
      exact okS140 d s hp.2 hp.1 fin hz) hI he

/-- What both answer: the entries, or none. -/
def specE (d : List Int) : Option (List EntryV) := match unU d with
  | none => none
  | some l => if (setW (nth d 0).toNat (d.drop 1)).length = 0 ∧ setF l = 0 then some l else none
def implE (d : List Int) : Option (List EntryV) := match unP d false with
  | none => none
  | some l => if (unQ d false).2 = false ∧ (unQ d false).1.length = 0 ∧ setF l = 0 then some l else none
theorem setQ_short : ∀ (k : Nat) (d : List Int) (s : Bool), setO k d s = none → (setQ k d s).2 = true
  | 0, d, s, h => by simp [setO] at h
  | k + 1, d, s, h => by
    rw [setO] at h
    rw [setQ]
    split
    · rfl
    · rename_i hc
      rw [if_neg hc] at h
      refine setQ_short k _ _ ?_
      cases e : setO k (eD d s).2.1 (eD d s).2.2 with
      | none => rfl
      | some r => rw [e] at h; cases h
theorem setO_rows : ∀ (k : Nat) (d : List Int) (s : Bool) (l : List EntryV), inB d → setO k d s = some l → ∀ e ∈ l, e.row.length ≤ 255
  | 0, d, s, l, _, h => by simp [setO] at h; subst h; simp
  | k + 1, d, s, l, hd, h => by
    rw [setO] at h
    split at h
    · cases h
    · cases e : setO k (eD d s).2.1 (eD d s).2.2 with
      | none => rw [e] at h; cases h
      | some r =>
        rw [e] at h
        simp only [Option.map_some, Option.some.injEq] at h
        subst h
        intro x hx
        rcases List.mem_cons.1 hx with rfl | hx
        · show (rowV _ _ _).length ≤ 255
          rw [rowV_len]
          have := nxB_in (s := s) hd
          omega
        · exact setO_rows k _ _ r (eD_in hd) e x hx
theorem unP_rows {d : List Int} {l : List EntryV} (hd : inB d) (h : unP d false = some l) : ∀ e ∈ l, e.row.length < 4611686018427387904 := fun e he => by
  have := setO_rows _ _ _ _ (nxB_in (s := false) hd).1 h e he
  omega

def an62 : An (List Int × Unit) where
  pre t := t.1.all fun b => decide (0 ≤ b ∧ b ≤ 255)
  b _ t := decide (6000 < t.1.length) || (specE t.1).isNone
  i _ t := if 6000 < t.1.length then 2 else 5
  l _ t := mapE tEntry_own (getE (specE t.1))
noncomputable def en62 : En := mkE (parsC (pL tU8) pars0) an62
def sh62 : Shp := fun I i b l s => .ask (b 0) fun t => match t with | true => .ok (.ag [.pv (.sc (.int .i64 (i 0))), .pv .nl], [], 0) | false => .ok (.ag [.pv (.sc (.int .i64 0)), .arr 0 0 (I.len (l 0))], [(0, .row 2 (l 0))], 1)
theorem ent62 : Enters Try.prog 62 := ⟨Try.f62, Try.func62, by kernel_rfl, by kernel_rfl⟩

theorem okA62 (d : List Int) (hd : inB d) (hl : 6000 < d.length) : Ok0 Try.prog 62 [(pL tU8).enc d] (.ag [.pv (.sc (.int .i64 (2))), .pv .nl]) [] 0 := by
  obtain ⟨I, hI⟩ : ∃ I, I = real := ⟨_, rfl⟩; obtain ⟨K, hK⟩ : ∃ K : FuncId → En, K = fun g => (lk g [(139, en139)]).getD default := ⟨_, rfl⟩; have k139 : K 139 = en139 := (by subst hK; rfl); clear hK
  have h2 : True := trivial
  have hn : True := trivial
  obtain ⟨es, hes⟩ : ∃ es, es = tU8.encs d := ⟨_, rfl⟩
  show Ok0 Try.prog 62 [.one (.pv (.sl false 1 (tU8.encs d)))] _ _ _
  rw [← hes]
  refine Ok0_run (Y := (Tab.calls [(139, false, callVw I (callE I (K 139) sh139))])) xok (TabOk.calls mixed ⟨EntryOk.vw (s139 hI k139) hI, notQuiet, trivial⟩) Try.func62 rfl rfl rfl 2000 hI fun w Xs => ?_; (conv => arg 4; cbv)
  repeat' (first | ((with_reducible refine on_eqs ?_ ?_); (focus (with_reducible rfl)); conv => arg 4; cbv) | (with_reducible refine on_both ?_ ?_ <;> (conv => arg 4; cbv)) | (with_reducible refine on_true (by assumption) ?_; conv => arg 4; cbv) | (with_reducible refine on_false (by assumption) ?_; conv => arg 4; cbv) | (with_reducible refine on_ask (fun g => ?_) (fun g => ?_) <;> (have h := g) <;> (try simp (disch := omega) [hI, k139, en139, an139, hes, h2, hn, getE, -List.length_eq_zero_iff] at h) <;> (try (exfalso; omega)) <;> (conv => arg 4; cbv)) | ((with_reducible refine on_must ?_ ?_); (focus (first | (simp (disch := omega) [hI, k139, en139, an139, hes, h2, hn, getE]; done) | (simp (disch := omega) [hI, k139, en139, an139, hes, h2, hn, getE]; omega) | (simp (disch := omega) [hI, k139, en139, an139, hes, h2, hn, getE]; assumption) | (simp (disch := omega) [hI, k139, en139, an139, hes, h2, hn, getE]; (refine And.intro ?_ ?_) <;> (first | omega | assumption)))); conv => arg 4; cbv))
  (with_reducible refine on_ret ?_); refine Ended_of rfl ?_; (conv => lhs; cbv)
  try rfl
theorem okB62 (d : List Int) (hd : inB d) (hl : d.length ≤ 6000) (hz : specE d = none) : Ok0 Try.prog 62 [(pL tU8).enc d] (.ag [.pv (.sc (.int .i64 (5))), .pv .nl]) [] 0 := by
  obtain ⟨I, hI⟩ : ∃ I, I = real := ⟨_, rfl⟩; obtain ⟨K, hK⟩ : ∃ K : FuncId → En, K = fun g => (lk g [(139, en139)]).getD default := ⟨_, rfl⟩; have k139 : K 139 = en139 := (by subst hK; rfl); clear hK
  obtain ⟨es, hes⟩ : ∃ es, es = tU8.encs d := ⟨_, rfl⟩
  show Ok0 Try.prog 62 [.one (.pv (.sl false 1 (tU8.encs d)))] _ _ _
  rw [← hes]
  have h2 : unU d = none ∨ ∃ l, unU d = some l ∧ unUok d = false := by
    unfold specE at hz
    split at hz
    · rename_i h; exact .inl h
    · rename_i l h
      split at hz
      · cases hz
      · rename_i hn
        refine .inr ⟨l, h, ?_⟩
        unfold unUok
        rw [h, show getE (some l) = l from rfl, ← Bool.not_eq_true, Bool.and_eq_true, decide_eq_true_eq, decide_eq_true_eq]
        exact hn
  rcases h2 with h2 | ⟨l, h2, hn⟩
  · have hn : True := trivial
    refine Ok0_run (Y := (Tab.calls [(139, false, callVw I (callE I (K 139) sh139))])) xok (TabOk.calls mixed ⟨EntryOk.vw (s139 hI k139) hI, notQuiet, trivial⟩) Try.func62 rfl rfl rfl 2000 hI fun w Xs => ?_; (conv => arg 4; cbv)
    repeat' (first | ((with_reducible refine on_eqs ?_ ?_); (focus (with_reducible rfl)); conv => arg 4; cbv) | (with_reducible refine on_both ?_ ?_ <;> (conv => arg 4; cbv)) | (with_reducible refine on_true (by assumption) ?_; conv => arg 4; cbv) | (with_reducible refine on_false (by assumption) ?_; conv => arg 4; cbv) | (with_reducible refine on_ask (fun g => ?_) (fun g => ?_) <;> (have h := g) <;> (try simp (disch := omega) [hI, k139, en139, an139, hes, h2, hn, getE, -List.length_eq_zero_iff] at h) <;> (try (exfalso; omega)) <;> (conv => arg 4; cbv)) | ((with_reducible refine on_must ?_ ?_); (focus (first | (simp (disch := omega) [hI, k139, en139, an139, hes, h2, hn, getE]; done) | (simp (disch := omega) [hI, k139, en139, an139, hes, h2, hn, getE]; omega) | (simp (disch := omega) [hI, k139, en139, an139, hes, h2, hn, getE]; assumption) | (simp (disch := omega) [hI, k139, en139, an139, hes, h2, hn, getE]; (refine And.intro ?_ ?_) <;> (first | omega | assumption)))); conv => arg 4; cbv))
    all_goals first | ((with_reducible refine on_ret ?_); refine Ended_of rfl ?_; (conv => lhs; cbv); done) | ((with_reducible refine on_ret ?_); refine Ended_of rfl ?_; (conv => lhs; cbv); rfl)
  · refine Ok0_run (Y := (Tab.calls [(139, false, callVw I (callE I (K 139) sh139))])) xok (TabOk.calls mixed ⟨EntryOk.vw (s139 hI k139) hI, notQuiet, trivial⟩) Try.func62 rfl rfl rfl 2000 hI fun w Xs => ?_; (conv => arg 4; cbv)
    repeat' (first | ((with_reducible refine on_eqs ?_ ?_); (focus (with_reducible rfl)); conv => arg 4; cbv) | (with_reducible refine on_both ?_ ?_ <;> (conv => arg 4; cbv)) | (with_reducible refine on_true (by assumption) ?_; conv => arg 4; cbv) | (with_reducible refine on_false (by assumption) ?_; conv => arg 4; cbv) | (with_reducible refine on_ask (fun g => ?_) (fun g => ?_) <;> (have h := g) <;> (try simp (disch := omega) [hI, k139, en139, an139, hes, h2, hn, getE, -List.length_eq_zero_iff] at h) <;> (try (exfalso; omega)) <;> (conv => arg 4; cbv)) | ((with_reducible refine on_must ?_ ?_); (focus (first | (simp (disch := omega) [hI, k139, en139, an139, hes, h2, hn, getE]; done) | (simp (disch := omega) [hI, k139, en139, an139, hes, h2, hn, getE]; omega) | (simp (disch := omega) [hI, k139, en139, an139, hes, h2, hn, getE]; assumption) | (simp (disch := omega) [hI, k139, en139, an139, hes, h2, hn, getE]; (refine And.intro ?_ ?_) <;> (first | omega | assumption)))); conv => arg 4; cbv))
    all_goals first | ((with_reducible refine on_ret ?_); refine Ended_of rfl ?_; (conv => lhs; cbv); done) | ((with_reducible refine on_ret ?_); refine Ended_of rfl ?_; (conv => lhs; cbv); rfl)
theorem okC62 (d : List Int) (hd : inB d) (hl : d.length ≤ 6000) (fin : List EntryV) (hz : specE d = some fin) : Ok0 Try.prog 62 [(pL tU8).enc d] (.ag [.pv (.sc (.int .i64 0)), .arr 0 0 fin.length]) [(0, .row 2 (mapE tEntry_own fin))] 1 := by
  obtain ⟨I, hI⟩ : ∃ I, I = real := ⟨_, rfl⟩; obtain ⟨K, hK⟩ : ∃ K : FuncId → En, K = fun g => (lk g [(139, en139)]).getD default := ⟨_, rfl⟩; have k139 : K 139 = en139 := (by subst hK; rfl); clear hK
  obtain ⟨es, hes⟩ : ∃ es, es = tU8.encs d := ⟨_, rfl⟩
  show Ok0 Try.prog 62 [.one (.pv (.sl false 1 (tU8.encs d)))] _ _ _
  rw [← hes]
  have h2 : unU d = some fin ∧ unUok d = true := by
    unfold specE at hz
    split at hz
    · cases hz
    · rename_i l h
      split at hz
      · rename_i hn
        cases hz
        refine ⟨h, ?_⟩
        unfold unUok
        rw [h, show getE (some fin) = fin from rfl, Bool.and_eq_true, decide_eq_true_eq, decide_eq_true_eq]
        exact hn
      · cases hz
  obtain ⟨h2, hn⟩ := h2
  refine Ok0_run (Y := (Tab.calls [(139, false, callVw I (callE I (K 139) sh139))])) xok (TabOk.calls mixed ⟨EntryOk.vw (s139 hI k139) hI, notQuiet, trivial⟩) Try.func62 rfl rfl rfl 2000 hI fun w Xs => ?_; (conv => arg 4; cbv)
  repeat' (first | ((with_reducible refine on_eqs ?_ ?_); (focus (with_reducible rfl)); conv => arg 4; cbv) | (with_reducible refine on_both ?_ ?_ <;> (conv => arg 4; cbv)) | (with_reducible refine on_true (by assumption) ?_; conv => arg 4; cbv) | (with_reducible refine on_false (by assumption) ?_; conv => arg 4; cbv) | (with_reducible refine on_ask (fun g => ?_) (fun g => ?_) <;> (have h := g) <;> (try simp (disch := omega) [hI, k139, en139, an139, hes, h2, hn, getE, -List.length_eq_zero_iff] at h) <;> (try (exfalso; omega)) <;> (conv => arg 4; cbv)) | ((with_reducible refine on_must ?_ ?_); (focus (first | (simp (disch := omega) [hI, k139, en139, an139, hes, h2, hn, getE]; done) | (simp (disch := omega) [hI, k139, en139, an139, hes, h2, hn, getE]; omega) | (simp (disch := omega) [hI, k139, en139, an139, hes, h2, hn, getE]; assumption) | (simp (disch := omega) [hI, k139, en139, an139, hes, h2, hn, getE]; (refine And.intro ?_ ?_) <;> (first | omega | assumption)))); conv => arg 4; cbv))
  (with_reducible refine on_ret ?_); refine Ended_of rfl ?_; (conv => lhs; cbv)
  try (simp (disch := omega) [hI, k139, en139, an139, hes, h2, hn, getE])

theorem s62 {I : Ops} (hI : I = real) {e : En} (he : e = en62) : Sound Try.prog 62 (callE I e sh62) := by
  refine Sound.mkR ent62 hI ?_ he
  rintro ⟨d, ⟨⟩⟩ hp r σ n e
  
  have hp : (d.all fun b => decide (0 ≤ b ∧ b ≤ 255)) = true := hp
  simp only [List.all_eq_true, decide_eq_true_eq] at hp
  by_cases hl : 6000 < d.length
  · have e : (R.ok (.ag [.pv (.sc (.int .i64 2)), .pv .nl], [], 0) : R (AV × Store × Nat)).val = some (r, σ, n) := by
      rw [← e]
      simp [sh62, an62, hl, val_ask]
    cases e
    exact okA62 d hp hl
  · cases hz : specE d with
    | none =>
      have e : (R.ok (.ag [.pv (.sc (.int .i64 5)), .pv .nl], [], 0) : R (AV × Store × Nat)).val = some (r, σ, n) := by
        rw [← e]
        simp [sh62, an62, hz, hl, val_ask]
      cases e
      exact okB62 d hp (by omega) hz
    | some fin =>
      have e : (R.ok (.ag [.pv (.sc (.int .i64 0)), .arr 0 0 fin.length], [(0, .row 2 (mapE tEntry_own fin))], 1) : R (AV × Store × Nat)).val = some (r, σ, n) := by
        rw [← e]
        simp [sh62, an62, hz, hl, val_ask, getE, mapE_length]
      cases e
      exact okC62 d hp (by omega) fin hz
def an63 : An (List Int × Unit) where
  pre t := t.1.all fun b => decide (0 ≤ b ∧ b ≤ 255)
  b _ t := decide (6000 < t.1.length) || (implE t.1).isNone
  i _ t := if 6000 < t.1.length then 2 else 5
  l _ t := mapE tEntry_own (getE (implE t.1))
noncomputable def en63 : En := mkE (parsC (pL tU8) pars0) an63
def sh63 : Shp := fun I i b l s => .ask (b 0) fun t => match t with | true => .ok (.ag [.pv (.sc (.int .i64 (i 0))), .pv .nl], [], 0) | false => .ok (.ag [.pv (.sc (.int .i64 0)), .arr 0 0 (I.len (l 0))], [(0, .row 2 (l 0))], 1)
theorem ent63 : Enters Try.prog 63 := ⟨Try.f63, Try.func63, by kernel_rfl, by kernel_rfl⟩

theorem okA63 (d : List Int) (hd : inB d) (hl : 6000 < d.length) : Ok0 Try.prog 63 [(pL tU8).enc d] (.ag [.pv (.sc (.int .i64 (2))), .pv .nl]) [] 0 := by
  obtain ⟨I, hI⟩ : ∃ I, I = real := ⟨_, rfl⟩; obtain ⟨K, hK⟩ : ∃ K : FuncId → En, K = fun g => (lk g [(118, en118), (140, en140)]).getD default := ⟨_, rfl⟩; have k118 : K 118 = en118 := (by subst hK; rfl); have k140 : K 140 = en140 := (by subst hK; rfl); clear hK
  have h2 : True := trivial
  have h3 : True := trivial
  have h4 : True := trivial
  have h5 : True := trivial
  obtain ⟨es, hes⟩ : ∃ es, es = tU8.encs d := ⟨_, rfl⟩
  show Ok0 Try.prog 63 [.one (.pv (.sl false 1 (tU8.encs d)))] _ _ _
  rw [← hes]
  refine Ok0_run (Y := (Tab.calls [(118, true, callRd I (callE I (K 118) sh118)), (134, false, callRef I (inlR X I (Tab.calls []) Try.f134)), (140, false, callRef I (boxE I (K 140) sh140))])) xok (TabOk.calls mixed ⟨EntryOk.rd (s118 hI k118) hI, fun _ => callRd_quiet _ _, ⟨EntryOk.ref (s134 hI) hI, notQuiet, ⟨EntryOk.ref (s140 hI k140) hI, notQuiet, trivial⟩⟩⟩) Try.func63 rfl rfl rfl 2000 hI fun w Xs => ?_; (conv => arg 4; cbv)
  repeat' (first | ((with_reducible refine on_eqs ?_ ?_); (focus (with_reducible rfl)); conv => arg 4; cbv) | (with_reducible refine on_both ?_ ?_ <;> (conv => arg 4; cbv)) | (with_reducible refine on_true (by assumption) ?_; conv => arg 4; cbv) | (with_reducible refine on_false (by assumption) ?_; conv => arg 4; cbv) | (with_reducible refine on_ask (fun g => ?_) (fun g => ?_) <;> (have h := g) <;> (try simp (disch := omega) [hI, k118, en118, an118, k140, en140, an140, hes, h2, h3, h4, h5, getE, -List.length_eq_zero_iff] at h) <;> (try (exfalso; omega)) <;> (conv => arg 4; cbv)) | ((with_reducible refine on_must ?_ ?_); (focus (first | (simp (disch := omega) [hI, k118, en118, an118, k140, en140, an140, hes, h2, h3, h4, h5, getE]; done) | (simp (disch := omega) [hI, k118, en118, an118, k140, en140, an140, hes, h2, h3, h4, h5, getE]; omega) | (simp (disch := omega) [hI, k118, en118, an118, k140, en140, an140, hes, h2, h3, h4, h5, getE]; assumption) | (simp (disch := omega) [hI, k118, en118, an118, k140, en140, an140, hes, h2, h3, h4, h5, getE]; (refine And.intro ?_ ?_) <;> (first | omega | assumption)))); conv => arg 4; cbv))
  (with_reducible refine on_ret ?_); refine Ended_of rfl ?_; (conv => lhs; cbv)
  try rfl
theorem okB63 (d : List Int) (hd : inB d) (hl : d.length ≤ 6000) (hz : implE d = none) : Ok0 Try.prog 63 [(pL tU8).enc d] (.ag [.pv (.sc (.int .i64 (5))), .pv .nl]) [] 0 := by
  obtain ⟨I, hI⟩ : ∃ I, I = real := ⟨_, rfl⟩; obtain ⟨K, hK⟩ : ∃ K : FuncId → En, K = fun g => (lk g [(118, en118), (140, en140)]).getD default := ⟨_, rfl⟩; have k118 : K 118 = en118 := (by subst hK; rfl); have k140 : K 140 = en140 := (by subst hK; rfl); clear hK
  obtain ⟨es, hes⟩ : ∃ es, es = tU8.encs d := ⟨_, rfl⟩
  show Ok0 Try.prog 63 [.one (.pv (.sl false 1 (tU8.encs d)))] _ _ _
  rw [← hes]
  have h2 : unP d false = none ∨ ∃ l, unP d false = some l ∧ ¬ ((unQ d false).2 = false ∧ (unQ d false).1.length = 0 ∧ setF l = 0) := by
    unfold implE at hz
    split at hz
    · rename_i h; exact .inl h
    · rename_i l h
      split at hz
      · cases hz
      · rename_i hn; exact .inr ⟨l, h, hn⟩
  rcases h2 with h2 | ⟨l, h2, hn⟩
  · have h3 : (unQ d false).2 = true := setQ_short _ _ _ h2
    have h4 : True := trivial
    have h5 : True := trivial
    refine Ok0_run (Y := (Tab.calls [(118, true, callRd I (callE I (K 118) sh118)), (134, false, callRef I (inlR X I (Tab.calls []) Try.f134)), (140, false, callRef I (boxE I (K 140) sh140))])) xok (TabOk.calls mixed ⟨EntryOk.rd (s118 hI k118) hI, fun _ => callRd_quiet _ _, ⟨EntryOk.ref (s134 hI) hI, notQuiet, ⟨EntryOk.ref (s140 hI k140) hI, notQuiet, trivial⟩⟩⟩) Try.func63 rfl rfl rfl 2000 hI fun w Xs => ?_; (conv => arg 4; cbv)
    repeat' (first | ((with_reducible refine on_eqs ?_ ?_); (focus (with_reducible rfl)); conv => arg 4; cbv) | (with_reducible refine on_both ?_ ?_ <;> (conv => arg 4; cbv)) | (with_reducible refine on_true (by assumption) ?_; conv => arg 4; cbv) | (with_reducible refine on_false (by assumption) ?_; conv => arg 4; cbv) | (with_reducible refine on_ask (fun g => ?_) (fun g => ?_) <;> (have h := g) <;> (try simp (disch := omega) [hI, k118, en118, an118, k140, en140, an140, hes, h2, h3, h4, h5, getE, -List.length_eq_zero_iff] at h) <;> (try (exfalso; omega)) <;> (conv => arg 4; cbv)) | ((with_reducible refine on_must ?_ ?_); (focus (first | (simp (disch := omega) [hI, k118, en118, an118, k140, en140, an140, hes, h2, h3, h4, h5, getE]; done) | (simp (disch := omega) [hI, k118, en118, an118, k140, en140, an140, hes, h2, h3, h4, h5, getE]; omega) | (simp (disch := omega) [hI, k118, en118, an118, k140, en140, an140, hes, h2, h3, h4, h5, getE]; assumption) | (simp (disch := omega) [hI, k118, en118, an118, k140, en140, an140, hes, h2, h3, h4, h5, getE]; (refine And.intro ?_ ?_) <;> (first | omega | assumption)))); conv => arg 4; cbv))
    all_goals first | ((with_reducible refine on_ret ?_); refine Ended_of rfl ?_; (conv => lhs; cbv); done) | ((with_reducible refine on_ret ?_); refine Ended_of rfl ?_; (conv => lhs; cbv); rfl)
  · have hrw := unP_rows hd h2
    cases h3 : (unQ d false).2 with
    | true =>
      have h4 : True := trivial
      have h5 : True := trivial
      refine Ok0_run (Y := (Tab.calls [(118, true, callRd I (callE I (K 118) sh118)), (134, false, callRef I (inlR X I (Tab.calls []) Try.f134)), (140, false, callRef I (boxE I (K 140) sh140))])) xok (TabOk.calls mixed ⟨EntryOk.rd (s118 hI k118) hI, fun _ => callRd_quiet _ _, ⟨EntryOk.ref (s134 hI) hI, notQuiet, ⟨EntryOk.ref (s140 hI k140) hI, notQuiet, trivial⟩⟩⟩) Try.func63 rfl rfl rfl 2000 hI fun w Xs => ?_; (conv => arg 4; cbv)
      repeat' (first | ((with_reducible refine on_eqs ?_ ?_); (focus (with_reducible rfl)); conv => arg 4; cbv) | (with_reducible refine on_both ?_ ?_ <;> (conv => arg 4; cbv)) | (with_reducible refine on_true (by assumption) ?_; conv => arg 4; cbv) | (with_reducible refine on_false (by assumption) ?_; conv => arg 4; cbv) | (with_reducible refine on_ask (fun g => ?_) (fun g => ?_) <;> (have h := g) <;> (try simp (disch := omega) [hI, k118, en118, an118, k140, en140, an140, hes, h2, h3, h4, h5, getE, -List.length_eq_zero_iff] at h) <;> (try (exfalso; omega)) <;> (conv => arg 4; cbv)) | ((with_reducible refine on_must ?_ ?_); (focus (first | (simp (disch := omega) [hI, k118, en118, an118, k140, en140, an140, hes, h2, h3, h4, h5, getE]; done) | (simp (disch := omega) [hI, k118, en118, an118, k140, en140, an140, hes, h2, h3, h4, h5, getE]; omega) | (simp (disch := omega) [hI, k118, en118, an118, k140, en140, an140, hes, h2, h3, h4, h5, getE]; assumption) | (simp (disch := omega) [hI, k118, en118, an118, k140, en140, an140, hes, h2, h3, h4, h5, getE]; (refine And.intro ?_ ?_) <;> (first | omega | assumption)))); conv => arg 4; cbv))
      all_goals first | ((with_reducible refine on_ret ?_); refine Ended_of rfl ?_; (conv => lhs; cbv); done) | ((with_reducible refine on_ret ?_); refine Ended_of rfl ?_; (conv => lhs; cbv); rfl)
    | false =>
      by_cases h4 : (unQ d false).1.length = 0
      · have h5 : ¬ setF l = 0 := fun h => hn ⟨h3, h4, h⟩
        refine Ok0_run (Y := (Tab.calls [(118, true, callRd I (callE I (K 118) sh118)), (134, false, callRef I (inlR X I (Tab.calls []) Try.f134)), (140, false, callRef I (boxE I (K 140) sh140))])) xok (TabOk.calls mixed ⟨EntryOk.rd (s118 hI k118) hI, fun _ => callRd_quiet _ _, ⟨EntryOk.ref (s134 hI) hI, notQuiet, ⟨EntryOk.ref (s140 hI k140) hI, notQuiet, trivial⟩⟩⟩) Try.func63 rfl rfl rfl 2000 hI fun w Xs => ?_; (conv => arg 4; cbv)
        repeat' (first | ((with_reducible refine on_eqs ?_ ?_); (focus (with_reducible rfl)); conv => arg 4; cbv) | (with_reducible refine on_both ?_ ?_ <;> (conv => arg 4; cbv)) | (with_reducible refine on_true (by assumption) ?_; conv => arg 4; cbv) | (with_reducible refine on_false (by assumption) ?_; conv => arg 4; cbv) | (with_reducible refine on_ask (fun g => ?_) (fun g => ?_) <;> (have h := g) <;> (try simp (disch := omega) [hI, k118, en118, an118, k140, en140, an140, hes, h2, h3, h4, h5, getE, -List.length_eq_zero_iff] at h) <;> (try (exfalso; omega)) <;> (conv => arg 4; cbv)) | ((with_reducible refine on_must ?_ ?_); (focus (first | (simp (disch := omega) [hI, k118, en118, an118, k140, en140, an140, hes, h2, h3, h4, h5, getE]; done) | (simp (disch := omega) [hI, k118, en118, an118, k140, en140, an140, hes, h2, h3, h4, h5, getE]; omega) | (simp (disch := omega) [hI, k118, en118, an118, k140, en140, an140, hes, h2, h3, h4, h5, getE]; assumption) | (simp (disch := omega) [hI, k118, en118, an118, k140, en140, an140, hes, h2, h3, h4, h5, getE]; (refine And.intro ?_ ?_) <;> (first | omega | assumption)))); conv => arg 4; cbv))
        all_goals first | ((with_reducible refine on_ret ?_); refine Ended_of rfl ?_; (conv => lhs; cbv); done) | ((with_reducible refine on_ret ?_); refine Ended_of rfl ?_; (conv => lhs; cbv); rfl)
      · have h5 : True := trivial
        refine Ok0_run (Y := (Tab.calls [(118, true, callRd I (callE I (K 118) sh118)), (134, false, callRef I (inlR X I (Tab.calls []) Try.f134)), (140, false, callRef I (boxE I (K 140) sh140))])) xok (TabOk.calls mixed ⟨EntryOk.rd (s118 hI k118) hI, fun _ => callRd_quiet _ _, ⟨EntryOk.ref (s134 hI) hI, notQuiet, ⟨EntryOk.ref (s140 hI k140) hI, notQuiet, trivial⟩⟩⟩) Try.func63 rfl rfl rfl 2000 hI fun w Xs => ?_; (conv => arg 4; cbv)
        repeat' (first | ((with_reducible refine on_eqs ?_ ?_); (focus (with_reducible rfl)); conv => arg 4; cbv) | (with_reducible refine on_both ?_ ?_ <;> (conv => arg 4; cbv)) | (with_reducible refine on_true (by assumption) ?_; conv => arg 4; cbv) | (with_reducible refine on_false (by assumption) ?_; conv => arg 4; cbv) | (with_reducible refine on_ask (fun g => ?_) (fun g => ?_) <;> (have h := g) <;> (try simp (disch := omega) [hI, k118, en118, an118, k140, en140, an140, hes, h2, h3, h4, h5, getE, -List.length_eq_zero_iff] at h) <;> (try (exfalso; omega)) <;> (conv => arg 4; cbv)) | ((with_reducible refine on_must ?_ ?_); (focus (first | (simp (disch := omega) [hI, k118, en118, an118, k140, en140, an140, hes, h2, h3, h4, h5, getE]; done) | (simp (disch := omega) [hI, k118, en118, an118, k140, en140, an140, hes, h2, h3, h4, h5, getE]; omega) | (simp (disch := omega) [hI, k118, en118, an118, k140, en140, an140, hes, h2, h3, h4, h5, getE]; assumption) | (simp (disch := omega) [hI, k118, en118, an118, k140, en140, an140, hes, h2, h3, h4, h5, getE]; (refine And.intro ?_ ?_) <;> (first | omega | assumption)))); conv => arg 4; cbv))
        all_goals first | ((with_reducible refine on_ret ?_); refine Ended_of rfl ?_; (conv => lhs; cbv); done) | ((with_reducible refine on_ret ?_); refine Ended_of rfl ?_; (conv => lhs; cbv); rfl)
theorem okC63 (d : List Int) (hd : inB d) (hl : d.length ≤ 6000) (fin : List EntryV) (hz : implE d = some fin) : Ok0 Try.prog 63 [(pL tU8).enc d] (.ag [.pv (.sc (.int .i64 0)), .arr 0 0 fin.length]) [(0, .row 2 (mapE tEntry_own fin))] 1 := by
  obtain ⟨I, hI⟩ : ∃ I, I = real := ⟨_, rfl⟩; obtain ⟨K, hK⟩ : ∃ K : FuncId → En, K = fun g => (lk g [(118, en118), (140, en140)]).getD default := ⟨_, rfl⟩; have k118 : K 118 = en118 := (by subst hK; rfl); have k140 : K 140 = en140 := (by subst hK; rfl); clear hK
  obtain ⟨es, hes⟩ : ∃ es, es = tU8.encs d := ⟨_, rfl⟩
  show Ok0 Try.prog 63 [.one (.pv (.sl false 1 (tU8.encs d)))] _ _ _
  rw [← hes]
  have h2 : unP d false = some fin ∧ (unQ d false).2 = false ∧ (unQ d false).1.length = 0 ∧ setF fin = 0 := by
    unfold implE at hz
    split at hz
    · cases hz
    · rename_i l h
      split at hz
      · rename_i hn; cases hz; exact ⟨h, hn⟩
      · cases hz
  obtain ⟨h2, h3, h4, h5⟩ := h2
  have hrw := unP_rows hd h2
  refine Ok0_run (Y := (Tab.calls [(118, true, callRd I (callE I (K 118) sh118)), (134, false, callRef I (inlR X I (Tab.calls []) Try.f134)), (140, false, callRef I (boxE I (K 140) sh140))])) xok (TabOk.calls mixed ⟨EntryOk.rd (s118 hI k118) hI, fun _ => callRd_quiet _ _, ⟨EntryOk.ref (s134 hI) hI, notQuiet, ⟨EntryOk.ref (s140 hI k140) hI, notQuiet, trivial⟩⟩⟩) Try.func63 rfl rfl rfl 2000 hI fun w Xs => ?_; (conv => arg 4; cbv)
  repeat' (first | ((with_reducible refine on_eqs ?_ ?_); (focus (with_reducible rfl)); conv => arg 4; cbv) | (with_reducible refine on_both ?_ ?_ <;> (conv => arg 4; cbv)) | (with_reducible refine on_true (by assumption) ?_; conv => arg 4; cbv) | (with_reducible refine on_false (by assumption) ?_; conv => arg 4; cbv) | (with_reducible refine on_ask (fun g => ?_) (fun g => ?_) <;> (have h := g) <;> (try simp (disch := omega) [hI, k118, en118, an118, k140, en140, an140, hes, h2, h3, h4, h5, getE, -List.length_eq_zero_iff] at h) <;> (try (exfalso; omega)) <;> (conv => arg 4; cbv)) | ((with_reducible refine on_must ?_ ?_); (focus (first | (simp (disch := omega) [hI, k118, en118, an118, k140, en140, an140, hes, h2, h3, h4, h5, getE]; done) | (simp (disch := omega) [hI, k118, en118, an118, k140, en140, an140, hes, h2, h3, h4, h5, getE]; omega) | (simp (disch := omega) [hI, k118, en118, an118, k140, en140, an140, hes, h2, h3, h4, h5, getE]; assumption) | (simp (disch := omega) [hI, k118, en118, an118, k140, en140, an140, hes, h2, h3, h4, h5, getE]; (refine And.intro ?_ ?_) <;> (first | omega | assumption)))); conv => arg 4; cbv))
  (with_reducible refine on_ret ?_); refine Ended_of rfl ?_; (conv => lhs; cbv)
  try (simp (disch := omega) [hI, k118, en118, an118, k140, en140, an140, hes, h2, h3, h4, h5, getE])

theorem s63 {I : Ops} (hI : I = real) {e : En} (he : e = en63) : Sound Try.prog 63 (callE I e sh63) := by
  refine Sound.mkR ent63 hI ?_ he
  rintro ⟨d, ⟨⟩⟩ hp r σ n e
  
  have hp : (d.all fun b => decide (0 ≤ b ∧ b ≤ 255)) = true := hp
  simp only [List.all_eq_true, decide_eq_true_eq] at hp
  by_cases hl : 6000 < d.length
  · have e : (R.ok (.ag [.pv (.sc (.int .i64 2)), .pv .nl], [], 0) : R (AV × Store × Nat)).val = some (r, σ, n) := by
      rw [← e]
      simp [sh63, an63, hl, val_ask]
    cases e
    exact okA63 d hp hl
  · cases hz : implE d with
    | none =>
      have e : (R.ok (.ag [.pv (.sc (.int .i64 5)), .pv .nl], [], 0) : R (AV × Store × Nat)).val = some (r, σ, n) := by
        rw [← e]
        simp [sh63, an63, hz, hl, val_ask]
      cases e
      exact okB63 d hp (by omega) hz
    | some fin =>
      have e : (R.ok (.ag [.pv (.sc (.int .i64 0)), .arr 0 0 fin.length], [(0, .row 2 (mapE tEntry_own fin))], 1) : R (AV × Store × Nat)).val = some (r, σ, n) := by
        rw [← e]
        simp [sh63, an63, hz, hl, val_ask, getE, mapE_length]
      cases e
      exact okC63 d hp (by omega) fin hz
end Go.Proofs.Try
