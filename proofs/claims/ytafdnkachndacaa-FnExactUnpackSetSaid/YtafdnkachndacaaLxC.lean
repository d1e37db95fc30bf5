/- Contracts. -/
import Derived.Test.YtafdnkachndacaaLxA
import Derived.Test.YtafdnkachndacaaLxB
set_option linter.unusedSimpArgs false
set_option linter.unusedVariables false
namespace Go.Proofs.Try
open Go Go.Aix
set_option maxRecDepth 100000
set_option maxHeartbeats 4000000
set_option linter.unusedSimpArgs false
set_option linter.unusedVariables false
theorem mkEnt_rows : ∀ (l : List EntryV) (k : Int), (∀ e ∈ l, e.row.length ≤ 4) → ∀ e ∈ (mkS fEnt l k).1, e.row.length ≤ 4
  | [], k, _, e, h => by simp [mkS] at h
  | x :: r, k, hl, e, h => by
    rw [mkS] at h
    rcases List.mem_cons.1 h with rfl | h
    · show (mkS fI64 x.row k).1.length ≤ 4
      rw [mkS_len]
      exact hl _ List.mem_cons_self
    · exact mkEnt_rows r _ (fun e he => hl e (List.mem_cons_of_mem _ he)) e h
theorem hd_mkEnt : ∀ (l : List EntryV) (k : Int), 0 ≤ k → (∀ e ∈ l, e.row.length ≤ 4) → k + l.length * 5 < 4611686018427387904 → hdS hEnt (mkS fEnt l k).1 k = (mkS fEnt l k).2 ∧ 0 ≤ (mkS fEnt l k).2
  | [], k, h0, _, _ => ⟨rfl, h0⟩
  | e :: r, k, h0, hl, h1 => by
    have h4 := hl e List.mem_cons_self
    simp only [List.length_cons] at h1
    have hm : (mkS fI64 e.row k).2 = k + e.row.length := mkI_n e.row k h0 (by omega)
    have hn : nx1 (mkS fI64 e.row k).2 = k + e.row.length + 1 := by rw [hm, nx1_id (by omega) (by omega)]
    have ih := hd_mkEnt r (k + e.row.length + 1) (by omega) (fun e he => hl e (List.mem_cons_of_mem _ he)) (by omega)
    have e1 : (mkS fEnt (e :: r) k).1 = (fEnt e k).1 :: (mkS fEnt r (fEnt e k).2).1 := rfl
    have e2 : (mkS fEnt (e :: r) k).2 = (mkS fEnt r (fEnt e k).2).2 := rfl
    have e3 : (fEnt e k).2 = k + e.row.length + 1 := hn
    have e4 : hEnt (fEnt e k).1 k = some (k + e.row.length + 1) := by
      unfold hEnt
      have q1 : (fEnt e k).1.row = (mkS fI64 e.row k).1 := rfl
      have q2 : (fEnt e k).1.weight = (mkS fI64 e.row k).2 := rfl
      rw [q1, q2, hd_mkI64, if_neg (by rw [hm]; omega), if_pos rfl, hn]
    rw [e1, e2, hdS, e3, e4]
    exact ih


theorem tE_own (l : List EntryV) : mapE tEntry.own l = mapE tEntry_own l := rfl
theorem law10 (l : List Int) (g0 : gL inU8 l) : Ok0 Try.prog 10 [(pL tU8).enc l] (scal (.bool true)) [] 0 := by
  have b0 : l.length ≤ 9223372036854775807 := g0.1
  have hd : ∀ x ∈ l, 0 ≤ x ∧ x ≤ 255 := fun x hx => g0.2 x hx
  have hO : implE l = specE l := E_eq l hd
  have hO2 : ∀ x, specE l = some x → x.length ≤ 200 ∧ ∀ e ∈ x, e.row.length ≤ 4 := by
    intro x hx
    unfold specE at hx
    split at hx
    · cases hx
    · split at hx
      · rename_i h; cases hx; exact setF_ok h.2
      · cases hx
  obtain ⟨I, hI⟩ : ∃ I, I = real := ⟨_, rfl⟩; obtain ⟨K, hK⟩ : ∃ K : FuncId → En, K = fun g => (lk g [(53, en53), (56, en56), (57, en57), (62, en62), (63, en63), (30, en30), (40, en40), (141, en141)]).getD default := ⟨_, rfl⟩; have k53 : K 53 = en53 := (by subst hK; rfl); have k56 : K 56 = en56 := (by subst hK; rfl); have k57 : K 57 = en57 := (by subst hK; rfl); have k62 : K 62 = en62 := (by subst hK; rfl); have k63 : K 63 = en63 := (by subst hK; rfl); have k30 : K 30 = en30 := (by subst hK; rfl); have k40 : K 40 = en40 := (by subst hK; rfl); have k141 : K 141 = en141 := (by subst hK; rfl); clear hK
  obtain ⟨es, hes⟩ : ∃ es, es = tU8.encs l := ⟨_, rfl⟩
  show Ok0 Try.prog 10 [.one (.pv (.sl false 1 (tU8.encs l)))] _ [] 0
  rw [← hes]
  by_cases h1 : (1048576 : Int) < l.length
  · have hb1 : True := trivial
    have hm : True := trivial
    have hs : True := trivial
    have hh : True := trivial
    have hr : True := trivial
    have hr2 : True := trivial
    refine Ok0_run (Y := (Tab.calls [(53, false, callIce I (callE I (K 53) sh53)), (56, true, callRd I (callE I (K 56) sh56)), (57, false, callRef I (markT I (K 57) 1)), (62, false, callVw I (callE I (K 62) sh62)), (63, false, callVw I (callE I (K 63) sh63)), (64, true, callRd I (inl X I (Tab.calls [(30, true, callRd I (callE I (K 30) sh30))]) Try.f64)), (65, false, callRef I (inlR X I (Tab.calls [(40, false, callRef I (markT I (K 40) 2))]) Try.f65)), (66, true, callRd I (inl X I (Tab.calls [(141, true, callRd I (callE I (K 141) sh141))]) Try.f66))])) xok (TabOk.calls mixed ⟨EntryOk.own (s53 hI k53) hI, notQuiet, ⟨EntryOk.rd (s56 hI k56) hI, fun _ => callRd_quiet _ _, ⟨EntryOk.ref (s57 hI k57) hI, notQuiet, ⟨EntryOk.vw (s62 hI k62) hI, notQuiet, ⟨EntryOk.vw (s63 hI k63) hI, notQuiet, ⟨EntryOk.rd (s64 hI k30) hI, fun _ => callRd_quiet _ _, ⟨EntryOk.ref (s65 hI k40) hI, notQuiet, ⟨EntryOk.rd (s66 hI k141) hI, fun _ => callRd_quiet _ _, trivial⟩⟩⟩⟩⟩⟩⟩⟩) Try.func10 rfl rfl rfl 2000 hI fun w Xs => ?_; (conv => arg 4; cbv)
    repeat' (first | ((with_reducible refine on_eqs ?_ ?_); (focus (with_reducible rfl)); conv => arg 4; cbv) | (with_reducible refine on_both ?_ ?_ <;> (conv => arg 4; cbv)) | (with_reducible refine on_true (by assumption) ?_; conv => arg 4; cbv) | (with_reducible refine on_false (by assumption) ?_; conv => arg 4; cbv) | (with_reducible refine on_ask (fun g => ?_) (fun g => ?_) <;> (have h := g) <;> (try simp (disch := omega) [hI, k53, en53, an53, k56, en56, an56, k57, en57, an57, k62, en62, an62, k63, en63, an63, k30, en30, an30, k40, en40, an40, k141, en141, an141, tE_own, hes, hO, hs, getE, hm, hb1, hh, hdS_nil, -List.length_eq_zero_iff] at h) <;> (try (exfalso; omega)) <;> (conv => arg 4; cbv)) | ((with_reducible refine on_must ?_ ?_); (focus (first | (simp (disch := omega) [hI, k53, en53, an53, k56, en56, an56, k57, en57, an57, k62, en62, an62, k63, en63, an63, k30, en30, an30, k40, en40, an40, k141, en141, an141, tE_own, hes, hO, hs, getE, hm, hb1, hh, hdS_nil]; done) | (simp (disch := omega) [hI, k53, en53, an53, k56, en56, an56, k57, en57, an57, k62, en62, an62, k63, en63, an63, k30, en30, an30, k40, en40, an40, k141, en141, an141, tE_own, hes, hO, hs, getE, hm, hb1, hh, hdS_nil]; omega) | (simp (disch := omega) [hI, k53, en53, an53, k56, en56, an56, k57, en57, an57, k62, en62, an62, k63, en63, an63, k30, en30, an30, k40, en40, an40, k141, en141, an141, tE_own, hes, hO, hs, getE, hm, hb1, hh, hdS_nil]; assumption) | (simp (disch := omega) [hI, k53, en53, an53, k56, en56, an56, k57, en57, an57, k62, en62, an62, k63, en63, an63, k30, en30, an30, k40, en40, an40, k141, en141, an141, tE_own, hes, hO, hs, getE, hm, hb1, hh, hdS_nil]; (refine And.intro ?_ ?_) <;> (first | omega | assumption)))); conv => arg 4; cbv))
    (with_reducible refine on_ret ?_); refine Ended_of rfl ?_; (conv => lhs; cbv); rfl
  · have hb1 : ¬ (mkS fU8 l 1).2 < 0 := by rw [mkU_n l 1 (by omega) (by omega)]; omega
    cases hs : specE l with
    | none =>
      have hm : True := trivial
      have hh : True := trivial
      have hr : True := trivial
      have hr2 : True := trivial
      refine Ok0_run (Y := (Tab.calls [(53, false, callIce I (callE I (K 53) sh53)), (56, true, callRd I (callE I (K 56) sh56)), (57, false, callRef I (markT I (K 57) 1)), (62, false, callVw I (callE I (K 62) sh62)), (63, false, callVw I (callE I (K 63) sh63)), (64, true, callRd I (inl X I (Tab.calls [(30, true, callRd I (callE I (K 30) sh30))]) Try.f64)), (65, false, callRef I (inlR X I (Tab.calls [(40, false, callRef I (markT I (K 40) 2))]) Try.f65)), (66, true, callRd I (inl X I (Tab.calls [(141, true, callRd I (callE I (K 141) sh141))]) Try.f66))])) xok (TabOk.calls mixed ⟨EntryOk.own (s53 hI k53) hI, notQuiet, ⟨EntryOk.rd (s56 hI k56) hI, fun _ => callRd_quiet _ _, ⟨EntryOk.ref (s57 hI k57) hI, notQuiet, ⟨EntryOk.vw (s62 hI k62) hI, notQuiet, ⟨EntryOk.vw (s63 hI k63) hI, notQuiet, ⟨EntryOk.rd (s64 hI k30) hI, fun _ => callRd_quiet _ _, ⟨EntryOk.ref (s65 hI k40) hI, notQuiet, ⟨EntryOk.rd (s66 hI k141) hI, fun _ => callRd_quiet _ _, trivial⟩⟩⟩⟩⟩⟩⟩⟩) Try.func10 rfl rfl rfl 2000 hI fun w Xs => ?_; (conv => arg 4; cbv)
      repeat' (first | ((with_reducible refine on_eqs ?_ ?_); (focus (with_reducible rfl)); conv => arg 4; cbv) | (with_reducible refine on_both ?_ ?_ <;> (conv => arg 4; cbv)) | (with_reducible refine on_true (by assumption) ?_; conv => arg 4; cbv) | (with_reducible refine on_false (by assumption) ?_; conv => arg 4; cbv) | (with_reducible refine on_ask (fun g => ?_) (fun g => ?_) <;> (have h := g) <;> (try simp (disch := omega) [hI, k53, en53, an53, k56, en56, an56, k57, en57, an57, k62, en62, an62, k63, en63, an63, k30, en30, an30, k40, en40, an40, k141, en141, an141, tE_own, hes, hO, hs, getE, hm, hb1, hh, hdS_nil, -List.length_eq_zero_iff] at h) <;> (try (exfalso; omega)) <;> (conv => arg 4; cbv)) | ((with_reducible refine on_must ?_ ?_); (focus (first | (simp (disch := omega) [hI, k53, en53, an53, k56, en56, an56, k57, en57, an57, k62, en62, an62, k63, en63, an63, k30, en30, an30, k40, en40, an40, k141, en141, an141, tE_own, hes, hO, hs, getE, hm, hb1, hh, hdS_nil]; done) | (simp (disch := omega) [hI, k53, en53, an53, k56, en56, an56, k57, en57, an57, k62, en62, an62, k63, en63, an63, k30, en30, an30, k40, en40, an40, k141, en141, an141, tE_own, hes, hO, hs, getE, hm, hb1, hh, hdS_nil]; omega) | (simp (disch := omega) [hI, k53, en53, an53, k56, en56, an56, k57, en57, an57, k62, en62, an62, k63, en63, an63, k30, en30, an30, k40, en40, an40, k141, en141, an141, tE_own, hes, hO, hs, getE, hm, hb1, hh, hdS_nil]; assumption) | (simp (disch := omega) [hI, k53, en53, an53, k56, en56, an56, k57, en57, an57, k62, en62, an62, k63, en63, an63, k30, en30, an30, k40, en40, an40, k141, en141, an141, tE_own, hes, hO, hs, getE, hm, hb1, hh, hdS_nil]; (refine And.intro ?_ ?_) <;> (first | omega | assumption)))); conv => arg 4; cbv))
      all_goals first
        | ((with_reducible refine on_ret ?_); refine Ended_of rfl ?_; (conv => lhs; cbv); rfl)
        | (exfalso; omega)
        | (exfalso; simp_all; done)
        | (exfalso; simp_all; omega)
    | some x =>
      obtain ⟨hx, hx4⟩ := hO2 x hs
      have hq := hd_mkEnt x 1 (by omega) hx4 (by omega)
      have hm : ¬ (mkS fEnt x 1).2 < 0 := by omega
      have hh : hdS hEnt (mkS fEnt x 1).1 1 = (mkS fEnt x 1).2 := hq.1
      have hr : ∀ e ∈ x, e.row.length < 4611686018427387904 := fun e he => by have := hx4 e he; omega
      have hr2 : ∀ e ∈ (mkS fEnt x 1).1, e.row.length < 4611686018427387904 := fun e he => by have := mkEnt_rows x 1 hx4 e he; omega
      refine Ok0_run (Y := (Tab.calls [(53, false, callIce I (callE I (K 53) sh53)), (56, true, callRd I (callE I (K 56) sh56)), (57, false, callRef I (markT I (K 57) 1)), (62, false, callVw I (callE I (K 62) sh62)), (63, false, callVw I (callE I (K 63) sh63)), (64, true, callRd I (inl X I (Tab.calls [(30, true, callRd I (callE I (K 30) sh30))]) Try.f64)), (65, false, callRef I (inlR X I (Tab.calls [(40, false, callRef I (markT I (K 40) 2))]) Try.f65)), (66, true, callRd I (inl X I (Tab.calls [(141, true, callRd I (callE I (K 141) sh141))]) Try.f66))])) xok (TabOk.calls mixed ⟨EntryOk.own (s53 hI k53) hI, notQuiet, ⟨EntryOk.rd (s56 hI k56) hI, fun _ => callRd_quiet _ _, ⟨EntryOk.ref (s57 hI k57) hI, notQuiet, ⟨EntryOk.vw (s62 hI k62) hI, notQuiet, ⟨EntryOk.vw (s63 hI k63) hI, notQuiet, ⟨EntryOk.rd (s64 hI k30) hI, fun _ => callRd_quiet _ _, ⟨EntryOk.ref (s65 hI k40) hI, notQuiet, ⟨EntryOk.rd (s66 hI k141) hI, fun _ => callRd_quiet _ _, trivial⟩⟩⟩⟩⟩⟩⟩⟩) Try.func10 rfl rfl rfl 2000 hI fun w Xs => ?_; (conv => arg 4; cbv)
      repeat' (first | ((with_reducible refine on_eqs ?_ ?_); (focus (with_reducible rfl)); conv => arg 4; cbv) | (with_reducible refine on_both ?_ ?_ <;> (conv => arg 4; cbv)) | (with_reducible refine on_true (by assumption) ?_; conv => arg 4; cbv) | (with_reducible refine on_false (by assumption) ?_; conv => arg 4; cbv) | (with_reducible refine on_ask (fun g => ?_) (fun g => ?_) <;> (have h := g) <;> (try simp (disch := omega) [hI, k53, en53, an53, k56, en56, an56, k57, en57, an57, k62, en62, an62, k63, en63, an63, k30, en30, an30, k40, en40, an40, k141, en141, an141, tE_own, hes, hO, hs, getE, hm, hb1, hh, hdS_nil, -List.length_eq_zero_iff] at h) <;> (try (exfalso; omega)) <;> (conv => arg 4; cbv)) | ((with_reducible refine on_must ?_ ?_); (focus (first | (simp (disch := omega) [hI, k53, en53, an53, k56, en56, an56, k57, en57, an57, k62, en62, an62, k63, en63, an63, k30, en30, an30, k40, en40, an40, k141, en141, an141, tE_own, hes, hO, hs, getE, hm, hb1, hh, hdS_nil]; done) | (simp (disch := omega) [hI, k53, en53, an53, k56, en56, an56, k57, en57, an57, k62, en62, an62, k63, en63, an63, k30, en30, an30, k40, en40, an40, k141, en141, an141, tE_own, hes, hO, hs, getE, hm, hb1, hh, hdS_nil]; omega) | (simp (disch := omega) [hI, k53, en53, an53, k56, en56, an56, k57, en57, an57, k62, en62, an62, k63, en63, an63, k30, en30, an30, k40, en40, an40, k141, en141, an141, tE_own, hes, hO, hs, getE, hm, hb1, hh, hdS_nil]; assumption) | (simp (disch := omega) [hI, k53, en53, an53, k56, en56, an56, k57, en57, an57, k62, en62, an62, k63, en63, an63, k30, en30, an30, k40, en40, an40, k141, en141, an141, tE_own, hes, hO, hs, getE, hm, hb1, hh, hdS_nil]; (refine And.intro ?_ ?_) <;> (first | omega | assumption)))); conv => arg 4; cbv))
      all_goals first
        | ((with_reducible refine on_ret ?_); refine Ended_of rfl ?_; (conv => lhs; cbv); rfl)
        | (exfalso; omega)
        | (exfalso; simp_all; done)
        | (exfalso; simp_all; omega)

end Go.Proofs.Try
