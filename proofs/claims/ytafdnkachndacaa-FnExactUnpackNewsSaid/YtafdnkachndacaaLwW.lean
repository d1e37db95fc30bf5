/- Contracts. -/
import Derived.Test.YtafdnkachndacaaLwV
set_option linter.unusedSimpArgs false
set_option linter.unusedVariables false
namespace Go.Proofs.Try
open Go Go.Aix
set_option maxRecDepth 100000
set_option maxHeartbeats 4000000
set_option linter.unusedSimpArgs false
set_option linter.unusedVariables false

theorem tC_flat (l : List CountV) : mapE tCount.own l = tCount.encs l := tCount_owns l
theorem law8 (l : List Int) (g0 : gL inU8 l) : Ok0 Try.prog 8 [(pL tU8).enc l] (scal (.bool true)) [] 0 := by
  have b0 : l.length ≤ 9223372036854775807 := g0.1
  have hd : ∀ x ∈ l, 0 ≤ x ∧ x ≤ 255 := fun x hx => g0.2 x hx
  have hO : implO l = specO l := O_eq l hd
  have hO2 : ∀ x, specO l = some x → x.length ≤ 200 := by
    intro x hx
    unfold specO at hx
    split at hx
    · cases hx
    · split at hx
      · rename_i h; cases hx; exact newsF_le h
      · cases hx
  obtain ⟨I, hI⟩ : ∃ I, I = real := ⟨_, rfl⟩; obtain ⟨K, hK⟩ : ∃ K : FuncId → En, K = fun g => (lk g [(52, en52), (53, en53), (54, en54), (48, en48), (56, en56), (57, en57), (49, en49), (135, en135)]).getD default := ⟨_, rfl⟩; have k52 : K 52 = en52 := (by subst hK; rfl); have k53 : K 53 = en53 := (by subst hK; rfl); have k54 : K 54 = en54 := (by subst hK; rfl); have k48 : K 48 = en48 := (by subst hK; rfl); have k56 : K 56 = en56 := (by subst hK; rfl); have k57 : K 57 = en57 := (by subst hK; rfl); have k49 : K 49 = en49 := (by subst hK; rfl); have k135 : K 135 = en135 := (by subst hK; rfl); clear hK
  obtain ⟨es, hes⟩ : ∃ es, es = tU8.encs l := ⟨_, rfl⟩
  show Ok0 Try.prog 8 [.one (.pv (.sl false 1 (tU8.encs l)))] _ [] 0
  rw [← hes]
  by_cases h1 : (1048576 : Int) < l.length
  · have hb1 : True := trivial
    have hm : True := trivial
    have hs : True := trivial
    refine Ok0_run (Y := (Tab.calls [(52, false, callVw I (callE I (K 52) sh52)), (53, false, callIce I (callE I (K 53) sh53)), (54, false, callVw I (callE I (K 54) sh54)), (55, true, callRd I (inl X I (Tab.calls [(48, true, callRd I (callE I (K 48) sh48))]) Try.f55)), (56, true, callRd I (callE I (K 56) sh56)), (57, false, callRef I (markT I (K 57) 1)), (58, false, callRef I (inlR X I (Tab.calls [(49, false, callRef I (markT I (K 49) 3))]) Try.f58)), (59, true, callRd I (inl X I (Tab.calls [(135, true, callRd I (callE I (K 135) sh135))]) Try.f59))])) xok (TabOk.calls mixed ⟨EntryOk.vw (s52 hI k52) hI, notQuiet, ⟨EntryOk.own (s53 hI k53) hI, notQuiet, ⟨EntryOk.vw (s54 hI k54) hI, notQuiet, ⟨EntryOk.rd (s55 hI k48) hI, fun _ => callRd_quiet _ _, ⟨EntryOk.rd (s56 hI k56) hI, fun _ => callRd_quiet _ _, ⟨EntryOk.ref (s57 hI k57) hI, notQuiet, ⟨EntryOk.ref (s58 hI k49) hI, notQuiet, ⟨EntryOk.rd (s59 hI k135) hI, fun _ => callRd_quiet _ _, trivial⟩⟩⟩⟩⟩⟩⟩⟩) Try.func8 rfl rfl rfl 2000 hI fun w Xs => ?_; (conv => arg 4; cbv)
    repeat' (first | ((with_reducible refine on_eqs ?_ ?_); (focus (with_reducible rfl)); conv => arg 4; cbv) | (with_reducible refine on_both ?_ ?_ <;> (conv => arg 4; cbv)) | (with_reducible refine on_true (by assumption) ?_; conv => arg 4; cbv) | (with_reducible refine on_false (by assumption) ?_; conv => arg 4; cbv) | (with_reducible refine on_ask (fun g => ?_) (fun g => ?_) <;> (have h := g) <;> (try simp (disch := omega) [hI, k52, en52, an52, k53, en53, an53, k54, en54, an54, k48, en48, an48, k56, en56, an56, k57, en57, an57, k49, en49, an49, k135, en135, an135, tC_flat, hes, hO, hs, getL, hd_mkCnt, hm, hb1, hdS_nil, -List.length_eq_zero_iff] at h) <;> (try (exfalso; omega)) <;> (conv => arg 4; cbv)) | ((with_reducible refine on_must ?_ ?_); (focus (first | (simp (disch := omega) [hI, k52, en52, an52, k53, en53, an53, k54, en54, an54, k48, en48, an48, k56, en56, an56, k57, en57, an57, k49, en49, an49, k135, en135, an135, tC_flat, hes, hO, hs, getL, hd_mkCnt, hm, hb1, hdS_nil]; done) | (simp (disch := omega) [hI, k52, en52, an52, k53, en53, an53, k54, en54, an54, k48, en48, an48, k56, en56, an56, k57, en57, an57, k49, en49, an49, k135, en135, an135, tC_flat, hes, hO, hs, getL, hd_mkCnt, hm, hb1, hdS_nil]; omega) | (simp (disch := omega) [hI, k52, en52, an52, k53, en53, an53, k54, en54, an54, k48, en48, an48, k56, en56, an56, k57, en57, an57, k49, en49, an49, k135, en135, an135, tC_flat, hes, hO, hs, getL, hd_mkCnt, hm, hb1, hdS_nil]; assumption) | (simp (disch := omega) [hI, k52, en52, an52, k53, en53, an53, k54, en54, an54, k48, en48, an48, k56, en56, an56, k57, en57, an57, k49, en49, an49, k135, en135, an135, tC_flat, hes, hO, hs, getL, hd_mkCnt, hm, hb1, hdS_nil]; (refine And.intro ?_ ?_) <;> (first | omega | assumption)))); conv => arg 4; cbv))
    (with_reducible refine on_ret ?_); refine Ended_of rfl ?_; (conv => lhs; cbv); rfl
  · have hb1 : ¬ (mkS fU8 l 1).2 < 0 := by rw [mkU_n l 1 (by omega) (by omega)]; omega
    cases hs : specO l with
    | none =>
      have hm : True := trivial
      refine Ok0_run (Y := (Tab.calls [(52, false, callVw I (callE I (K 52) sh52)), (53, false, callIce I (callE I (K 53) sh53)), (54, false, callVw I (callE I (K 54) sh54)), (55, true, callRd I (inl X I (Tab.calls [(48, true, callRd I (callE I (K 48) sh48))]) Try.f55)), (56, true, callRd I (callE I (K 56) sh56)), (57, false, callRef I (markT I (K 57) 1)), (58, false, callRef I (inlR X I (Tab.calls [(49, false, callRef I (markT I (K 49) 3))]) Try.f58)), (59, true, callRd I (inl X I (Tab.calls [(135, true, callRd I (callE I (K 135) sh135))]) Try.f59))])) xok (TabOk.calls mixed ⟨EntryOk.vw (s52 hI k52) hI, notQuiet, ⟨EntryOk.own (s53 hI k53) hI, notQuiet, ⟨EntryOk.vw (s54 hI k54) hI, notQuiet, ⟨EntryOk.rd (s55 hI k48) hI, fun _ => callRd_quiet _ _, ⟨EntryOk.rd (s56 hI k56) hI, fun _ => callRd_quiet _ _, ⟨EntryOk.ref (s57 hI k57) hI, notQuiet, ⟨EntryOk.ref (s58 hI k49) hI, notQuiet, ⟨EntryOk.rd (s59 hI k135) hI, fun _ => callRd_quiet _ _, trivial⟩⟩⟩⟩⟩⟩⟩⟩) Try.func8 rfl rfl rfl 2000 hI fun w Xs => ?_; (conv => arg 4; cbv)
      repeat' (first | ((with_reducible refine on_eqs ?_ ?_); (focus (with_reducible rfl)); conv => arg 4; cbv) | (with_reducible refine on_both ?_ ?_ <;> (conv => arg 4; cbv)) | (with_reducible refine on_true (by assumption) ?_; conv => arg 4; cbv) | (with_reducible refine on_false (by assumption) ?_; conv => arg 4; cbv) | (with_reducible refine on_ask (fun g => ?_) (fun g => ?_) <;> (have h := g) <;> (try simp (disch := omega) [hI, k52, en52, an52, k53, en53, an53, k54, en54, an54, k48, en48, an48, k56, en56, an56, k57, en57, an57, k49, en49, an49, k135, en135, an135, tC_flat, hes, hO, hs, getL, hd_mkCnt, hm, hb1, hdS_nil, -List.length_eq_zero_iff] at h) <;> (try (exfalso; omega)) <;> (conv => arg 4; cbv)) | ((with_reducible refine on_must ?_ ?_); (focus (first | (simp (disch := omega) [hI, k52, en52, an52, k53, en53, an53, k54, en54, an54, k48, en48, an48, k56, en56, an56, k57, en57, an57, k49, en49, an49, k135, en135, an135, tC_flat, hes, hO, hs, getL, hd_mkCnt, hm, hb1, hdS_nil]; done) | (simp (disch := omega) [hI, k52, en52, an52, k53, en53, an53, k54, en54, an54, k48, en48, an48, k56, en56, an56, k57, en57, an57, k49, en49, an49, k135, en135, an135, tC_flat, hes, hO, hs, getL, hd_mkCnt, hm, hb1, hdS_nil]; omega) | (simp (disch := omega) [hI, k52, en52, an52, k53, en53, an53, k54, en54, an54, k48, en48, an48, k56, en56, an56, k57, en57, an57, k49, en49, an49, k135, en135, an135, tC_flat, hes, hO, hs, getL, hd_mkCnt, hm, hb1, hdS_nil]; assumption) | (simp (disch := omega) [hI, k52, en52, an52, k53, en53, an53, k54, en54, an54, k48, en48, an48, k56, en56, an56, k57, en57, an57, k49, en49, an49, k135, en135, an135, tC_flat, hes, hO, hs, getL, hd_mkCnt, hm, hb1, hdS_nil]; (refine And.intro ?_ ?_) <;> (first | omega | assumption)))); conv => arg 4; cbv))
      all_goals first
        | ((with_reducible refine on_ret ?_); refine Ended_of rfl ?_; (conv => lhs; cbv); rfl)
        | (exfalso; omega)
        | (exfalso; simp_all; done)
        | (exfalso; simp_all; omega)
    | some x =>
      have hx := hO2 x hs
      have hm : ¬ (mkS fCnt x 1).2 < 0 := by rw [mkC_n x 1 (by omega) (by omega)]; omega
      refine Ok0_run (Y := (Tab.calls [(52, false, callVw I (callE I (K 52) sh52)), (53, false, callIce I (callE I (K 53) sh53)), (54, false, callVw I (callE I (K 54) sh54)), (55, true, callRd I (inl X I (Tab.calls [(48, true, callRd I (callE I (K 48) sh48))]) Try.f55)), (56, true, callRd I (callE I (K 56) sh56)), (57, false, callRef I (markT I (K 57) 1)), (58, false, callRef I (inlR X I (Tab.calls [(49, false, callRef I (markT I (K 49) 3))]) Try.f58)), (59, true, callRd I (inl X I (Tab.calls [(135, true, callRd I (callE I (K 135) sh135))]) Try.f59))])) xok (TabOk.calls mixed ⟨EntryOk.vw (s52 hI k52) hI, notQuiet, ⟨EntryOk.own (s53 hI k53) hI, notQuiet, ⟨EntryOk.vw (s54 hI k54) hI, notQuiet, ⟨EntryOk.rd (s55 hI k48) hI, fun _ => callRd_quiet _ _, ⟨EntryOk.rd (s56 hI k56) hI, fun _ => callRd_quiet _ _, ⟨EntryOk.ref (s57 hI k57) hI, notQuiet, ⟨EntryOk.ref (s58 hI k49) hI, notQuiet, ⟨EntryOk.rd (s59 hI k135) hI, fun _ => callRd_quiet _ _, trivial⟩⟩⟩⟩⟩⟩⟩⟩) Try.func8 rfl rfl rfl 2000 hI fun w Xs => ?_; (conv => arg 4; cbv)
      repeat' (first | ((with_reducible refine on_eqs ?_ ?_); (focus (with_reducible rfl)); conv => arg 4; cbv) | (with_reducible refine on_both ?_ ?_ <;> (conv => arg 4; cbv)) | (with_reducible refine on_true (by assumption) ?_; conv => arg 4; cbv) | (with_reducible refine on_false (by assumption) ?_; conv => arg 4; cbv) | (with_reducible refine on_ask (fun g => ?_) (fun g => ?_) <;> (have h := g) <;> (try simp (disch := omega) [hI, k52, en52, an52, k53, en53, an53, k54, en54, an54, k48, en48, an48, k56, en56, an56, k57, en57, an57, k49, en49, an49, k135, en135, an135, tC_flat, hes, hO, hs, getL, hd_mkCnt, hm, hb1, hdS_nil, -List.length_eq_zero_iff] at h) <;> (try (exfalso; omega)) <;> (conv => arg 4; cbv)) | ((with_reducible refine on_must ?_ ?_); (focus (first | (simp (disch := omega) [hI, k52, en52, an52, k53, en53, an53, k54, en54, an54, k48, en48, an48, k56, en56, an56, k57, en57, an57, k49, en49, an49, k135, en135, an135, tC_flat, hes, hO, hs, getL, hd_mkCnt, hm, hb1, hdS_nil]; done) | (simp (disch := omega) [hI, k52, en52, an52, k53, en53, an53, k54, en54, an54, k48, en48, an48, k56, en56, an56, k57, en57, an57, k49, en49, an49, k135, en135, an135, tC_flat, hes, hO, hs, getL, hd_mkCnt, hm, hb1, hdS_nil]; omega) | (simp (disch := omega) [hI, k52, en52, an52, k53, en53, an53, k54, en54, an54, k48, en48, an48, k56, en56, an56, k57, en57, an57, k49, en49, an49, k135, en135, an135, tC_flat, hes, hO, hs, getL, hd_mkCnt, hm, hb1, hdS_nil]; assumption) | (simp (disch := omega) [hI, k52, en52, an52, k53, en53, an53, k54, en54, an54, k48, en48, an48, k56, en56, an56, k57, en57, an57, k49, en49, an49, k135, en135, an135, tC_flat, hes, hO, hs, getL, hd_mkCnt, hm, hb1, hdS_nil]; (refine And.intro ?_ ?_) <;> (first | omega | assumption)))); conv => arg 4; cbv))
      all_goals first
        | ((with_reducible refine on_ret ?_); refine Ended_of rfl ?_; (conv => lhs; cbv); rfl)
        | (exfalso; omega)
        | (exfalso; simp_all; done)
        | (exfalso; simp_all; omega)

end Go.Proofs.Try
