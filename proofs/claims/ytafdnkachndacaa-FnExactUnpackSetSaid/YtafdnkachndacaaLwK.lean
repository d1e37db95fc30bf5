/- Contracts. -/
import Derived.Test.YtafdnkachndacaaLwJ
set_option linter.unusedSimpArgs false
set_option linter.unusedVariables false
namespace Go.Proofs.Try
open Go Go.Aix
set_option maxRecDepth 100000
set_option maxHeartbeats 4000000
set_option linter.unusedSimpArgs false
set_option linter.unusedVariables false
theorem hd_mk {V : Type} {f : V → Int → V × Int} {h : V → Int → Option Int} (hf : ∀ e k, h (f e k).1 k = some (f e k).2) : ∀ (l : List V) (k : Int), hdS h (mkS f l k).1 k = (mkS f l k).2
  | [], k => rfl
  | e :: r, k => by
    rw [mkS]
    dsimp only
    rw [hdS, hf]
    exact hd_mk hf r _
theorem hd_mkU8 (l : List Int) (k : Int) : hdS hU8 (mkS fU8 l k).1 k = (mkS fU8 l k).2 := hd_mk (fun e k => by simp [hU8, fU8]) l k
theorem hd_mkI64 (l : List Int) (k : Int) : hdS hI64 (mkS fI64 l k).1 k = (mkS fI64 l k).2 := hd_mk (fun e k => by simp [hI64, fI64]) l k
theorem hd_mkCnt (l : List CountV) (k : Int) : hdS hCnt (mkS fCnt l k).1 k = (mkS fCnt l k).2 := hd_mk (fun e k => by simp [hCnt, fCnt]) l k
theorem nx1_id {k : Int} (h : 0 ≤ k) (h2 : k < 9223372036854775807) : nx1 k = k + 1 := by unfold nx1; rw [IntKind.wrap_i64]; omega
theorem mkI_n : ∀ (l : List Int) (k : Int), 0 ≤ k → k + l.length < 9223372036854775807 → (mkS fI64 l k).2 = k + l.length
  | [], k, _, _ => by simp [mkS]
  | e :: r, k, h0, h1 => by
    rw [mkS]
    dsimp only
    simp only [List.length_cons] at h1
    rw [show (fI64 e k).2 = k + 1 from nx1_id h0 (by omega), mkI_n r (k + 1) (by omega) (by omega), List.length_cons]
    omega
theorem mkU_n : ∀ (l : List Int) (k : Int), 0 ≤ k → k + l.length < 9223372036854775807 → (mkS fU8 l k).2 = k + l.length
  | [], k, _, _ => by simp [mkS]
  | e :: r, k, h0, h1 => by
    rw [mkS]
    dsimp only
    simp only [List.length_cons] at h1
    rw [show (fU8 e k).2 = k + 1 from nx1_id h0 (by omega), mkU_n r (k + 1) (by omega) (by omega), List.length_cons]
    omega
theorem mkC_n : ∀ (l : List CountV) (k : Int), 0 ≤ k → k + 3 * l.length < 9223372036854775807 → (mkS fCnt l k).2 = k + 3 * l.length
  | [], k, _, _ => by simp [mkS]
  | e :: r, k, h0, h1 => by
    rw [mkS]
    dsimp only
    simp only [List.length_cons] at h1
    have q : (fCnt e k).2 = k + 3 := by
      show nx1 (nx1 (nx1 k)) = _
      rw [nx1_id h0 (by omega), nx1_id (k := k + 1) (by omega) (by omega), nx1_id (k := k + 1 + 1) (by omega) (by omega)]
      omega
    rw [q, mkC_n r (k + 3) (by omega) (by omega), List.length_cons]
    omega
theorem newsY_len (l : List CountV) : (newsY l).length = 1 + 17 * l.length := by simp [newsY, newsC_len]; omega


theorem law7 (l : List CountV) (g0 : gL gCount l) : Ok0 Try.prog 7 [(pL tCount).enc l] (scal (.bool true)) [] 0 := by
  obtain ⟨I, hI⟩ : ∃ I, I = real := ⟨_, rfl⟩; obtain ⟨K, hK⟩ : ∃ K : FuncId → En, K = fun g => (lk g [(45, en45), (44, en44), (46, en46), (56, en56), (48, en48), (49, en49), (57, en57), (131, en131)]).getD default := ⟨_, rfl⟩; have k45 : K 45 = en45 := (by subst hK; rfl); have k44 : K 44 = en44 := (by subst hK; rfl); have k46 : K 46 = en46 := (by subst hK; rfl); have k56 : K 56 = en56 := (by subst hK; rfl); have k48 : K 48 = en48 := (by subst hK; rfl); have k49 : K 49 = en49 := (by subst hK; rfl); have k57 : K 57 = en57 := (by subst hK; rfl); have k131 : K 131 = en131 := (by subst hK; rfl); clear hK
  have b0 : l.length ≤ 9223372036854775807 := g0.1
  obtain ⟨es, hes⟩ : ∃ es, es = tCount.encs l := ⟨_, rfl⟩
  show Ok0 Try.prog 7 [.one (.pv (.sl false 3 (tCount.encs l)))] _ [] 0
  rw [← hes]
  by_cases h1 : (1048576 : Int) - l.length < 0
  · have hm : True := trivial
    have hb1 : True := trivial
    refine Ok0_run (Y := (Tab.calls [(43, true, callRd I (inl X I (Tab.calls []) Try.f43)), (45, false, callIce I (callE I (K 45) sh45)), (44, false, callVw I (callE I (K 44) sh44)), (46, false, callVw I (callE I (K 46) sh46)), (47, true, callRd I (inl X I (Tab.calls [(56, true, callRd I (callE I (K 56) sh56))]) Try.f47)), (48, true, callRd I (callE I (K 48) sh48)), (49, false, callRef I (markT I (K 49) 3)), (50, false, callRef I (inlR X I (Tab.calls [(57, false, callRef I (markT I (K 57) 1))]) Try.f50)), (51, true, callRd I (inl X I (Tab.calls [(131, true, callRd I (callE I (K 131) sh131))]) Try.f51))])) xok (TabOk.calls mixed ⟨EntryOk.rd (s43 hI) hI, fun _ => callRd_quiet _ _, ⟨EntryOk.own (s45 hI k45) hI, notQuiet, ⟨EntryOk.vw (s44 hI k44) hI, notQuiet, ⟨EntryOk.vw (s46 hI k46) hI, notQuiet, ⟨EntryOk.rd (s47 hI k56) hI, fun _ => callRd_quiet _ _, ⟨EntryOk.rd (s48 hI k48) hI, fun _ => callRd_quiet _ _, ⟨EntryOk.ref (s49 hI k49) hI, notQuiet, ⟨EntryOk.ref (s50 hI k57) hI, notQuiet, ⟨EntryOk.rd (s51 hI k131) hI, fun _ => callRd_quiet _ _, trivial⟩⟩⟩⟩⟩⟩⟩⟩⟩) Try.func7 rfl rfl rfl 2000 hI fun w Xs => ?_; (conv => arg 4; cbv)
    repeat' (first | ((with_reducible refine on_eqs ?_ ?_); (focus (with_reducible rfl)); conv => arg 4; cbv) | (with_reducible refine on_both ?_ ?_ <;> (conv => arg 4; cbv)) | (with_reducible refine on_true (by assumption) ?_; conv => arg 4; cbv) | (with_reducible refine on_false (by assumption) ?_; conv => arg 4; cbv) | (with_reducible refine on_ask (fun g => ?_) (fun g => ?_) <;> (have h := g) <;> (try simp (disch := omega) [hI, k45, en45, an45, k44, en44, an44, k46, en46, an46, k56, en56, an56, k48, en48, an48, k49, en49, an49, k57, en57, an57, k131, en131, an131, hes, hd_mkU8, hm, hb1, hdS_nil, -List.length_eq_zero_iff] at h) <;> (try (exfalso; omega)) <;> (conv => arg 4; cbv)) | ((with_reducible refine on_must ?_ ?_); (focus (first | (simp (disch := omega) [hI, k45, en45, an45, k44, en44, an44, k46, en46, an46, k56, en56, an56, k48, en48, an48, k49, en49, an49, k57, en57, an57, k131, en131, an131, hes, hd_mkU8, hm, hb1, hdS_nil]; done) | (simp (disch := omega) [hI, k45, en45, an45, k44, en44, an44, k46, en46, an46, k56, en56, an56, k48, en48, an48, k49, en49, an49, k57, en57, an57, k131, en131, an131, hes, hd_mkU8, hm, hb1, hdS_nil]; omega) | (simp (disch := omega) [hI, k45, en45, an45, k44, en44, an44, k46, en46, an46, k56, en56, an56, k48, en48, an48, k49, en49, an49, k57, en57, an57, k131, en131, an131, hes, hd_mkU8, hm, hb1, hdS_nil]; assumption) | (simp (disch := omega) [hI, k45, en45, an45, k44, en44, an44, k46, en46, an46, k56, en56, an56, k48, en48, an48, k49, en49, an49, k57, en57, an57, k131, en131, an131, hes, hd_mkU8, hm, hb1, hdS_nil]; (refine And.intro ?_ ?_) <;> (first | omega | assumption)))); conv => arg 4; cbv))
    (with_reducible refine on_ret ?_); refine Ended_of rfl ?_; (conv => lhs; cbv); rfl
  · have hyl := newsY_len l
    have hm : ¬ (mkS fCnt l 1).2 < 0 := by rw [mkC_n l 1 (by omega) (by omega)]; omega
    have hb1 : ¬ (mkS fU8 (newsY l) 1).2 < 0 := by rw [mkU_n (newsY l) 1 (by omega) (by rw [newsY_len]; omega)]; omega
    refine Ok0_run (Y := (Tab.calls [(43, true, callRd I (inl X I (Tab.calls []) Try.f43)), (45, false, callIce I (callE I (K 45) sh45)), (44, false, callVw I (callE I (K 44) sh44)), (46, false, callVw I (callE I (K 46) sh46)), (47, true, callRd I (inl X I (Tab.calls [(56, true, callRd I (callE I (K 56) sh56))]) Try.f47)), (48, true, callRd I (callE I (K 48) sh48)), (49, false, callRef I (markT I (K 49) 3)), (50, false, callRef I (inlR X I (Tab.calls [(57, false, callRef I (markT I (K 57) 1))]) Try.f50)), (51, true, callRd I (inl X I (Tab.calls [(131, true, callRd I (callE I (K 131) sh131))]) Try.f51))])) xok (TabOk.calls mixed ⟨EntryOk.rd (s43 hI) hI, fun _ => callRd_quiet _ _, ⟨EntryOk.own (s45 hI k45) hI, notQuiet, ⟨EntryOk.vw (s44 hI k44) hI, notQuiet, ⟨EntryOk.vw (s46 hI k46) hI, notQuiet, ⟨EntryOk.rd (s47 hI k56) hI, fun _ => callRd_quiet _ _, ⟨EntryOk.rd (s48 hI k48) hI, fun _ => callRd_quiet _ _, ⟨EntryOk.ref (s49 hI k49) hI, notQuiet, ⟨EntryOk.ref (s50 hI k57) hI, notQuiet, ⟨EntryOk.rd (s51 hI k131) hI, fun _ => callRd_quiet _ _, trivial⟩⟩⟩⟩⟩⟩⟩⟩⟩) Try.func7 rfl rfl rfl 2000 hI fun w Xs => ?_; (conv => arg 4; cbv)
    repeat' (first | ((with_reducible refine on_eqs ?_ ?_); (focus (with_reducible rfl)); conv => arg 4; cbv) | (with_reducible refine on_both ?_ ?_ <;> (conv => arg 4; cbv)) | (with_reducible refine on_true (by assumption) ?_; conv => arg 4; cbv) | (with_reducible refine on_false (by assumption) ?_; conv => arg 4; cbv) | (with_reducible refine on_ask (fun g => ?_) (fun g => ?_) <;> (have h := g) <;> (try simp (disch := omega) [hI, k45, en45, an45, k44, en44, an44, k46, en46, an46, k56, en56, an56, k48, en48, an48, k49, en49, an49, k57, en57, an57, k131, en131, an131, hes, hd_mkU8, hm, hb1, hdS_nil, -List.length_eq_zero_iff] at h) <;> (try (exfalso; omega)) <;> (conv => arg 4; cbv)) | ((with_reducible refine on_must ?_ ?_); (focus (first | (simp (disch := omega) [hI, k45, en45, an45, k44, en44, an44, k46, en46, an46, k56, en56, an56, k48, en48, an48, k49, en49, an49, k57, en57, an57, k131, en131, an131, hes, hd_mkU8, hm, hb1, hdS_nil]; done) | (simp (disch := omega) [hI, k45, en45, an45, k44, en44, an44, k46, en46, an46, k56, en56, an56, k48, en48, an48, k49, en49, an49, k57, en57, an57, k131, en131, an131, hes, hd_mkU8, hm, hb1, hdS_nil]; omega) | (simp (disch := omega) [hI, k45, en45, an45, k44, en44, an44, k46, en46, an46, k56, en56, an56, k48, en48, an48, k49, en49, an49, k57, en57, an57, k131, en131, an131, hes, hd_mkU8, hm, hb1, hdS_nil]; assumption) | (simp (disch := omega) [hI, k45, en45, an45, k44, en44, an44, k46, en46, an46, k56, en56, an56, k48, en48, an48, k49, en49, an49, k57, en57, an57, k131, en131, an131, hes, hd_mkU8, hm, hb1, hdS_nil]; (refine And.intro ?_ ?_) <;> (first | omega | assumption)))); conv => arg 4; cbv))
    all_goals first
      | ((with_reducible refine on_ret ?_); refine Ended_of rfl ?_; (conv => lhs; cbv); rfl)
      | (exfalso; omega)
      | (exfalso; simp_all; done)
      | (exfalso; simp_all; omega)

end Go.Proofs.Try
