/- Contracts. -/
import Derived.Test.YtngefcgbfpelcaaLdeadA
set_option linter.unusedSimpArgs false
set_option linter.unusedVariables false
namespace Go.Proofs.Try
open Go Go.Aix
set_option maxRecDepth 100000
set_option maxHeartbeats 4000000
set_option linter.unusedSimpArgs false
set_option linter.unusedVariables false

theorem law3 (l : List NodeV) (g0 : gL gNode l) : Ok0 Try.prog 3 [(pL tNode).enc l] (scal (.bool true)) [] 0 := by
  obtain ⟨I, hI⟩ : ∃ I, I = real := ⟨_, rfl⟩; obtain ⟨K, hK⟩ : ∃ K : FuncId → En, K = fun g => (lk g [(9, en9), (11, en11), (10, en10), (12, en12), (37, en37), (14, en14), (15, en15), (39, en39), (40, en40)]).getD default := ⟨_, rfl⟩; have k9 : K 9 = en9 := (by subst hK; rfl); have k11 : K 11 = en11 := (by subst hK; rfl); have k10 : K 10 = en10 := (by subst hK; rfl); have k12 : K 12 = en12 := (by subst hK; rfl); have k37 : K 37 = en37 := (by subst hK; rfl); have k14 : K 14 = en14 := (by subst hK; rfl); have k15 : K 15 = en15 := (by subst hK; rfl); have k39 : K 39 = en39 := (by subst hK; rfl); have k40 : K 40 = en40 := (by subst hK; rfl); clear hK
  have b0 : l.length ≤ 9223372036854775807 := g0.1
  have c0 : ∀ e ∈ l, e.cells.length ≤ 9223372036854775807 := fun e he => (g0.2 e he).2.2.2.2.2.2.1
  obtain ⟨es, hes⟩ : ∃ es, es = tNode.encs l := ⟨_, rfl⟩
  show Ok0 Try.prog 3 [.one (.pv (.sl false 7 (tNode.encs l)))] _ [] 0
  rw [← hes]
  have ht : True := trivial
  by_cases h1 : szA szNd l 1048576 < 0
  · have hm : True := trivial
    have hz : True := trivial
    have hb1 : True := trivial
    have hh : True := trivial
    have k1 : True := trivial
    have k2 : True := trivial
    refine Ok0_run (Y := (Tab.calls [(9, true, callRd I (callE I (K 9) sh9)), (11, false, callIce I (callE I (K 11) sh11)), (10, false, callVw I (callE I (K 10) sh10)), (12, false, callVw I (callE I (K 12) sh12)), (13, true, callRd I (inl X I (Tab.calls [(37, true, callRd I (callE I (K 37) sh37))]) Try.f13)), (14, true, callRd I (callE I (K 14) sh14)), (15, false, callRef I (markT I (K 15) 7)), (16, false, callRef I (inlR X I (Tab.calls [(39, false, callRef I (markT I (K 39) 1))]) Try.f16)), (17, true, callRd I (inl X I (Tab.calls [(40, true, callRd I (callE I (K 40) sh40))]) Try.f17))])) xok (TabOk.calls mixed ⟨EntryOk.rd (s9 hI k9) hI, fun _ => callRd_quiet _ _, ⟨EntryOk.own (s11 hI k11) hI, notQuiet, ⟨EntryOk.vw (s10 hI k10) hI, notQuiet, ⟨EntryOk.vw (s12 hI k12) hI, notQuiet, ⟨EntryOk.rd (s13 hI k37) hI, fun _ => callRd_quiet _ _, ⟨EntryOk.rd (s14 hI k14) hI, fun _ => callRd_quiet _ _, ⟨EntryOk.ref (s15 hI k15) hI, notQuiet, ⟨EntryOk.ref (s16 hI k39) hI, notQuiet, ⟨EntryOk.rd (s17 hI k40) hI, fun _ => callRd_quiet _ _, trivial⟩⟩⟩⟩⟩⟩⟩⟩⟩) Try.func3 rfl rfl rfl 2000 hI fun w Xs => ?_; (conv => arg 4; cbv)
    repeat' (first | ((with_reducible refine on_eqs ?_ ?_); (focus (with_reducible rfl)); conv => arg 4; cbv) | (with_reducible refine on_both ?_ ?_ <;> (conv => arg 4; cbv)) | (with_reducible refine on_true (by assumption) ?_; conv => arg 4; cbv) | (with_reducible refine on_false (by assumption) ?_; conv => arg 4; cbv) | (with_reducible refine on_ask (fun g => ?_) (fun g => ?_) <;> (have h := g) <;> (try simp (disch := omega) [hI, k9, en9, an9, k11, en11, an11, k10, en10, an10, k12, en12, an12, k37, en37, an37, k14, en14, an14, k15, en15, an15, k39, en39, an39, k40, en40, an40, tN_own, hes, hm, hb1, hh, hz, k1, k2, hdS_nil, -List.length_eq_zero_iff] at h) <;> (try (exfalso; omega)) <;> (conv => arg 4; cbv)) | ((with_reducible refine on_must ?_ ?_); (focus (first | (simp (disch := omega) [hI, k9, en9, an9, k11, en11, an11, k10, en10, an10, k12, en12, an12, k37, en37, an37, k14, en14, an14, k15, en15, an15, k39, en39, an39, k40, en40, an40, tN_own, hes, hm, hb1, hh, hz, k1, k2, hdS_nil]; done) | (simp (disch := omega) [hI, k9, en9, an9, k11, en11, an11, k10, en10, an10, k12, en12, an12, k37, en37, an37, k14, en14, an14, k15, en15, an15, k39, en39, an39, k40, en40, an40, tN_own, hes, hm, hb1, hh, hz, k1, k2, hdS_nil]; omega) | (simp (disch := omega) [hI, k9, en9, an9, k11, en11, an11, k10, en10, an10, k12, en12, an12, k37, en37, an37, k14, en14, an14, k15, en15, an15, k39, en39, an39, k40, en40, an40, tN_own, hes, hm, hb1, hh, hz, k1, k2, hdS_nil]; assumption) | (simp (disch := omega) [hI, k9, en9, an9, k11, en11, an11, k10, en10, an10, k12, en12, an12, k37, en37, an37, k14, en14, an14, k15, en15, an15, k39, en39, an39, k40, en40, an40, tN_own, hes, hm, hb1, hh, hz, k1, k2, hdS_nil]; (refine And.intro ?_ ?_) <;> (first | omega | assumption)) | (simp (disch := omega) [hI, k9, en9, an9, k11, en11, an11, k10, en10, an10, k12, en12, an12, k37, en37, an37, k14, en14, an14, k15, en15, an15, k39, en39, an39, k40, en40, an40, tN_own, hes, hm, hb1, hh, hz, k1, k2, hdS_nil]; (repeat' (refine And.intro ?_ ?_)) <;> (first | omega | assumption)))); conv => arg 4; cbv))
    (with_reducible refine on_ret ?_); refine Ended_of rfl ?_; (conv => lhs; cbv); rfl
  · obtain ⟨d0, d1, d2⟩ := szA_ok (B := fun e => e.cells.length ≤ 9223372036854775807) szNd_ok b0 c0 (by omega) (by omega) (Int.not_lt.1 h1)
    have d3 : ∀ e ∈ l, e.cells.length < 4611686018427387904 := fun e he => Nat.lt_of_le_of_lt (d1 e he) (by omega)
    have k1 : okPlan l = true := by
      unfold okPlan
      simp only [Bool.and_eq_true, decide_eq_true_eq, List.all_eq_true]
      exact ⟨by omega, d3⟩
    have k2 : cellsOk l = true := by
      unfold cellsOk
      simp only [decide_eq_true_eq, List.all_eq_true]
      exact d1
    have hm : ¬ (mkS fNode l 1).2 < 0 := by
      have := mkNode_nn l 1 (by omega) d1 (by omega)
      omega
    by_cases hz : planF l = 0
    · have h8 := (planF_wid hz).1
      have f1 : (deadL l).length ≤ l.length := deadLp_len l l.length 0
      have hb1 : ¬ (mkS fI64 (deadL l) 1).2 < 0 := by
        have := mkI_n (deadL l) 1 (by omega) (by omega)
        omega
      have hh : hdS hI64 (mkS fI64 (deadL l) 1).1 1 = (mkS fI64 (deadL l) 1).2 := hd_mkI64 _ 1
      refine Ok0_run (Y := (Tab.calls [(9, true, callRd I (callE I (K 9) sh9)), (11, false, callIce I (callE I (K 11) sh11)), (10, false, callVw I (callE I (K 10) sh10)), (12, false, callVw I (callE I (K 12) sh12)), (13, true, callRd I (inl X I (Tab.calls [(37, true, callRd I (callE I (K 37) sh37))]) Try.f13)), (14, true, callRd I (callE I (K 14) sh14)), (15, false, callRef I (markT I (K 15) 7)), (16, false, callRef I (inlR X I (Tab.calls [(39, false, callRef I (markT I (K 39) 1))]) Try.f16)), (17, true, callRd I (inl X I (Tab.calls [(40, true, callRd I (callE I (K 40) sh40))]) Try.f17))])) xok (TabOk.calls mixed ⟨EntryOk.rd (s9 hI k9) hI, fun _ => callRd_quiet _ _, ⟨EntryOk.own (s11 hI k11) hI, notQuiet, ⟨EntryOk.vw (s10 hI k10) hI, notQuiet, ⟨EntryOk.vw (s12 hI k12) hI, notQuiet, ⟨EntryOk.rd (s13 hI k37) hI, fun _ => callRd_quiet _ _, ⟨EntryOk.rd (s14 hI k14) hI, fun _ => callRd_quiet _ _, ⟨EntryOk.ref (s15 hI k15) hI, notQuiet, ⟨EntryOk.ref (s16 hI k39) hI, notQuiet, ⟨EntryOk.rd (s17 hI k40) hI, fun _ => callRd_quiet _ _, trivial⟩⟩⟩⟩⟩⟩⟩⟩⟩) Try.func3 rfl rfl rfl 2000 hI fun w Xs => ?_; (conv => arg 4; cbv)
      repeat' (first | ((with_reducible refine on_eqs ?_ ?_); (focus (with_reducible rfl)); conv => arg 4; cbv) | (with_reducible refine on_both ?_ ?_ <;> (conv => arg 4; cbv)) | (with_reducible refine on_true (by assumption) ?_; conv => arg 4; cbv) | (with_reducible refine on_false (by assumption) ?_; conv => arg 4; cbv) | (with_reducible refine on_ask (fun g => ?_) (fun g => ?_) <;> (have h := g) <;> (try simp (disch := omega) [hI, k9, en9, an9, k11, en11, an11, k10, en10, an10, k12, en12, an12, k37, en37, an37, k14, en14, an14, k15, en15, an15, k39, en39, an39, k40, en40, an40, tN_own, hes, hm, hb1, hh, hz, k1, k2, hdS_nil, -List.length_eq_zero_iff] at h) <;> (try (exfalso; omega)) <;> (conv => arg 4; cbv)) | ((with_reducible refine on_must ?_ ?_); (focus (first | (simp (disch := omega) [hI, k9, en9, an9, k11, en11, an11, k10, en10, an10, k12, en12, an12, k37, en37, an37, k14, en14, an14, k15, en15, an15, k39, en39, an39, k40, en40, an40, tN_own, hes, hm, hb1, hh, hz, k1, k2, hdS_nil]; done) | (simp (disch := omega) [hI, k9, en9, an9, k11, en11, an11, k10, en10, an10, k12, en12, an12, k37, en37, an37, k14, en14, an14, k15, en15, an15, k39, en39, an39, k40, en40, an40, tN_own, hes, hm, hb1, hh, hz, k1, k2, hdS_nil]; omega) | (simp (disch := omega) [hI, k9, en9, an9, k11, en11, an11, k10, en10, an10, k12, en12, an12, k37, en37, an37, k14, en14, an14, k15, en15, an15, k39, en39, an39, k40, en40, an40, tN_own, hes, hm, hb1, hh, hz, k1, k2, hdS_nil]; assumption) | (simp (disch := omega) [hI, k9, en9, an9, k11, en11, an11, k10, en10, an10, k12, en12, an12, k37, en37, an37, k14, en14, an14, k15, en15, an15, k39, en39, an39, k40, en40, an40, tN_own, hes, hm, hb1, hh, hz, k1, k2, hdS_nil]; (refine And.intro ?_ ?_) <;> (first | omega | assumption)) | (simp (disch := omega) [hI, k9, en9, an9, k11, en11, an11, k10, en10, an10, k12, en12, an12, k37, en37, an37, k14, en14, an14, k15, en15, an15, k39, en39, an39, k40, en40, an40, tN_own, hes, hm, hb1, hh, hz, k1, k2, hdS_nil]; (repeat' (refine And.intro ?_ ?_)) <;> (first | omega | assumption)))); conv => arg 4; cbv))
      all_goals first
        | ((with_reducible refine on_ret ?_); refine Ended_of rfl ?_; (conv => lhs; cbv); rfl)
        | (exfalso; omega)
        | (exfalso; simp_all; done)
        | (exfalso; simp_all; omega)
    · have hb1 : True := trivial
      have hh : True := trivial
      refine Ok0_run (Y := (Tab.calls [(9, true, callRd I (callE I (K 9) sh9)), (11, false, callIce I (callE I (K 11) sh11)), (10, false, callVw I (callE I (K 10) sh10)), (12, false, callVw I (callE I (K 12) sh12)), (13, true, callRd I (inl X I (Tab.calls [(37, true, callRd I (callE I (K 37) sh37))]) Try.f13)), (14, true, callRd I (callE I (K 14) sh14)), (15, false, callRef I (markT I (K 15) 7)), (16, false, callRef I (inlR X I (Tab.calls [(39, false, callRef I (markT I (K 39) 1))]) Try.f16)), (17, true, callRd I (inl X I (Tab.calls [(40, true, callRd I (callE I (K 40) sh40))]) Try.f17))])) xok (TabOk.calls mixed ⟨EntryOk.rd (s9 hI k9) hI, fun _ => callRd_quiet _ _, ⟨EntryOk.own (s11 hI k11) hI, notQuiet, ⟨EntryOk.vw (s10 hI k10) hI, notQuiet, ⟨EntryOk.vw (s12 hI k12) hI, notQuiet, ⟨EntryOk.rd (s13 hI k37) hI, fun _ => callRd_quiet _ _, ⟨EntryOk.rd (s14 hI k14) hI, fun _ => callRd_quiet _ _, ⟨EntryOk.ref (s15 hI k15) hI, notQuiet, ⟨EntryOk.ref (s16 hI k39) hI, notQuiet, ⟨EntryOk.rd (s17 hI k40) hI, fun _ => callRd_quiet _ _, trivial⟩⟩⟩⟩⟩⟩⟩⟩⟩) Try.func3 rfl rfl rfl 2000 hI fun w Xs => ?_; (conv => arg 4; cbv)
      repeat' (first | ((with_reducible refine on_eqs ?_ ?_); (focus (with_reducible rfl)); conv => arg 4; cbv) | (with_reducible refine on_both ?_ ?_ <;> (conv => arg 4; cbv)) | (with_reducible refine on_true (by assumption) ?_; conv => arg 4; cbv) | (with_reducible refine on_false (by assumption) ?_; conv => arg 4; cbv) | (with_reducible refine on_ask (fun g => ?_) (fun g => ?_) <;> (have h := g) <;> (try simp (disch := omega) [hI, k9, en9, an9, k11, en11, an11, k10, en10, an10, k12, en12, an12, k37, en37, an37, k14, en14, an14, k15, en15, an15, k39, en39, an39, k40, en40, an40, tN_own, hes, hm, hb1, hh, hz, k1, k2, hdS_nil, -List.length_eq_zero_iff] at h) <;> (try (exfalso; omega)) <;> (conv => arg 4; cbv)) | ((with_reducible refine on_must ?_ ?_); (focus (first | (simp (disch := omega) [hI, k9, en9, an9, k11, en11, an11, k10, en10, an10, k12, en12, an12, k37, en37, an37, k14, en14, an14, k15, en15, an15, k39, en39, an39, k40, en40, an40, tN_own, hes, hm, hb1, hh, hz, k1, k2, hdS_nil]; done) | (simp (disch := omega) [hI, k9, en9, an9, k11, en11, an11, k10, en10, an10, k12, en12, an12, k37, en37, an37, k14, en14, an14, k15, en15, an15, k39, en39, an39, k40, en40, an40, tN_own, hes, hm, hb1, hh, hz, k1, k2, hdS_nil]; omega) | (simp (disch := omega) [hI, k9, en9, an9, k11, en11, an11, k10, en10, an10, k12, en12, an12, k37, en37, an37, k14, en14, an14, k15, en15, an15, k39, en39, an39, k40, en40, an40, tN_own, hes, hm, hb1, hh, hz, k1, k2, hdS_nil]; assumption) | (simp (disch := omega) [hI, k9, en9, an9, k11, en11, an11, k10, en10, an10, k12, en12, an12, k37, en37, an37, k14, en14, an14, k15, en15, an15, k39, en39, an39, k40, en40, an40, tN_own, hes, hm, hb1, hh, hz, k1, k2, hdS_nil]; (refine And.intro ?_ ?_) <;> (first | omega | assumption)) | (simp (disch := omega) [hI, k9, en9, an9, k11, en11, an11, k10, en10, an10, k12, en12, an12, k37, en37, an37, k14, en14, an14, k15, en15, an15, k39, en39, an39, k40, en40, an40, tN_own, hes, hm, hb1, hh, hz, k1, k2, hdS_nil]; (repeat' (refine And.intro ?_ ?_)) <;> (first | omega | assumption)))); conv => arg 4; cbv))
      all_goals first
        | ((with_reducible refine on_ret ?_); refine Ended_of rfl ?_; (conv => lhs; cbv); rfl)
        | (exfalso; omega)
        | (exfalso; simp_all; done)
        | (exfalso; simp_all; omega)

end Go.Proofs.Try
