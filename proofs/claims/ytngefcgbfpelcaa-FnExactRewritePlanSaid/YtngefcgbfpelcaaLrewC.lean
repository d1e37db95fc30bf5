/- Contracts. -/
import Derived.Test.YtngefcgbfpelcaaLrewB
set_option linter.unusedSimpArgs false
set_option linter.unusedVariables false
namespace Go.Proofs.Try
open Go Go.Aix
set_option maxRecDepth 100000
set_option maxHeartbeats 4000000
set_option linter.unusedSimpArgs false
set_option linter.unusedVariables false
noncomputable def Y8 (I : Ops) (K : FuncId → En) : CallsA := (Tab.calls [(9, true, callRd I (callE I (K 9) sh9)), (11, false, callIce I (callE I (K 11) sh11)), (29, false, callIce I (callE I (K 29) sh29)), (30, false, callVw I (callE I (K 30) sh30)), (20, true, callRd I (inl X I (Y20 I K) Try.f20)), (14, true, callRd I (callE I (K 14) sh14)), (15, false, callRef I (markT I (K 15) 7)), (21, false, callRef I (inlR X I (Y21 I K) Try.f21)), (22, true, callRd I (inl X I (Y22 I K) Try.f22))])
theorem tY8 {I : Ops} (hI : I = real) {K : FuncId → En} (k9 : K 9 = en9) (k11 : K 11 = en11) (k29 : K 29 = en29) (k30 : K 30 = en30) (k14 : K 14 = en14) (k15 : K 15 = en15) (k44 : K 44 = en44) : CallsOk Try.prog (Y8 I K) := (TabOk.calls mixed ⟨EntryOk.rd (s9 hI k9) hI, fun _ => callRd_quiet _ _, ⟨EntryOk.own (s11 hI k11) hI, notQuiet, ⟨EntryOk.own (s29 hI k29) hI, notQuiet, ⟨EntryOk.vw (s30 hI k30) hI, notQuiet, ⟨EntryOk.rd (s20 hI k14) hI, fun _ => callRd_quiet _ _, ⟨EntryOk.rd (s14 hI k14) hI, fun _ => callRd_quiet _ _, ⟨EntryOk.ref (s15 hI k15) hI, notQuiet, ⟨EntryOk.ref (s21 hI k15) hI, notQuiet, ⟨EntryOk.rd (s22 hI k44) hI, fun _ => callRd_quiet _ _, trivial⟩⟩⟩⟩⟩⟩⟩⟩⟩)

theorem law8 (l : List NodeV) (g0 : gL gNode l) : Ok0 Try.prog 8 [(pL tNode).enc l] (scal (.bool true)) [] 0 := by
  obtain ⟨I, hI⟩ : ∃ I, I = real := ⟨_, rfl⟩; obtain ⟨K, hK⟩ : ∃ K : FuncId → En, K = fun g => (lk g [(9, en9), (11, en11), (29, en29), (30, en30), (14, en14), (15, en15), (44, en44)]).getD default := ⟨_, rfl⟩; have k9 : K 9 = en9 := (by subst hK; rfl); have k11 : K 11 = en11 := (by subst hK; rfl); have k29 : K 29 = en29 := (by subst hK; rfl); have k30 : K 30 = en30 := (by subst hK; rfl); have k14 : K 14 = en14 := (by subst hK; rfl); have k15 : K 15 = en15 := (by subst hK; rfl); have k44 : K 44 = en44 := (by subst hK; rfl); clear hK
  have b0 : l.length ≤ 9223372036854775807 := g0.1
  have c0 : ∀ e ∈ l, e.cells.length ≤ 9223372036854775807 := fun e he => (g0.2 e he).2.2.2.2.2.2.1
  obtain ⟨es, hes⟩ : ∃ es, es = tNode.encs l := ⟨_, rfl⟩
  show Ok0 Try.prog 8 [.one (.pv (.sl false 7 (tNode.encs l)))] _ [] 0
  rw [← hes]
  have ht : True := trivial
  by_cases h1 : szA szNd l 1048576 < 0
  · have hm : True := trivial
    have hz : True := trivial
    have hb1 : True := trivial
    have hh : True := trivial
    have k1 : True := trivial
    have k2 : True := trivial
    refine Ok0_run (Y := (Y8 I K)) xok (tY8 hI k9 k11 k29 k30 k14 k15 k44) Try.func8 rfl rfl rfl 2000 hI fun w Xs => ?_; (conv => arg 4; cbv)
    repeat' (first | ((with_reducible refine on_eqs ?_ ?_); (focus (with_reducible rfl)); conv => arg 4; cbv) | (with_reducible refine on_both ?_ ?_ <;> (conv => arg 4; cbv)) | (with_reducible refine on_true (by assumption) ?_; conv => arg 4; cbv) | (with_reducible refine on_false (by assumption) ?_; conv => arg 4; cbv) | (with_reducible refine on_ask (fun g => ?_) (fun g => ?_) <;> (have h := g) <;> (try simp (disch := omega) [hI, k9, en9, an9, k11, en11, an11, k29, en29, an29, k30, en30, an30, k14, en14, an14, k15, en15, an15, k44, en44, an44, tN_own, hes, hm, hb1, hh, hz, k1, k2, hdS_nil, -List.length_eq_zero_iff] at h) <;> (try (exfalso; omega)) <;> (conv => arg 4; cbv)) | ((with_reducible refine on_must ?_ ?_); (focus ((simp (disch := omega) [hI, k9, en9, an9, k11, en11, an11, k29, en29, an29, k30, en30, an30, k14, en14, an14, k15, en15, an15, k44, en44, an44, tN_own, hes, hm, hb1, hh, hz, k1, k2, hdS_nil]) <;> (first | omega | assumption | ((repeat' (refine And.intro ?_ ?_)) <;> (first | omega | assumption))))); conv => arg 4; cbv))
    (with_reducible refine on_ret ?_); refine Ended_of rfl ?_; (conv => lhs; cbv); rfl
  · obtain ⟨d0, d1, d2⟩ := szA_ok (B := fun e => e.cells.length ≤ 9223372036854775807) szNd_ok b0 c0 (by omega) (by omega) (Int.not_lt.1 h1)
    have d3 : ∀ e ∈ l, e.cells.length < 4611686018427387904 := fun e he => Nat.lt_of_le_of_lt (d1 e he) (by omega)
    have k1 : okPlan l = true := by
      unfold okPlan
      simp only [Bool.and_eq_true, decide_eq_true_eq, List.all_eq_true]
      exact ⟨by omega, d3⟩
    have k2 : cellsOk l = true := by
      unfold cellsOk
      simp only [decide_eq_true_eq, List.all_eq_true]
      exact d1
    have hm : ¬ (mkS fNode l 1).2 < 0 := by
      have := mkNode_nn l 1 (by omega) d1 (by omega)
      omega
    by_cases hz : planF l = 0
    · obtain ⟨f1, f2⟩ := rewF_ok hz k2
      have h8 := (planF_wid hz).1
      have f3 : ∀ e ∈ (rewF l).1, e.cells.length ≤ 1048576 := by
        have f2 := f2
        unfold cellsOk at f2
        simpa only [decide_eq_true_eq, List.all_eq_true] using f2
      have f4 : ∀ e ∈ (rewF l).1, e.cells.length < 4611686018427387904 := fun e he => Nat.lt_of_le_of_lt (f3 e he) (by omega)
      have f5 : ∀ e ∈ (mkS fNode (rewF l).1 1).1, e.cells.length < 4611686018427387904 := fun e he => Nat.lt_of_le_of_lt (mkNode_cells _ 1 f3 e he) (by omega)
      have hb1 : ¬ (mkS fNode (rewF l).1 1).2 < 0 := by
        have := mkNode_nn (rewF l).1 1 (by omega) f3 (by omega)
        omega
      have hh : hdS hNode (mkS fNode (rewF l).1 1).1 1 = (mkS fNode (rewF l).1 1).2 := hd_mkNode _ 1 (by omega) f3 (by omega)
      refine Ok0_run (Y := (Y8 I K)) xok (tY8 hI k9 k11 k29 k30 k14 k15 k44) Try.func8 rfl rfl rfl 2000 hI fun w Xs => ?_; (conv => arg 4; cbv)
      repeat' (first | ((with_reducible refine on_eqs ?_ ?_); (focus (with_reducible rfl)); conv => arg 4; cbv) | (with_reducible refine on_both ?_ ?_ <;> (conv => arg 4; cbv)) | (with_reducible refine on_true (by assumption) ?_; conv => arg 4; cbv) | (with_reducible refine on_false (by assumption) ?_; conv => arg 4; cbv) | (with_reducible refine on_ask (fun g => ?_) (fun g => ?_) <;> (have h := g) <;> (try simp (disch := omega) [hI, k9, en9, an9, k11, en11, an11, k29, en29, an29, k30, en30, an30, k14, en14, an14, k15, en15, an15, k44, en44, an44, tN_own, hes, hm, hb1, hh, hz, k1, k2, hdS_nil, -List.length_eq_zero_iff] at h) <;> (try (exfalso; omega)) <;> (conv => arg 4; cbv)) | ((with_reducible refine on_must ?_ ?_); (focus ((simp (disch := omega) [hI, k9, en9, an9, k11, en11, an11, k29, en29, an29, k30, en30, an30, k14, en14, an14, k15, en15, an15, k44, en44, an44, tN_own, hes, hm, hb1, hh, hz, k1, k2, hdS_nil]) <;> (first | omega | assumption | ((repeat' (refine And.intro ?_ ?_)) <;> (first | omega | assumption))))); conv => arg 4; cbv))
      all_goals first
        | ((with_reducible refine on_ret ?_); refine Ended_of rfl ?_; (conv => lhs; cbv); rfl)
        | (exfalso; omega)
        | (exfalso; simp_all; done)
        | (exfalso; simp_all; omega)
    · have hb1 : True := trivial
      have hh : True := trivial
      refine Ok0_run (Y := (Y8 I K)) xok (tY8 hI k9 k11 k29 k30 k14 k15 k44) Try.func8 rfl rfl rfl 2000 hI fun w Xs => ?_; (conv => arg 4; cbv)
      repeat' (first | ((with_reducible refine on_eqs ?_ ?_); (focus (with_reducible rfl)); conv => arg 4; cbv) | (with_reducible refine on_both ?_ ?_ <;> (conv => arg 4; cbv)) | (with_reducible refine on_true (by assumption) ?_; conv => arg 4; cbv) | (with_reducible refine on_false (by assumption) ?_; conv => arg 4; cbv) | (with_reducible refine on_ask (fun g => ?_) (fun g => ?_) <;> (have h := g) <;> (try simp (disch := omega) [hI, k9, en9, an9, k11, en11, an11, k29, en29, an29, k30, en30, an30, k14, en14, an14, k15, en15, an15, k44, en44, an44, tN_own, hes, hm, hb1, hh, hz, k1, k2, hdS_nil, -List.length_eq_zero_iff] at h) <;> (try (exfalso; omega)) <;> (conv => arg 4; cbv)) | ((with_reducible refine on_must ?_ ?_); (focus ((simp (disch := omega) [hI, k9, en9, an9, k11, en11, an11, k29, en29, an29, k30, en30, an30, k14, en14, an14, k15, en15, an15, k44, en44, an44, tN_own, hes, hm, hb1, hh, hz, k1, k2, hdS_nil]) <;> (first | omega | assumption | ((repeat' (refine And.intro ?_ ?_)) <;> (first | omega | assumption))))); conv => arg 4; cbv))
      all_goals first
        | ((with_reducible refine on_ret ?_); refine Ended_of rfl ?_; (conv => lhs; cbv); rfl)
        | (exfalso; omega)
        | (exfalso; simp_all; done)
        | (exfalso; simp_all; omega)

end Go.Proofs.Try
