/- Contracts. -/
import Derived.Test.YtiieincddkhcdaaGreatBp
import Derived.Test.YtiieincddkhcdaaGreatCo
set_option linter.unusedSimpArgs false
set_option linter.unusedVariables false
namespace Go.Proofs.Tryz
open Go Go.Aix
set_option maxRecDepth 100000
set_option maxHeartbeats 4000000
noncomputable def Y6 (I : Ops) (K : FuncId → En) : CallsA := (Tab.calls [(10, true, callRd I (inl X I (Y10 I K) Tryz.f10)), (12, false, callIce I (inl X I (Y12 I K) Tryz.f12)), (20, false, callIce I (callE I (K 20) sh20)), (21, false, callVw I (callE I (K 21) sh21)), (22, true, callRd I (inl X I (Y22 I K) Tryz.f22)), (15, true, callRd I (inl X I (Y15 I K) Tryz.f15)), (23, false, callRef I (inlR X I (Y23 I K) Tryz.f23)), (24, false, callRef I (inlR X I (Y24 I K) Tryz.f24)), (25, true, callRd I (inl X I (Y25 I K) Tryz.f25))])
theorem tY6 {I : Ops} (hI : I = real) {K : FuncId → En} (k38 : K 38 = en38) (k39 : K 39 = en39) (k40 : K 40 = en40) (k43 : K 43 = en43) (k44 : K 44 = en44) (k45 : K 45 = en45) (k20 : K 20 = en20) (k21 : K 21 = en21) (k60 : K 60 = en60) (k50 : K 50 = en50) (k51 : K 51 = en51) (k52 : K 52 = en52) (k61 : K 61 = en61) (k62 : K 62 = en62) (k63 : K 63 = en63) (k64 : K 64 = en64) (k65 : K 65 = en65) : CallsOk Tryz.prog (Y6 I K) := (TabOk.calls mixed ⟨EntryOk.rd (s10 hI k38 k39 k40) hI, fun _ => callRd_quiet _ _, ⟨EntryOk.own (s12 hI k43 k44 k45) hI, notQuiet, ⟨EntryOk.own (s20 hI k20) hI, notQuiet, ⟨EntryOk.vw (s21 hI k21) hI, notQuiet, ⟨EntryOk.rd (s22 hI k60) hI, fun _ => callRd_quiet _ _, ⟨EntryOk.rd (s15 hI k50 k51 k52) hI, fun _ => callRd_quiet _ _, ⟨EntryOk.ref (s23 hI k61 k62 k63) hI, notQuiet, ⟨EntryOk.ref (s24 hI k64) hI, notQuiet, ⟨EntryOk.rd (s25 hI k65) hI, fun _ => callRd_quiet _ _, trivial⟩⟩⟩⟩⟩⟩⟩⟩⟩)
theorem lawC6 (c : CluV) (hzc : zClu c = true) : Ok0 Tryz.prog 6 [(pS tClu).enc c] (scal (.bool true)) [] 0 := by
  obtain ⟨I, hI⟩ : ∃ I, I = real := ⟨_, rfl⟩; obtain ⟨K, k38, k39, k40, k43, k44, k45, k20, k21, k60, k50, k51, k52, k61, k62, k63, k64, k65⟩ : ∃ K : FuncId → En, K 38 = en38 ∧ K 39 = en39 ∧ K 40 = en40 ∧ K 43 = en43 ∧ K 44 = en44 ∧ K 45 = en45 ∧ K 20 = en20 ∧ K 21 = en21 ∧ K 60 = en60 ∧ K 50 = en50 ∧ K 51 = en51 ∧ K 52 = en52 ∧ K 61 = en61 ∧ K 62 = en62 ∧ K 63 = en63 ∧ K 64 = en64 ∧ K 65 = en65 := ⟨fun g => (lk g [(38, en38), (39, en39), (40, en40), (43, en43), (44, en44), (45, en45), (20, en20), (21, en21), (60, en60), (50, en50), (51, en51), (52, en52), (61, en61), (62, en62), (63, en63), (64, en64), (65, en65)]).getD default, rfl, rfl, rfl, rfl, rfl, rfl, rfl, rfl, rfl, rfl, rfl, rfl, rfl, rfl, rfl, rfl, rfl⟩
  obtain ⟨pl, wk, lk⟩ := c
  have hzc : zNodeS pl = true ∧ zWorkerS wk = true ∧ zLinkS lk = true := by
    unfold zClu at hzc
    simpa only [Bool.and_eq_true, and_assoc] using hzc
  obtain ⟨z0, z1, z2⟩ := hzc
  obtain ⟨e0, he0⟩ : ∃ e, e = tNode.encs pl := ⟨_, rfl⟩
  obtain ⟨e1, he1⟩ : ∃ e, e = tWorker.encs wk := ⟨_, rfl⟩
  obtain ⟨e2, he2⟩ : ∃ e, e = tLink.encs lk := ⟨_, rfl⟩
  show Ok0 Tryz.prog 6 [.ag [.pv (.sl false 7 (tNode.encs pl)), .pv (.sl false 7 (tWorker.encs wk)), .pv (.sl false 1 (tLink.encs lk))]] _ [] 0
  rw [← he0, ← he1, ← he2]
  refine if s1 : szA szNodef pl 1048576 < 0 then ?_ else if s2 : szA szWorkerf wk (szA szNodef pl 1048576) < 0 then ?_ else if s3 : szA szLinkf lk (szA szWorkerf wk (szA szNodef pl 1048576)) < 0 then ?_ else ?_
  (focus (have hb : True := trivial; have b0 : True := trivial; have b1 : True := trivial; have b2 : True := trivial; have hm : True := trivial; have hz : True := trivial; have hE : True := trivial; have hb1 : True := trivial; have hh : True := trivial; have hbI : True := trivial))
  rotate_left
  (focus (have hb : True := trivial; have b0 : True := trivial; have b1 : True := trivial; have b2 : True := trivial; have hm : True := trivial; have hz : True := trivial; have hE : True := trivial; have hb1 : True := trivial; have hh : True := trivial; have hbI : True := trivial))
  rotate_left
  (focus (have hb : True := trivial; have b0 : True := trivial; have b1 : True := trivial; have b2 : True := trivial; have hm : True := trivial; have hz : True := trivial; have hE : True := trivial; have hb1 : True := trivial; have hh : True := trivial; have hbI : True := trivial))
  rotate_left
  obtain ⟨b0, d0⟩ := szNodeS_ok z0 (by omega) (by omega) (Int.not_lt.1 s1)
  obtain ⟨b1, d1⟩ := szWorkerS_ok z1 (by omega) (by omega) (Int.not_lt.1 s2)
  obtain ⟨b2, d2⟩ := szLinkS_ok z2 (by omega) (by omega) (Int.not_lt.1 s3)
  have hb : bClu ⟨pl, wk, lk⟩ = true := by unfold bClu; simp only [Bool.and_eq_true]; exact ⟨⟨b0, b1⟩, b2⟩
  have u1 := fNodeS_bd z0 (k := 1) (by omega) (by omega) (by omega) (by omega) (Int.not_lt.1 s1)
  have u2 := fWorkerS_bd z1 (k := (mkS fNode pl 1).2) (by omega) (by omega) (by omega) (by omega) (Int.not_lt.1 s2)
  have u3 := fLinkS_bd z2 (k := (mkS fWorker wk (mkS fNode pl 1).2).2) (by omega) (by omega) (by omega) (by omega) (Int.not_lt.1 s3)
  have hm : ¬ (mkS fLink lk (mkS fWorker wk (mkS fNode pl 1).2).2).2 < 0 := by omega
  clear u1 u2 u3 d0 d1 d2
  refine if hz : cluF ⟨pl, wk, lk⟩ = 0 then ?_ else ?_
  rotate_left
  (focus (have hE : emB (cluF ⟨pl, wk, lk⟩) (badL ⟨pl, wk, lk⟩) = true := (by simp [emB, hz]); have hb1 : True := trivial; have hbI : bI [] = true := rfl; have hh : True := trivial))
  rotate_right
  have hl : (badL ⟨pl, wk, lk⟩).length ≤ 1000000 := by have := idxP_len badP wk 0; have h9 := (cluF_ok hz).2.1; dsimp only at h9; show (idxP badP wk 0).length ≤ _; omega
  have hbI : bI (badL ⟨pl, wk, lk⟩) = true := decide_eq_true (by omega)
  have hb1 : ¬ (mkS fI64 (badL ⟨pl, wk, lk⟩) 1).2 < 0 := by
    have := mkI_n (badL ⟨pl, wk, lk⟩) 1 (by omega) (by omega)
    omega
  have hh : hdS hI64 (mkS fI64 (badL ⟨pl, wk, lk⟩) 1).1 1 = (mkS fI64 (badL ⟨pl, wk, lk⟩) 1).2 := hd_mkI64 _ 1
  refine if hL : badL ⟨pl, wk, lk⟩ = [] then ?_ else ?_
  (focus (have hE : emB (cluF ⟨pl, wk, lk⟩) (badL ⟨pl, wk, lk⟩) = true := (by simp [emB, hL])))
  rotate_left
  (focus (have hE : emB (cluF ⟨pl, wk, lk⟩) (badL ⟨pl, wk, lk⟩) = false := (by simp [emB, hL, hz])))
  rotate_left
  all_goals
    refine Ok0_run (Y := (Y6 I K)) xok (tY6 hI k38 k39 k40 k43 k44 k45 k20 k21 k60 k50 k51 k52 k61 k62 k63 k64 k65) Tryz.func6 rfl rfl rfl 2000 hI fun w Xs => ?_; (conv => arg 4; cbv)
    repeat' ((first | ((with_reducible refine on_eqs ?_ ?_); (focus (with_reducible rfl))) | (with_reducible refine on_both ?_ ?_) | (with_reducible refine on_true (by assumption) ?_) | (with_reducible refine on_false (by assumption) ?_) | (with_reducible refine on_ask (fun g => ?_) (fun g => ?_) <;> (have h := g) <;> (try simp (disch := omega) [hI, k38, en38, an38, k39, en39, an39, k40, en40, an40, k43, en43, an43, k44, en44, an44, k45, en45, an45, k20, en20, an20, k21, en21, an21, k60, en60, an60, k50, en50, an50, k51, en51, an51, k52, en52, an52, k61, en61, an61, k62, en62, an62, k63, en63, an63, k64, en64, an64, k65, en65, an65, he0, he1, he2, z0, z1, z2, hb, b0, b1, b2, hm, hz, hE, hb1, hh, hbI, hdS_nil, -List.length_eq_zero_iff] at h) <;> (try (exfalso; omega))) | ((with_reducible refine on_must ?_ ?_); (focus (simp (disch := omega) [hI, k38, en38, an38, k39, en39, an39, k40, en40, an40, k43, en43, an43, k44, en44, an44, k45, en45, an45, k20, en20, an20, k21, en21, an21, k60, en60, an60, k50, en50, an50, k51, en51, an51, k52, en52, an52, k61, en61, an61, k62, en62, an62, k63, en63, an63, k64, en64, an64, k65, en65, an65, he0, he1, he2, z0, z1, z2, hb, b0, b1, b2, hm, hz, hE, hb1, hh, hbI, hdS_nil] <;> exact mt)))) <;> (conv => arg 4; cbv))
    all_goals (try (first | ((with_reducible refine on_any ?_); refine W_early (Y := (Y6 I K)) xok (tY6 hI k38 k39 k40 k43 k44 k45 k20 k21 k60 k50 k51 k52 k61 k62 k63 k64 k65) mixed hI rfl (by kernel_rfl) rfl rfl ?_; (conv => arg 4; cbv)) | ((with_reducible refine on_any ?_); refine W_any (Y := (Y6 I K)) xok (tY6 hI k38 k39 k40 k43 k44 k45 k20 k21 k60 k50 k51 k52 k61 k62 k63 k64 k65) mixed hI rfl (by kernel_rfl) rfl rfl ?_; (conv => arg 4; cbv))))
    repeat' ((first | ((with_reducible refine on_eqs ?_ ?_); (focus (with_reducible rfl))) | (with_reducible refine on_both ?_ ?_) | (with_reducible refine on_true (by assumption) ?_) | (with_reducible refine on_false (by assumption) ?_) | (with_reducible refine on_ask (fun g => ?_) (fun g => ?_) <;> (have h := g) <;> (try simp (disch := omega) [hI, k38, en38, an38, k39, en39, an39, k40, en40, an40, k43, en43, an43, k44, en44, an44, k45, en45, an45, k20, en20, an20, k21, en21, an21, k60, en60, an60, k50, en50, an50, k51, en51, an51, k52, en52, an52, k61, en61, an61, k62, en62, an62, k63, en63, an63, k64, en64, an64, k65, en65, an65, he0, he1, he2, z0, z1, z2, hb, b0, b1, b2, hm, hz, hE, hb1, hh, hbI, hdS_nil, -List.length_eq_zero_iff] at h) <;> (try (exfalso; omega))) | ((with_reducible refine on_must ?_ ?_); (focus (simp (disch := omega) [hI, k38, en38, an38, k39, en39, an39, k40, en40, an40, k43, en43, an43, k44, en44, an44, k45, en45, an45, k20, en20, an20, k21, en21, an21, k60, en60, an60, k50, en50, an50, k51, en51, an51, k52, en52, an52, k61, en61, an61, k62, en62, an62, k63, en63, an63, k64, en64, an64, k65, en65, an65, he0, he1, he2, z0, z1, z2, hb, b0, b1, b2, hm, hz, hE, hb1, hh, hbI, hdS_nil] <;> exact mt)))) <;> (conv => arg 4; cbv))
    all_goals (try ((with_reducible refine on_any ?_); refine W_behind (Y := (Y6 I K)) xok (tY6 hI k38 k39 k40 k43 k44 k45 k20 k21 k60 k50 k51 k52 k61 k62 k63 k64 k65) Tryz.func6 rfl 2000 _ hI ?_; (conv => arg 4; cbv)))
    repeat' ((first | ((with_reducible refine on_eqs ?_ ?_); (focus (with_reducible rfl))) | (with_reducible refine on_both ?_ ?_) | (with_reducible refine on_true (by assumption) ?_) | (with_reducible refine on_false (by assumption) ?_) | (with_reducible refine on_ask (fun g => ?_) (fun g => ?_) <;> (have h := g) <;> (try simp (disch := omega) [hI, k38, en38, an38, k39, en39, an39, k40, en40, an40, k43, en43, an43, k44, en44, an44, k45, en45, an45, k20, en20, an20, k21, en21, an21, k60, en60, an60, k50, en50, an50, k51, en51, an51, k52, en52, an52, k61, en61, an61, k62, en62, an62, k63, en63, an63, k64, en64, an64, k65, en65, an65, he0, he1, he2, z0, z1, z2, hb, b0, b1, b2, hm, hz, hE, hb1, hh, hbI, hdS_nil, -List.length_eq_zero_iff] at h) <;> (try (exfalso; omega))) | ((with_reducible refine on_must ?_ ?_); (focus (simp (disch := omega) [hI, k38, en38, an38, k39, en39, an39, k40, en40, an40, k43, en43, an43, k44, en44, an44, k45, en45, an45, k20, en20, an20, k21, en21, an21, k60, en60, an60, k50, en50, an50, k51, en51, an51, k52, en52, an52, k61, en61, an61, k62, en62, an62, k63, en63, an63, k64, en64, an64, k65, en65, an65, he0, he1, he2, z0, z1, z2, hb, b0, b1, b2, hm, hz, hE, hb1, hh, hbI, hdS_nil] <;> exact mt)))) <;> (conv => arg 4; cbv))
    all_goals first
      | ((with_reducible refine on_ret ?_); refine Ended_of rfl ?_; (conv => lhs; cbv); rfl)
      | (exfalso; omega)
      | (exfalso; simp_all; done)
      | (exfalso; simp_all; omega)
theorem law6 (c : ClusterV) (g : gCluster c) : Ok0 Tryz.prog 6 [(pS tCluster).enc c] (scal (.bool true)) [] 0 := by
  rw [ofClu_enc]
  exact lawC6 (ofClu c)  (zClu_g g)
end Go.Proofs.Tryz
