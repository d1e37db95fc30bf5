/- Contracts. -/
import Derived.Test.YtiieincddkhcdaaGreatBn
import Derived.Test.YtiieincddkhcdaaGreatCn
set_option linter.unusedSimpArgs false
set_option linter.unusedVariables false
namespace Go.Proofs.Tryz
open Go Go.Aix
set_option maxRecDepth 100000
set_option maxHeartbeats 4000000
set_option linter.unusedSimpArgs false
set_option linter.unusedVariables false
noncomputable def Y4 (I : Ops) (K : FuncId → En) : CallsA := (Tab.calls [(10, true, callRd I (inl X I (Y10 I K) Tryz.f10)), (12, false, callIce I (inl X I (Y12 I K) Tryz.f12)), (16, true, callRd I (callE I (K 16) sh16)), (17, true, callRd I (callE I (K 17) sh17)), (14, true, callRd I (inl X I (Tab.calls []) Tryz.f14)), (15, true, callRd I (inl X I (Y15 I K) Tryz.f15))])
theorem tY4 {I : Ops} (hI : I = real) {K : FuncId → En} (k38 : K 38 = en38) (k39 : K 39 = en39) (k40 : K 40 = en40) (k43 : K 43 = en43) (k44 : K 44 = en44) (k45 : K 45 = en45) (k16 : K 16 = en16) (k17 : K 17 = en17) (k50 : K 50 = en50) (k51 : K 51 = en51) (k52 : K 52 = en52) : CallsOk Tryz.prog (Y4 I K) := (TabOk.calls mixed ⟨EntryOk.rd (s10 hI k38 k39 k40) hI, fun _ => callRd_quiet _ _, ⟨EntryOk.own (s12 hI k43 k44 k45) hI, notQuiet, ⟨EntryOk.rd (s16 hI k16) hI, fun _ => callRd_quiet _ _, ⟨EntryOk.rd (s17 hI k17) hI, fun _ => callRd_quiet _ _, ⟨EntryOk.rd (s14 hI) hI, fun _ => callRd_quiet _ _, ⟨EntryOk.rd (s15 hI k50 k51 k52) hI, fun _ => callRd_quiet _ _, trivial⟩⟩⟩⟩⟩⟩)
theorem lawC4 (c : CluV) (worker view : Int) (hz : zClu c = true) : Ok0 Tryz.prog 4 [(pS tClu).enc c, pI.enc worker, pI.enc view] (scal (.bool true)) [] 0 := by
  obtain ⟨I, hI⟩ : ∃ I, I = real := ⟨_, rfl⟩; obtain ⟨K, hK⟩ : ∃ K : FuncId → En, K = fun g => (lk g [(38, en38), (39, en39), (40, en40), (43, en43), (44, en44), (45, en45), (16, en16), (17, en17), (50, en50), (51, en51), (52, en52)]).getD default := ⟨_, rfl⟩; have k38 : K 38 = en38 := (by subst hK; rfl); have k39 : K 39 = en39 := (by subst hK; rfl); have k40 : K 40 = en40 := (by subst hK; rfl); have k43 : K 43 = en43 := (by subst hK; rfl); have k44 : K 44 = en44 := (by subst hK; rfl); have k45 : K 45 = en45 := (by subst hK; rfl); have k16 : K 16 = en16 := (by subst hK; rfl); have k17 : K 17 = en17 := (by subst hK; rfl); have k50 : K 50 = en50 := (by subst hK; rfl); have k51 : K 51 = en51 := (by subst hK; rfl); have k52 : K 52 = en52 := (by subst hK; rfl); clear hK
  obtain ⟨pl, wk, lk⟩ := c
  have hz : zNodeS pl = true ∧ zWorkerS wk = true ∧ zLinkS lk = true := by
    unfold zClu at hz
    simpa only [Bool.and_eq_true, and_assoc] using hz
  obtain ⟨z0, z1, z2⟩ := hz
  obtain ⟨e0, he0⟩ : ∃ e, e = tNode.encs pl := ⟨_, rfl⟩
  obtain ⟨e1, he1⟩ : ∃ e, e = tWorker.encs wk := ⟨_, rfl⟩
  obtain ⟨e2, he2⟩ : ∃ e, e = tLink.encs lk := ⟨_, rfl⟩
  show Ok0 Tryz.prog 4 [.ag [.pv (.sl false 7 (tNode.encs pl)), .pv (.sl false 7 (tWorker.encs wk)), .pv (.sl false 1 (tLink.encs lk))], .one (.pv (.sc (.int .i64 worker))), .one (.pv (.sc (.int .i64 view)))] _ [] 0
  rw [← he0, ← he1, ← he2]
  refine if s1 : szA szNodef pl 1048576 < 0 then ?_ else if s2 : szA szWorkerf wk (szA szNodef pl 1048576) < 0 then ?_ else if s3 : szA szLinkf lk (szA szWorkerf wk (szA szNodef pl 1048576)) < 0 then ?_ else ?_
  (focus (have hb : True := trivial; have b0 : True := trivial; have b1 : True := trivial; have b2 : True := trivial))
  rotate_left
  (focus (have hb : True := trivial; have b0 : True := trivial; have b1 : True := trivial; have b2 : True := trivial))
  rotate_left
  (focus (have hb : True := trivial; have b0 : True := trivial; have b1 : True := trivial; have b2 : True := trivial))
  rotate_left
  obtain ⟨b0, d0⟩ := szNodeS_ok z0 (by omega) (by omega) (Int.not_lt.1 s1)
  obtain ⟨b1, d1⟩ := szWorkerS_ok z1 (by omega) (by omega) (Int.not_lt.1 s2)
  obtain ⟨b2, d2⟩ := szLinkS_ok z2 (by omega) (by omega) (Int.not_lt.1 s3)
  have hb : bClu ⟨pl, wk, lk⟩ = true := by unfold bClu; simp only [Bool.and_eq_true]; exact ⟨⟨b0, b1⟩, b2⟩
  all_goals
    refine Ok0_run (Y := (Y4 I K)) xok (tY4 hI k38 k39 k40 k43 k44 k45 k16 k17 k50 k51 k52) Tryz.func4 rfl rfl rfl 2000 hI fun w Xs => ?_; (conv => arg 4; cbv)
    repeat' (first | ((with_reducible refine on_eqs ?_ ?_); (focus (with_reducible rfl)); conv => arg 4; cbv) | (with_reducible refine on_both ?_ ?_ <;> (conv => arg 4; cbv)) | (with_reducible refine on_true (by assumption) ?_; conv => arg 4; cbv) | (with_reducible refine on_false (by assumption) ?_; conv => arg 4; cbv) | (with_reducible refine on_ask (fun g => ?_) (fun g => ?_) <;> (have h := g) <;> (try simp (disch := omega) [hI, k38, en38, an38, k39, en39, an39, k40, en40, an40, k43, en43, an43, k44, en44, an44, k45, en45, an45, k16, en16, an16, k17, en17, an17, k50, en50, an50, k51, en51, an51, k52, en52, an52, he0, he1, he2, hb, z0, z1, z2, b0, b1, b2, -List.length_eq_zero_iff] at h) <;> (try (exfalso; omega)) <;> (conv => arg 4; cbv)) | ((with_reducible refine on_must ?_ ?_); (focus ((simp (disch := omega) [hI, k38, en38, an38, k39, en39, an39, k40, en40, an40, k43, en43, an43, k44, en44, an44, k45, en45, an45, k16, en16, an16, k17, en17, an17, k50, en50, an50, k51, en51, an51, k52, en52, an52, he0, he1, he2, hb, z0, z1, z2, b0, b1, b2]) <;> (first | omega | assumption | ((repeat' (refine And.intro ?_ ?_)) <;> (first | omega | assumption))))); conv => arg 4; cbv))
    all_goals (try (first | ((with_reducible refine on_any ?_); refine W_early (Y := (Y4 I K)) xok (tY4 hI k38 k39 k40 k43 k44 k45 k16 k17 k50 k51 k52) mixed hI rfl (by kernel_rfl) rfl rfl ?_; (conv => arg 4; cbv)) | ((with_reducible refine on_any ?_); refine W_any (Y := (Y4 I K)) xok (tY4 hI k38 k39 k40 k43 k44 k45 k16 k17 k50 k51 k52) mixed hI rfl (by kernel_rfl) rfl rfl ?_; (conv => arg 4; cbv))))
    repeat' (first | ((with_reducible refine on_eqs ?_ ?_); (focus (with_reducible rfl)); conv => arg 4; cbv) | (with_reducible refine on_both ?_ ?_ <;> (conv => arg 4; cbv)) | (with_reducible refine on_true (by assumption) ?_; conv => arg 4; cbv) | (with_reducible refine on_false (by assumption) ?_; conv => arg 4; cbv) | (with_reducible refine on_ask (fun g => ?_) (fun g => ?_) <;> (have h := g) <;> (try simp (disch := omega) [hI, k38, en38, an38, k39, en39, an39, k40, en40, an40, k43, en43, an43, k44, en44, an44, k45, en45, an45, k16, en16, an16, k17, en17, an17, k50, en50, an50, k51, en51, an51, k52, en52, an52, he0, he1, he2, hb, z0, z1, z2, b0, b1, b2, -List.length_eq_zero_iff] at h) <;> (try (exfalso; omega)) <;> (conv => arg 4; cbv)) | ((with_reducible refine on_must ?_ ?_); (focus ((simp (disch := omega) [hI, k38, en38, an38, k39, en39, an39, k40, en40, an40, k43, en43, an43, k44, en44, an44, k45, en45, an45, k16, en16, an16, k17, en17, an17, k50, en50, an50, k51, en51, an51, k52, en52, an52, he0, he1, he2, hb, z0, z1, z2, b0, b1, b2]) <;> (first | omega | assumption | ((repeat' (refine And.intro ?_ ?_)) <;> (first | omega | assumption))))); conv => arg 4; cbv))
    all_goals (try ((with_reducible refine on_any ?_); refine W_behind (Y := (Y4 I K)) xok (tY4 hI k38 k39 k40 k43 k44 k45 k16 k17 k50 k51 k52) Tryz.func4 rfl 2000 _ hI ?_; (conv => arg 4; cbv)))
    repeat' (first | ((with_reducible refine on_eqs ?_ ?_); (focus (with_reducible rfl)); conv => arg 4; cbv) | (with_reducible refine on_both ?_ ?_ <;> (conv => arg 4; cbv)) | (with_reducible refine on_true (by assumption) ?_; conv => arg 4; cbv) | (with_reducible refine on_false (by assumption) ?_; conv => arg 4; cbv) | (with_reducible refine on_ask (fun g => ?_) (fun g => ?_) <;> (have h := g) <;> (try simp (disch := omega) [hI, k38, en38, an38, k39, en39, an39, k40, en40, an40, k43, en43, an43, k44, en44, an44, k45, en45, an45, k16, en16, an16, k17, en17, an17, k50, en50, an50, k51, en51, an51, k52, en52, an52, he0, he1, he2, hb, z0, z1, z2, b0, b1, b2, -List.length_eq_zero_iff] at h) <;> (try (exfalso; omega)) <;> (conv => arg 4; cbv)) | ((with_reducible refine on_must ?_ ?_); (focus ((simp (disch := omega) [hI, k38, en38, an38, k39, en39, an39, k40, en40, an40, k43, en43, an43, k44, en44, an44, k45, en45, an45, k16, en16, an16, k17, en17, an17, k50, en50, an50, k51, en51, an51, k52, en52, an52, he0, he1, he2, hb, z0, z1, z2, b0, b1, b2]) <;> (first | omega | assumption | ((repeat' (refine And.intro ?_ ?_)) <;> (first | omega | assumption))))); conv => arg 4; cbv))
    all_goals first
      | ((with_reducible refine on_ret ?_); refine Ended_of rfl ?_; (conv => lhs; cbv); rfl)
      | (exfalso; omega)
theorem law4 (c : ClusterV) (worker view : Int) (g : gCluster c) (_ : inI64 worker) (_ : inI64 view) : Ok0 Tryz.prog 4 [(pS tCluster).enc c, pI.enc worker, pI.enc view] (scal (.bool true)) [] 0 := by
  rw [ofClu_enc]
  exact lawC4 (ofClu c) worker view (zClu_g g)
end Go.Proofs.Tryz
