/- Contracts. -/
import Derived.Test.YtiieincddkhcdaaGreatCm
set_option linter.unusedSimpArgs false
set_option linter.unusedVariables false
namespace Go.Proofs.Tryz
open Go Go.Aix
set_option maxRecDepth 100000
set_option maxHeartbeats 4000000
set_option linter.unusedSimpArgs false
set_option linter.unusedVariables false
def lagOk (c : CluV) (worker view : Int) : Prop := (0 ≤ worker ∧ worker ≤ (c.workers.length : Int) - 1) ∧ inP c view ∧ (nth c.plan view.toNat).op = 12
instance (c : CluV) (a b : Int) : Decidable (lagOk c a b) := by unfold lagOk; infer_instance
def laC (c : CluV) (worker view : Int) : Int := if cluF c = 0 then (if lagOk c worker view then 0 else 3) else cluF c
def laV (c : CluV) (worker view : Int) : Int := if cluF c = 0 then (if lagOk c worker view then IntKind.i64.wrap ((nth c.workers worker.toNat).top - (nth (nth c.workers worker.toNat).nodes view.toNat).told) else 0) else 0
theorem ent90 : Enters Tryz.prog 90 := ⟨Tryz.f90, Tryz.func90, by kernel_rfl, by kernel_rfl⟩
noncomputable def Y90 (I : Ops) (K : FuncId → En) : CallsA := (Tab.calls [(41, true, callRd I (callE I (K 41) sh41)), (42, true, callRd I (inl X I (Tab.calls []) Tryz.f42))])
theorem tY90 {I : Ops} (hI : I = real) {K : FuncId → En} (k41 : K 41 = en41) : CallsOk Tryz.prog (Y90 I K) := (TabOk.calls mixed ⟨EntryOk.rd (s41 hI k41) hI, fun _ => callRd_quiet _ _, ⟨EntryOk.rd (s42 hI) hI, fun _ => callRd_quiet _ _, trivial⟩⟩)
theorem s90 {I : Ops} (hI : I = real) {K : FuncId → En} (k41 : K 41 = en41) : Sound Tryz.prog 90 (inl X I (Y90 I K) Tryz.f90) :=
  Sound.inl (Y := (Y90 I K)) xok (tY90 hI k41) ent90 Tryz.func90 rfl rfl hI
theorem ent53 : Enters Tryz.prog 53 := ⟨Tryz.f53, Tryz.func53, by kernel_rfl, by kernel_rfl⟩
noncomputable def Y53 (I : Ops) (K : FuncId → En) : CallsA := (Tab.calls [(90, true, callRd I (inl X I (Y90 I K) Tryz.f90)), (42, true, callRd I (inl X I (Tab.calls []) Tryz.f42))])
theorem tY53 {I : Ops} (hI : I = real) {K : FuncId → En} (k41 : K 41 = en41) : CallsOk Tryz.prog (Y53 I K) := (TabOk.calls mixed ⟨EntryOk.rd (s90 hI k41) hI, fun _ => callRd_quiet _ _, ⟨EntryOk.rd (s42 hI) hI, fun _ => callRd_quiet _ _, trivial⟩⟩)
theorem s53 {I : Ops} (hI : I = real) {K : FuncId → En} (k41 : K 41 = en41) : Sound Tryz.prog 53 (inl X I (Y53 I K) Tryz.f53) :=
  Sound.inl (Y := (Y53 I K)) xok (tY53 hI k41) ent53 Tryz.func53 rfl rfl hI
theorem ent16 : Enters Tryz.prog 16 := ⟨Tryz.f16, Tryz.func16, by kernel_rfl, by kernel_rfl⟩
noncomputable def Y16 (I : Ops) (K : FuncId → En) : CallsA := (Tab.calls [(53, true, callRd I (inl X I (Y53 I K) Tryz.f53))])
theorem tY16 {I : Ops} (hI : I = real) {K : FuncId → En} (k41 : K 41 = en41) : CallsOk Tryz.prog (Y16 I K) := (TabOk.calls mixed ⟨EntryOk.rd (s53 hI k41) hI, fun _ => callRd_quiet _ _, trivial⟩)
theorem go16 (c : CluV) (worker : Int) (view : Int) {r : RES} (h : ∀ (w : World) (Xs : Nat → Prop), (((bClu c) = true) ∧ (if cluF c = 0 then (if 0 ≤ worker then (if worker ≤ (IntKind.i64.wrap ((c.workers.length : Int) - 1)) then (if 0 ≤ view then (if view ≤ (IntKind.i64.wrap ((c.plan.length : Int) - 1)) then ((0 ≤ view ∧ view < (c.plan.length : Int)) ∧ (if (nth c.plan view.toNat).op = 12 then ((0 ≤ worker ∧ worker < (c.workers.length : Int)) ∧ ((0 ≤ view ∧ view < (((nth c.workers worker.toNat).nodes).length : Int)) ∧ r = (.ag [.pv (.sc (.int .i64 0)), .pv (.sc (.int .i64 (IntKind.i64.wrap ((nth c.workers worker.toNat).top - (nth ((nth c.workers worker.toNat).nodes) view.toNat).told))))], [], 0))) else r = (.ag [.pv (.sc (.int .i64 3)), .pv (.sc (.int .i64 0))], [], 0))) else r = (.ag [.pv (.sc (.int .i64 3)), .pv (.sc (.int .i64 0))], [], 0)) else r = (.ag [.pv (.sc (.int .i64 3)), .pv (.sc (.int .i64 0))], [], 0)) else r = (.ag [.pv (.sc (.int .i64 3)), .pv (.sc (.int .i64 0))], [], 0)) else r = (.ag [.pv (.sc (.int .i64 3)), .pv (.sc (.int .i64 0))], [], 0)) else r = (.ag [.pv (.sc (.int .i64 (cluF c))), .pv (.sc (.int .i64 0))], [], 0)))) : Ok0 Tryz.prog 16 [(pS tClu).enc c, pI.enc worker, pI.enc view] r.1 r.2.1 r.2.2 := by
  obtain ⟨I, hI⟩ : ∃ I, I = real := ⟨_, rfl⟩; obtain ⟨K, hK⟩ : ∃ K : FuncId → En, K = fun g => (lk g [(41, en41)]).getD default := ⟨_, rfl⟩; have k41 : K 41 = en41 := (by subst hK; rfl); clear hK
  show Ok0 Tryz.prog 16 [.ag [.pv (.sl false 7 (tNode.encs c.plan)), .pv (.sl false 7 (tWorker.encs c.workers)), .pv (.sl false 1 (tLink.encs c.links))], .one (.pv (.sc (.int .i64 worker))), .one (.pv (.sc (.int .i64 view)))] _ _ _
  obtain ⟨q0, hq0⟩ : ∃ q, q = (tWorker.encs c.workers) := ⟨_, rfl⟩
  try rw [← hq0]
  obtain ⟨q1, hq1⟩ : ∃ q, q = (tLink.encs c.links) := ⟨_, rfl⟩
  try rw [← hq1]
  obtain ⟨q2, hq2⟩ : ∃ q, q = (tNode.encs c.plan) := ⟨_, rfl⟩
  try rw [← hq2]
  refine Ok0_run (Y := (Y16 I K)) xok (tY16 hI k41) Tryz.func16 rfl rfl rfl 2000 hI fun w Xs => ?_; (conv => arg 4; cbv)
  replace h := h w Xs
  repeat' (first | (have hd := And.left h; replace h := And.right h) | ((first | ((with_reducible refine on_eqs ?_ ?_); (focus (with_reducible rfl))) | (with_reducible refine on_both ?_ ?_) | (with_reducible refine on_true (by assumption) ?_) | (with_reducible refine on_false (by assumption) ?_) | (with_reducible refine on_ask (fun g => ?_) (fun g => ?_) <;> (have hc := g) <;> (try simp (disch := omega) [hI, k41, en41, an41, hq0, hq1, hq2, -List.length_eq_zero_iff] at hc) <;> (try (exfalso; omega)) <;> (try (first | (revert h; (refine imp_l ?_ (fun h => ?_)); focus (first | exact hc | assumption | omega | (simpa using hc; done) | (simp (disch := omega) only [wrap_id]; omega))) | (revert h; (refine imp_r ?_ (fun h => ?_)); focus (first | exact hc | assumption | omega | (simpa using hc; done) | (simp (disch := omega) only [wrap_id]; omega)))))) | ((with_reducible refine on_must ?_ ?_); (focus ((simp (disch := omega) [hI, k41, en41, an41, hq0, hq1, hq2]) <;> (first | omega | assumption | ((repeat' (refine And.intro ?_ ?_)) <;> (first | omega | assumption))))))) <;> (conv => arg 4; cbv)) | ((with_reducible refine on_any ?_); refine W_early (Y := (Y16 I K)) xok (tY16 hI k41) mixed hI rfl (by kernel_rfl) rfl rfl ?_; (conv => arg 4; cbv)) | ((with_reducible refine on_any ?_); refine W_any (Y := (Y16 I K)) xok (tY16 hI k41) mixed hI rfl (by kernel_rfl) rfl rfl ?_; (conv => arg 4; cbv)) | ((with_reducible refine on_any ?_); refine W_behind (Y := (Y16 I K)) xok (tY16 hI k41) Tryz.func16 rfl 2000 _ hI ?_; (conv => arg 4; cbv)))
  all_goals (first | ((subst h); (with_reducible refine on_ret ?_); refine Ended_of rfl ?_))
  all_goals ((conv => lhs; cbv); (try (first | rfl | ((try simp (disch := omega) [hI, k41, en41, an41, hq0, hq1, hq2, mapE_append, Ty.encs_append, encs1_I64, encs1_U8, encs1, mapE1]) <;> (first | rfl | omega | (simp; done))))))
def sh16 : Shp := fun I i b l s => .ok (.ag [.pv (.sc (.int .i64 (i 0))), .pv (.sc (.int .i64 (i 1)))], [], 0)
def an16 : An (CluV × Int × Int × Unit) where
  pre t := (bClu t.1)
  i j t := match j with | 0 => laC t.1 t.2.1 t.2.2.1 | _ => laV t.1 t.2.1 t.2.2.1
noncomputable def en16 : En := mkE (parsC (pS tClu) (parsC pI (parsC pI pars0))) an16
theorem ok16 (c : CluV) (worker : Int) (view : Int) (p0 : bClu c = true) : Ok0 Tryz.prog 16 [(pS tClu).enc c, pI.enc worker, pI.enc view] ((.ag [.pv (.sc (.int .i64 (laC c worker view))), .pv (.sc (.int .i64 (laV c worker view)))], [], 0) : RES).1 ((.ag [.pv (.sc (.int .i64 (laC c worker view))), .pv (.sc (.int .i64 (laV c worker view)))], [], 0) : RES).2.1 ((.ag [.pv (.sc (.int .i64 (laC c worker view))), .pv (.sc (.int .i64 (laV c worker view)))], [], 0) : RES).2.2 := by
  have hl := bNodeS_len (bClu_p p0).1
  have hl2 := bWorkerS_len (bClu_p p0).2.1
  have hwr : IntKind.i64.wrap ((c.plan.length : Int) - 1) = (c.plan.length : Int) - 1 := by rw [IntKind.wrap_i64]; omega
  have hwr2 : IntKind.i64.wrap ((c.workers.length : Int) - 1) = (c.workers.length : Int) - 1 := by rw [IntKind.wrap_i64]; omega
  show Ok0 _ _ _ (rII (laC c worker view) (laV c worker view)).1 (rII (laC c worker view) (laV c worker view)).2.1 (rII (laC c worker view) (laV c worker view)).2.2
  refine go16 c worker view fun w Xs => ?_
  rw [hwr, hwr2]
  have hnd : cluF c = 0 → ∀ i, i < c.workers.length → (nth c.workers i).nodes.length = c.plan.length := fun q => (cluF_ok q).2.2.2.2
  have hnw : cluF c = 0 → 0 ≤ worker ∧ worker ≤ (c.workers.length : Int) - 1 → (nth c.workers worker.toNat).nodes.length = c.plan.length := fun q h => hnd q _ (by omega)
  clear hnd
  unfold laC laV lagOk inP
  by_cases q : cluF c = 0
  · have hnw := hnw q
    (repeat' (first | (refine And.intro ?_ ?_) | (refine if_go (fun q => ?_) (fun q => ?_))))
    all_goals first
      | omega
      | assumption
      | (refine rII_eq ?_ ?_ <;> ((repeat' split) <;> first | rfl | omega))
  · (repeat' (first | (refine And.intro ?_ ?_) | (refine if_go (fun q => ?_) (fun q => ?_))))
    all_goals first
      | omega
      | assumption
      | (refine rII_eq ?_ ?_ <;> ((repeat' split) <;> first | rfl | omega))
theorem s16 {I : Ops} (hI : I = real) {e : En} (he : e = en16) : Sound Tryz.prog 16 (callE I e sh16) := by
  refine Sound.mkE ent16 hI (fun _ => rfl) ?_ he
  rintro ⟨c, worker, view, ⟨⟩⟩ hp
  have hp : ((bClu c)) = true := hp
  try simp only [Bool.and_eq_true, decide_eq_true_eq] at hp
  have p0 := hp
  exact ok16 c worker view p0
theorem ent55 : Enters Tryz.prog 55 := ⟨Tryz.f55, Tryz.func55, by kernel_rfl, by kernel_rfl⟩
theorem s55 {I : Ops} (hI : I = real)  : Sound Tryz.prog 55 (inl X I (Tab.calls []) Tryz.f55) :=
  Sound.inl (Y := (Tab.calls [])) xok (TabOk.calls mixed trivial) ent55 Tryz.func55 rfl rfl hI
theorem ent17 : Enters Tryz.prog 17 := ⟨Tryz.f17, Tryz.func17, by kernel_rfl, by kernel_rfl⟩
noncomputable def Y17 (I : Ops) (K : FuncId → En) : CallsA := (Tab.calls [(55, true, callRd I (inl X I (Tab.calls []) Tryz.f55)), (47, true, callRd I (inl X I (Tab.calls []) Tryz.f47)), (54, false, callRef I (inlR X I (Y54 I K) Tryz.f54))])
theorem tY17 {I : Ops} (hI : I = real) {K : FuncId → En} (k46 : K 46 = en46) : CallsOk Tryz.prog (Y17 I K) := (TabOk.calls mixed ⟨EntryOk.rd (s55 hI) hI, fun _ => callRd_quiet _ _, ⟨EntryOk.rd (s47 hI) hI, fun _ => callRd_quiet _ _, ⟨EntryOk.ref (s54 hI k46) hI, notQuiet, trivial⟩⟩⟩)
theorem go17 (c : CluV) (worker : Int) (view : Int) {r : RES} (h : ∀ (w : World) (Xs : Nat → Prop), (if 0 ≤ worker then (((bClu c) = true) ∧ (if cluF c = 0 then (if 0 ≤ view then (if view ≤ (IntKind.i64.wrap ((c.plan.length : Int) - 1)) then ((0 ≤ view ∧ view < (c.plan.length : Int)) ∧ (if (nth c.plan view.toNat).op = 12 then (if worker ≤ (IntKind.i64.wrap ((c.workers.length : Int) - 1)) then ((0 ≤ worker ∧ worker < (c.workers.length : Int)) ∧ ((0 ≤ view ∧ view < (((nth c.workers worker.toNat).nodes).length : Int)) ∧ r = (.ag [.pv (.sc (.int .i64 0)), .pv (.sc (.int .i64 (IntKind.i64.wrap ((nth c.workers worker.toNat).top - (nth ((nth c.workers worker.toNat).nodes) view.toNat).told))))], [], 0))) else r = (.ag [.pv (.sc (.int .i64 3)), .pv (.sc (.int .i64 0))], [], 0)) else r = (.ag [.pv (.sc (.int .i64 3)), .pv (.sc (.int .i64 0))], [], 0))) else r = (.ag [.pv (.sc (.int .i64 3)), .pv (.sc (.int .i64 0))], [], 0)) else r = (.ag [.pv (.sc (.int .i64 3)), .pv (.sc (.int .i64 0))], [], 0)) else r = (.ag [.pv (.sc (.int .i64 (cluF c))), .pv (.sc (.int .i64 0))], [], 0))) else (((bClu c) = true) ∧ (if cluF c = 0 then (if 0 ≤ view then (if view ≤ (IntKind.i64.wrap ((c.plan.length : Int) - 1)) then ((0 ≤ view ∧ view < (c.plan.length : Int)) ∧ (if (nth c.plan view.toNat).op = 12 then r = (.ag [.pv (.sc (.int .i64 3)), .pv (.sc (.int .i64 0))], [], 0) else r = (.ag [.pv (.sc (.int .i64 3)), .pv (.sc (.int .i64 0))], [], 0))) else r = (.ag [.pv (.sc (.int .i64 3)), .pv (.sc (.int .i64 0))], [], 0)) else r = (.ag [.pv (.sc (.int .i64 3)), .pv (.sc (.int .i64 0))], [], 0)) else r = (.ag [.pv (.sc (.int .i64 (cluF c))), .pv (.sc (.int .i64 0))], [], 0))))) : Ok0 Tryz.prog 17 [(pS tClu).enc c, pI.enc worker, pI.enc view] r.1 r.2.1 r.2.2 := by
  obtain ⟨I, hI⟩ : ∃ I, I = real := ⟨_, rfl⟩; obtain ⟨K, hK⟩ : ∃ K : FuncId → En, K = fun g => (lk g [(46, en46)]).getD default := ⟨_, rfl⟩; have k46 : K 46 = en46 := (by subst hK; rfl); clear hK
  show Ok0 Tryz.prog 17 [.ag [.pv (.sl false 7 (tNode.encs c.plan)), .pv (.sl false 7 (tWorker.encs c.workers)), .pv (.sl false 1 (tLink.encs c.links))], .one (.pv (.sc (.int .i64 worker))), .one (.pv (.sc (.int .i64 view)))] _ _ _
  obtain ⟨q0, hq0⟩ : ∃ q, q = (tWorker.encs c.workers) := ⟨_, rfl⟩
  try rw [← hq0]
  obtain ⟨q1, hq1⟩ : ∃ q, q = (tLink.encs c.links) := ⟨_, rfl⟩
  try rw [← hq1]
  obtain ⟨q2, hq2⟩ : ∃ q, q = (tNode.encs c.plan) := ⟨_, rfl⟩
  try rw [← hq2]
  refine Ok0_run (Y := (Y17 I K)) xok (tY17 hI k46) Tryz.func17 rfl rfl rfl 2000 hI fun w Xs => ?_; (conv => arg 4; cbv)
  replace h := h w Xs
  repeat' (first | (have hd := And.left h; replace h := And.right h) | ((first | ((with_reducible refine on_eqs ?_ ?_); (focus (with_reducible rfl))) | (with_reducible refine on_both ?_ ?_) | (with_reducible refine on_true (by assumption) ?_) | (with_reducible refine on_false (by assumption) ?_) | (with_reducible refine on_ask (fun g => ?_) (fun g => ?_) <;> (have hc := g) <;> (try simp (disch := omega) [hI, k46, en46, an46, hq0, hq1, hq2, -List.length_eq_zero_iff] at hc) <;> (try (exfalso; omega)) <;> (try (first | (revert h; (refine imp_l ?_ (fun h => ?_)); focus (first | exact hc | assumption | omega | (simpa using hc; done) | (simp (disch := omega) only [wrap_id]; omega))) | (revert h; (refine imp_r ?_ (fun h => ?_)); focus (first | exact hc | assumption | omega | (simpa using hc; done) | (simp (disch := omega) only [wrap_id]; omega)))))) | ((with_reducible refine on_must ?_ ?_); (focus ((simp (disch := omega) [hI, k46, en46, an46, hq0, hq1, hq2]) <;> (first | omega | assumption | ((repeat' (refine And.intro ?_ ?_)) <;> (first | omega | assumption))))))) <;> (conv => arg 4; cbv)) | ((with_reducible refine on_any ?_); refine W_early (Y := (Y17 I K)) xok (tY17 hI k46) mixed hI rfl (by kernel_rfl) rfl rfl ?_; (conv => arg 4; cbv)) | ((with_reducible refine on_any ?_); refine W_any (Y := (Y17 I K)) xok (tY17 hI k46) mixed hI rfl (by kernel_rfl) rfl rfl ?_; (conv => arg 4; cbv)) | ((with_reducible refine on_any ?_); refine W_behind (Y := (Y17 I K)) xok (tY17 hI k46) Tryz.func17 rfl 2000 _ hI ?_; (conv => arg 4; cbv)))
  all_goals (first | ((subst h); (with_reducible refine on_ret ?_); refine Ended_of rfl ?_))
  all_goals ((conv => lhs; cbv); (try (first | rfl | ((try simp (disch := omega) [hI, k46, en46, an46, hq0, hq1, hq2, mapE_append, Ty.encs_append, encs1_I64, encs1_U8, encs1, mapE1]) <;> (first | rfl | omega | (simp; done))))))
def sh17 : Shp := fun I i b l s => .ok (.ag [.pv (.sc (.int .i64 (i 0))), .pv (.sc (.int .i64 (i 1)))], [], 0)
def an17 : An (CluV × Int × Int × Unit) where
  pre t := (bClu t.1)
  i j t := match j with | 0 => laC t.1 t.2.1 t.2.2.1 | _ => laV t.1 t.2.1 t.2.2.1
noncomputable def en17 : En := mkE (parsC (pS tClu) (parsC pI (parsC pI pars0))) an17
theorem ok17 (c : CluV) (worker : Int) (view : Int) (p0 : bClu c = true) : Ok0 Tryz.prog 17 [(pS tClu).enc c, pI.enc worker, pI.enc view] ((.ag [.pv (.sc (.int .i64 (laC c worker view))), .pv (.sc (.int .i64 (laV c worker view)))], [], 0) : RES).1 ((.ag [.pv (.sc (.int .i64 (laC c worker view))), .pv (.sc (.int .i64 (laV c worker view)))], [], 0) : RES).2.1 ((.ag [.pv (.sc (.int .i64 (laC c worker view))), .pv (.sc (.int .i64 (laV c worker view)))], [], 0) : RES).2.2 := by
  have hl := bNodeS_len (bClu_p p0).1
  have hl2 := bWorkerS_len (bClu_p p0).2.1
  have hwr : IntKind.i64.wrap ((c.plan.length : Int) - 1) = (c.plan.length : Int) - 1 := by rw [IntKind.wrap_i64]; omega
  have hwr2 : IntKind.i64.wrap ((c.workers.length : Int) - 1) = (c.workers.length : Int) - 1 := by rw [IntKind.wrap_i64]; omega
  show Ok0 _ _ _ (rII (laC c worker view) (laV c worker view)).1 (rII (laC c worker view) (laV c worker view)).2.1 (rII (laC c worker view) (laV c worker view)).2.2
  refine go17 c worker view fun w Xs => ?_
  rw [hwr, hwr2]
  have hnd : cluF c = 0 → ∀ i, i < c.workers.length → (nth c.workers i).nodes.length = c.plan.length := fun q => (cluF_ok q).2.2.2.2
  have hnw : cluF c = 0 → 0 ≤ worker ∧ worker ≤ (c.workers.length : Int) - 1 → (nth c.workers worker.toNat).nodes.length = c.plan.length := fun q h => hnd q _ (by omega)
  clear hnd
  unfold laC laV lagOk inP
  by_cases q : cluF c = 0
  · have hnw := hnw q
    (repeat' (first | (refine And.intro ?_ ?_) | (refine if_go (fun q => ?_) (fun q => ?_))))
    all_goals first
      | omega
      | assumption
      | (refine rII_eq ?_ ?_ <;> ((repeat' split) <;> first | rfl | omega))
  · (repeat' (first | (refine And.intro ?_ ?_) | (refine if_go (fun q => ?_) (fun q => ?_))))
    all_goals first
      | omega
      | assumption
      | (refine rII_eq ?_ ?_ <;> ((repeat' split) <;> first | rfl | omega))
theorem s17 {I : Ops} (hI : I = real) {e : En} (he : e = en17) : Sound Tryz.prog 17 (callE I e sh17) := by
  refine Sound.mkE ent17 hI (fun _ => rfl) ?_ he
  rintro ⟨c, worker, view, ⟨⟩⟩ hp
  have hp : ((bClu c)) = true := hp
  try simp only [Bool.and_eq_true, decide_eq_true_eq] at hp
  have p0 := hp
  exact ok17 c worker view p0
end Go.Proofs.Tryz
