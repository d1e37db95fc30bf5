/- Contracts. -/
import Derived.Test.YtiieincddkhcdaaGreatCl
set_option linter.unusedSimpArgs false
set_option linter.unusedVariables false
namespace Go.Proofs.Tryz
open Go Go.Aix
set_option maxRecDepth 100000
set_option maxHeartbeats 4000000
noncomputable def Y54 (I : Ops) (K : FuncId → En) : CallsA := (Tab.calls [(46, true, callRd I (callE I (K 46) sh46)), (48, true, callRd I (inl X I (Tab.calls []) Tryz.f48)), (47, true, callRd I (inl X I (Tab.calls []) Tryz.f47))])
theorem fst_zero {α : Type} [Inhabited α] {f : α → Int} : ∀ {l : List α}, fstF f l = 0 → ∀ i, i < l.length → f (nth l i) = 0
  | [], _, i, hi => by simp at hi
  | x :: r, h, i, hi => by
    rw [fstF] at h
    split at h
    · rename_i hx
      match i, hi with
      | 0, _ => simpa [nth] using hx
      | i + 1, hi =>
        have := fst_zero h i (by simpa using hi)
        simpa [nth] using this
    · rename_i hx; exact absurd h hx
theorem wkrF_nodes {plan : List NodeV} {w : WorkerV} (h : wkrF plan w = 0) : w.nodes.length = plan.length := by
  unfold wkrF inbW cntsW at h
  (repeat' split at h) <;> first | assumption | omega | (simp_all; done)
theorem cluF_ok {c : CluV} (h : cluF c = 0) : planF c.plan = 0 ∧ c.workers.length ≤ 3 ∧ c.links.length ≤ 9 ∧ okL c.links = true ∧ ∀ i, i < c.workers.length → (nth c.workers i).nodes.length = c.plan.length := by
  unfold cluF at h
  split at h
  · rename_i h0
    split at h
    · rename_i h1
      refine ⟨h0, h1.2.1, sqr h1.2.1 h1.2.2.1, h1.2.2.2, fun i hi => ?_⟩
      unfold wtlF at h
      split at h
      · rename_i h2; exact wkrF_nodes (fst_zero h2 i hi)
      · rename_i h2; exact absurd h h2
    · omega
  · rename_i h0; exact absurd h h0
abbrev rII (a b : Int) : RES := (.ag [.pv (.sc (.int .i64 a)), .pv (.sc (.int .i64 b))], [], 0)
def wtB : List BatchV → Int → Int
  | [], n => n
  | b :: r, n => wtB r (IntKind.i64.wrap (n + (b.set.length : Int)))
def wtW (node : Int) : List WorkerV → Int → Int
  | [], n => n
  | w :: r, n => wtW node r (wtB (nth w.nodes node.toNat).waits n)
def inP (c : CluV) (k : Int) : Prop := 0 ≤ k ∧ k ≤ (c.plan.length : Int) - 1
instance (c : CluV) (k : Int) : Decidable (inP c k) := by unfold inP; infer_instance
def wtC (c : CluV) (node : Int) : Int := if cluF c = 0 then (if inP c node then 0 else 3) else cluF c
def wtV (c : CluV) (node : Int) : Int := if cluF c = 0 then (if inP c node then wtW node c.workers 0 else 0) else 0
abbrev G11_0 (w : World) (Xs : Nat → Prop) (c : CluV) (node : Int) (n : Int) (i : Int) (r : RES) : Prop := WL [1, 2, 4, 6, 7] Tryz.prog 11 Tryz.f11 (Ent0 w Xs) (Back (Ent0 w Xs) r.1 r.2.1 r.2.2) (place (bodyOf Tryz.f11) [1,1,1,1,0,1,0,0] [])
  ⟨[(1, .one (.pv (.sc (.int .i64 node)))), (2, .one (.ptr 0 0 0)), (4, .one (.ptr 1 0 0)), (6, .one (.pv (.sc (.int .i64 n)))), (7, .one (.pv (.sc (.int .i64 i))))], [(0, .box [.pv (.sl false 7 (tNode.encs c.plan)), .pv (.sl false 7 (tWorker.encs c.workers)), .pv (.sl false 1 (tLink.encs c.links))]), (1, .box [.pv (.sc (.int .i64 0)), .pv (.sc (.int .i64 0))])], 2⟩
abbrev G11_1 (w : World) (Xs : Nat → Prop) (c : CluV) (node : Int) (i : Int) (n' : Int) (k : Int) (r : RES) : Prop := WL [1, 2, 4, 6, 7, 8, 9] Tryz.prog 11 Tryz.f11 (Ent0 w Xs) (Back (Ent0 w Xs) r.1 r.2.1 r.2.2) (place (bodyOf Tryz.f11) [1,1,1,1,0,1,0,0,1,0,0,1,1,0,0] [])
  ⟨[(1, .one (.pv (.sc (.int .i64 node)))), (2, .one (.ptr 0 0 0)), (4, .one (.ptr 1 0 0)), (6, .one (.pv (.sc (.int .i64 n')))), (7, .one (.pv (.sc (.int .i64 i)))), (8, .one (.pv (.sl false 3 (tBatch.encs ((nth ((nth c.workers i.toNat).nodes) node.toNat).waits))))), (9, .one (.pv (.sc (.int .i64 k))))], [(0, .box [.pv (.sl false 7 (tNode.encs c.plan)), .pv (.sl false 7 (tWorker.encs c.workers)), .pv (.sl false 1 (tLink.encs c.links))]), (1, .box [.pv (.sc (.int .i64 0)), .pv (.sc (.int .i64 0))])], 2⟩
noncomputable def Y11 (I : Ops) (K : FuncId → En) : CallsA := (Tab.calls [(41, true, callRd I (callE I (K 41) sh41)), (42, true, callRd I (inl X I (Tab.calls []) Tryz.f42))])
def sh11 : Shp := fun I i b l s => .ok (.ag [.pv (.sc (.int .i64 (i 0))), .pv (.sc (.int .i64 (i 1)))], [], 0)
def an11 : An (CluV × Int × Unit) where
  pre t := (bClu t.1)
  i j t := match j with | 0 => wtC t.1 t.2.1 | _ => wtV t.1 t.2.1
noncomputable def en11 : En := mkE (parsC (pS tClu) (parsC pI pars0)) an11
attribute [simp] en11 an11
abbrev G13_0 (w : World) (Xs : Nat → Prop) (c : CluV) (node : Int) (b0_0 : Int) (b0_1 : Int) (out' : Int) (x28 : Int) (r : RES) : Prop := WL [1, 4, 6, 26, 27, 28] Tryz.prog 13 Tryz.f13 (Ent0 w Xs) (Back (Ent0 w Xs) r.1 r.2.1 r.2.2) (place (bodyOf Tryz.f13) [1,1,1,1,0,1,0,0] [])
  ⟨[(1, .one (.pv (.sc (.int .i64 node)))), (4, .one (.ptr 0 0 0)), (6, .one (.pv (.sc (.int .i64 out')))), (26, .one (.pv (.sl false 7 (tWorker.encs c.workers)))), (27, .one (.pv (.sc (.int .i64 (c.workers.length : Int))))), (28, .one (.pv (.sc (.int .i64 x28))))], [(0, .box [.pv (.sc (.int .i64 b0_0)), .pv (.sc (.int .i64 b0_1))])], 1⟩
abbrev G13_1 (w : World) (Xs : Nat → Prop) (c : CluV) (node : Int) (x28 : Int) (b0_0' : Int) (b0_1' : Int) (out'' : Int) (x39 : Int) (r : RES) : Prop := WL [1, 4, 6, 26, 27, 28, 37, 38, 39] Tryz.prog 13 Tryz.f13 (Ent0 w Xs) (Back (Ent0 w Xs) r.1 r.2.1 r.2.2) (place (bodyOf Tryz.f13) [1,1,1,1,0,1,0,0,1,1,0,0,1,1,0,0] [])
  ⟨[(1, .one (.pv (.sc (.int .i64 node)))), (4, .one (.ptr 0 0 0)), (6, .one (.pv (.sc (.int .i64 out'')))), (26, .one (.pv (.sl false 7 (tWorker.encs c.workers)))), (27, .one (.pv (.sc (.int .i64 (c.workers.length : Int))))), (28, .one (.pv (.sc (.int .i64 x28)))), (37, .one (.pv (.sl false 3 (tBatch.encs ((nth ((nth c.workers x28.toNat).nodes) node.toNat).waits))))), (38, .one (.pv (.sc (.int .i64 (((nth ((nth c.workers x28.toNat).nodes) node.toNat).waits).length : Int))))), (39, .one (.pv (.sc (.int .i64 x39))))], [(0, .box [.pv (.sc (.int .i64 b0_0')), .pv (.sc (.int .i64 b0_1'))])], 1⟩
noncomputable def Y13 (I : Ops) (K : FuncId → En) : CallsA := (Tab.calls [(46, true, callRd I (callE I (K 46) sh46)), (48, true, callRd I (inl X I (Tab.calls []) Tryz.f48)), (47, true, callRd I (inl X I (Tab.calls []) Tryz.f47)), (49, true, callRd I (inl X I (Tab.calls []) Tryz.f49))])
def sh13 : Shp := fun I i b l s => .ok (.ag [.pv (.sc (.int .i64 (i 0))), .pv (.sc (.int .i64 (i 1)))], [], 0)
def an13 : An (CluV × Int × Unit) where
  pre t := (bClu t.1)
  i j t := match j with | 0 => wtC t.1 t.2.1 | _ => wtV t.1 t.2.1
noncomputable def en13 : En := mkE (parsC (pS tClu) (parsC pI pars0)) an13
attribute [simp] en13 an13
end Go.Proofs.Tryz
