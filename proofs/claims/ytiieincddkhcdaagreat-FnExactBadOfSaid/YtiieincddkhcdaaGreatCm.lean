/- Contracts. -/
import Derived.Test.YtiieincddkhcdaaGreatCl
set_option linter.unusedSimpArgs false
set_option linter.unusedVariables false
namespace Go.Proofs.Tryz
open Go Go.Aix
set_option maxRecDepth 100000
set_option maxHeartbeats 4000000
theorem fst_zero {α : Type} [Inhabited α] {f : α → Int} : ∀ {l : List α}, fstF f l = 0 → ∀ i, i < l.length → f (nth l i) = 0
  | [], _, i, hi => by simp at hi
  | x :: r, h, i, hi => by
    rw [fstF] at h
    split at h
    · rename_i hx
      match i, hi with
      | 0, _ => simpa [nth] using hx
      | i + 1, hi =>
        have := fst_zero h i (by simpa using hi)
        simpa [nth] using this
    · rename_i hx; exact absurd h hx
theorem wkrF_nodes {plan : List NodeV} {w : WorkerV} (h : wkrF plan w = 0) : w.nodes.length = plan.length := by
  unfold wkrF inbW cntsW at h
  (repeat' split at h) <;> first | assumption | omega | (simp_all; done)
theorem cluF_ok {c : CluV} (h : cluF c = 0) : planF c.plan = 0 ∧ c.workers.length ≤ 3 ∧ c.links.length ≤ 9 ∧ okL c.links = true ∧ ∀ i, i < c.workers.length → (nth c.workers i).nodes.length = c.plan.length := by
  unfold cluF at h
  split at h
  · rename_i h0
    split at h
    · rename_i h1
      refine ⟨h0, h1.2.1, sqr h1.2.1 h1.2.2.1, h1.2.2.2, fun i hi => ?_⟩
      unfold wtlF at h
      split at h
      · rename_i h2; exact wkrF_nodes (fst_zero h2 i hi)
      · rename_i h2; exact absurd h h2
    · omega
  · rename_i h0; exact absurd h h0
def wtB : List BatchV → Int → Int
  | [], n => n
  | b :: r, n => wtB r (IntKind.i64.wrap (n + (b.set.length : Int)))
def wtW (node : Int) : List WorkerV → Int → Int
  | [], n => n
  | w :: r, n => wtW node r (wtB (nth w.nodes node.toNat).waits n)
def inP (c : CluV) (k : Int) : Prop := 0 ≤ k ∧ k ≤ (c.plan.length : Int) - 1
instance (c : CluV) (k : Int) : Decidable (inP c k) := by unfold inP; infer_instance
def wtC (c : CluV) (node : Int) : Int := if cluF c = 0 then (if inP c node then 0 else 3) else cluF c
def wtV (c : CluV) (node : Int) : Int := if cluF c = 0 then (if inP c node then wtW node c.workers 0 else 0) else 0
def an11 : An (CluV × Int × Unit) where
  pre t := (bClu t.1)
  i j t := match j with | 0 => wtC t.1 t.2.1 | _ => wtV t.1 t.2.1
noncomputable def en11 : En := mkE (parsC (pS tClu) (parsC pI pars0)) an11
attribute [simp] en11 an11
def an13 : An (CluV × Int × Unit) where
  pre t := (bClu t.1)
  i j t := match j with | 0 => wtC t.1 t.2.1 | _ => wtV t.1 t.2.1
noncomputable def en13 : En := mkE (parsC (pS tClu) (parsC pI pars0)) an13
attribute [simp] en13 an13
end Go.Proofs.Tryz
