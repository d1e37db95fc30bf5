/- Contracts. -/
import Derived.Test.YtiieincddkhcdaaGreatLf
set_option linter.unusedSimpArgs false
set_option linter.unusedVariables false
namespace Go.Proofs.Tryz
open Go Go.Aix
set_option maxRecDepth 100000
set_option maxHeartbeats 4000000
theorem ent75 : Enters Tryz.prog 75 := ⟨Tryz.f75, Tryz.func75, by kernel_rfl, by kernel_rfl⟩
abbrev G75_0 (w : World) (Xs : Nat → Prop) (plan : List NodeV) (i : Int) (r : RES) : Prop := WL [0, 3] Tryz.prog 75 Tryz.f75 (Ent0 w Xs) (Back (Ent0 w Xs) r.1 r.2.1 r.2.2) (place (bodyOf Tryz.f75) [1,1,0,1,0,0] [])
  ⟨[(0, .one (.pv (.sl false 7 (tNode.encs plan)))), (3, .one (.pv (.sc (.int .i64 i))))], [], 0⟩
noncomputable def Y75 (I : Ops) (K : FuncId → En) : CallsA := (Tab.calls [(107, true, callRd I (callE I (K 107) sh107))])
theorem tY75 {I : Ops} (hI : I = real) {K : FuncId → En} (k107 : K 107 = en107) : CallsOk Tryz.prog (Y75 I K) := (TabOk.calls mixed ⟨EntryOk.rd (s107 hI k107) hI, fun _ => callRd_quiet _ _, trivial⟩)
theorem st75_0 {w : World} {Xs : Nat → Prop} (plan : List NodeV) (i : Int) {r : RES} (h : (if i < (plan.length : Int) then ((0 ≤ i ∧ i < plan.length) ∧ ((i < 100) ∧ ((plan.length < 4611686018427387904) ∧ (((widsOk plan i.toNat) = true) ∧ (if nodeF plan i.toNat = 0 then G75_0 w Xs plan (IntKind.i64.wrap (i + 1)) r else r = (.one (.pv (.sc (.int .i64 (nodeF plan i.toNat)))), [], 0)))))) else r = (.one (.pv (.sc (.int .i64 0))), [], 0))) : G75_0 w Xs plan i r := by
  obtain ⟨I, hI⟩ : ∃ I, I = real := ⟨_, rfl⟩; obtain ⟨K, k107⟩ : ∃ K : FuncId → En, K 107 = en107 := ⟨fun g => (lk g [(107, en107)]).getD default, rfl⟩
  unfold G75_0 WL
  obtain ⟨q0, hq0⟩ := eqv (tNode.encs plan)
  try rw [← hq0]
  have hS := And.intro hI (And.intro k107 hq0)
  refine W_go (Y := (Y75 I K)) xok (tY75 hI k107) Tryz.func75 rfl 2000 _ hI ?_; (conv => arg 4; cbv)
  exact fin
theorem go75 (plan : List NodeV) {r : RES} (h : ∀ (w : World) (Xs : Nat → Prop), (if (plan.length : Int) < 1 then r = (.one (.pv (.sc (.int .i64 2))), [], 0) else (if 8 < (plan.length : Int) then r = (.one (.pv (.sc (.int .i64 2))), [], 0) else G75_0 w Xs plan 0 r))) : Ok0 Tryz.prog 75 [(pL tNode).enc plan] r.1 r.2.1 r.2.2 := by
  obtain ⟨I, hI⟩ : ∃ I, I = real := ⟨_, rfl⟩; obtain ⟨K, k107⟩ : ∃ K : FuncId → En, K 107 = en107 := ⟨fun g => (lk g [(107, en107)]).getD default, rfl⟩
  show Ok0 Tryz.prog 75 [.one (.pv (.sl false 7 (tNode.encs plan)))] _ _ _
  obtain ⟨q0, hq0⟩ := eqv (tNode.encs plan)
  try rw [← hq0]
  have hS := And.intro hI (And.intro k107 hq0)
  refine Ok0_run (Y := (Y75 I K)) xok (tY75 hI k107) Tryz.func75 rfl rfl rfl 2000 hI fun w Xs => ?_; (conv => arg 4; cbv)
  replace h := h w Xs
  exact fin
theorem lm_plan {w : World} {Xs : Nat → Prop} (plan : List NodeV) (hl : plan.length ≤ 8) : ∀ k i : Nat, k + i = plan.length → (∀ j, j < i → (wid plan j).isSome = true) → G75_0 w Xs plan i (rI (planLp plan k i)) := by
  intro k
  induction k with
  | zero =>
    intro i hk hW
    apply st75_0
    rw [if_neg (by omega)]
    rfl
  | succ k ih =>
    intro i hk hW
    apply st75_0
    rw [if_pos (by omega), Int.toNat_natCast, planLp, wsucc (by omega)]
    refine ⟨by omega, by omega, by omega, widsOk_iff.2 hW, if_go (fun h => ?_) (fun h => by rw [if_neg h])⟩
    rw [if_pos h]
    exact ih (i + 1) (by omega) (fun j hj => by
      by_cases hji : j < i
      · exact hW j hji
      · have : j = i := by omega
        subst this
        exact nodeF_wid h hW)
def sh75 : Shp := fun I i b l s => .ok (.one (.pv (.sc (.int .i64 (i 0)))), [], 0)
def an75 : An (List NodeV × Unit) where
  pre t := decide (t.1.length < 4611686018427387904)
  i _ t := planF t.1
noncomputable def en75 : En := mkE (parsC (pL tNode) pars0) an75
attribute [simp] en75 an75
theorem ok75 (plan : List NodeV) (p0 : plan.length < 4611686018427387904) : Ok0 Tryz.prog 75 [(pL tNode).enc plan] ((.one (.pv (.sc (.int .i64 (planF plan)))), [], 0) : RES).1 ((.one (.pv (.sc (.int .i64 (planF plan)))), [], 0) : RES).2.1 ((.one (.pv (.sc (.int .i64 (planF plan)))), [], 0) : RES).2.2 := by
  refine go75 plan fun w Xs => ?_
  unfold planF
  (repeat' (first | (refine And.intro ?_ ?_) | (refine if_go (fun q => ?_) (fun q => ?_))))
  all_goals first
    | (rw [if_pos (show plan.length < 1 ∨ 8 < plan.length by omega)]; done)
    | (rw [if_neg (show ¬ (plan.length < 1 ∨ 8 < plan.length) by omega)]; exact lm_plan plan (by omega) plan.length 0 rfl (fun _ h => absurd h (by omega)))
theorem s75 {I : Ops} (hI : I = real) {e : En} (he : e = en75) : Sound Tryz.prog 75 (callE I e sh75) := by
  refine Sound.mkE ent75 hI (fun _ => rfl) ?_ he
  rintro ⟨plan, ⟨⟩⟩ hp
  have hp : (decide (plan.length < 4611686018427387904)) = true := hp
  try simp only [Bool.and_eq_true, decide_eq_true_eq] at hp
  have p0 := hp
  exact ok75 plan p0
end Go.Proofs.Tryz
