/- Contracts. -/
import Derived.Test.YtiieincddkhcdaaGreatCg
set_option linter.unusedSimpArgs false
set_option linter.unusedVariables false
namespace Go.Proofs.Tryz
open Go Go.Aix
set_option maxRecDepth 100000
set_option maxHeartbeats 4000000
theorem ent76 : Enters Tryz.prog 76 := ⟨Tryz.f76, Tryz.func76, by kernel_rfl, by kernel_rfl⟩
abbrev G76_0 (w : World) (Xs : Nat → Prop) (plan : List NodeV) (wk : WorkerV) (i : Int) (r : RES) : Prop := WL [0, 3, 6] Tryz.prog 76 Tryz.f76 (Ent0 w Xs) (Back (Ent0 w Xs) r.1 r.2.1 r.2.2) (place (bodyOf Tryz.f76) [1,1,1,0,1,0,0] [])
  ⟨[(0, .one (.pv (.sl false 7 (tNode.encs plan)))), (3, .one (.ptr 0 0 0)), (6, .one (.pv (.sc (.int .i64 i))))], [(0, .box [.pv (.sl false 6 (tFrame.encs wk.inbox)), .pv (.sl false 3 (tCount.encs wk.counts)), .pv (.sl false 4 (tHeld.encs wk.nodes)), .pv (.sc (.int .i64 wk.epoch)), .pv (.sc (.int .i64 wk.top)), .pv (.sl false 3 (tRelease.encs wk.outs)), .pv (.sc (.bool wk.bad))])], 1⟩
abbrev G76_1 (w : World) (Xs : Nat → Prop) (plan : List NodeV) (wk : WorkerV) (i' : Int) (r : RES) : Prop := WL [0, 3, 9] Tryz.prog 76 Tryz.f76 (Ent0 w Xs) (Back (Ent0 w Xs) r.1 r.2.1 r.2.2) (place (bodyOf Tryz.f76) [1,1,1,1,1,1,0,1,0,0] [])
  ⟨[(0, .one (.pv (.sl false 7 (tNode.encs plan)))), (3, .one (.ptr 0 0 0)), (9, .one (.pv (.sc (.int .i64 i'))))], [(0, .box [.pv (.sl false 6 (tFrame.encs wk.inbox)), .pv (.sl false 3 (tCount.encs wk.counts)), .pv (.sl false 4 (tHeld.encs wk.nodes)), .pv (.sc (.int .i64 wk.epoch)), .pv (.sc (.int .i64 wk.top)), .pv (.sl false 3 (tRelease.encs wk.outs)), .pv (.sc (.bool wk.bad))])], 1⟩
noncomputable def Y76 (I : Ops) (K : FuncId → En) : CallsA := (Tab.calls [(75, true, callRd I (callE I (K 75) sh75)), (77, true, callRd I (callE I (K 77) sh77)), (108, true, callRd I (callE I (K 108) sh108)), (109, true, callRd I (callE I (K 109) sh109)), (42, true, callRd I (inl X I (Tab.calls []) Tryz.f42)), (110, true, callRd I (callE I (K 110) sh110))])
theorem tY76 {I : Ops} (hI : I = real) {K : FuncId → En} (k75 : K 75 = en75) (k77 : K 77 = en77) (k108 : K 108 = en108) (k109 : K 109 = en109) (k110 : K 110 = en110) : CallsOk Tryz.prog (Y76 I K) := (TabOk.calls mixed ⟨EntryOk.rd (s75 hI k75) hI, fun _ => callRd_quiet _ _, ⟨EntryOk.rd (s77 hI k77) hI, fun _ => callRd_quiet _ _, ⟨EntryOk.rd (s108 hI k108) hI, fun _ => callRd_quiet _ _, ⟨EntryOk.rd (s109 hI k109) hI, fun _ => callRd_quiet _ _, ⟨EntryOk.rd (s42 hI) hI, fun _ => callRd_quiet _ _, ⟨EntryOk.rd (s110 hI k110) hI, fun _ => callRd_quiet _ _, trivial⟩⟩⟩⟩⟩⟩)
theorem st76_0 {w : World} {Xs : Nat → Prop} (plan : List NodeV) (wk : WorkerV) (i : Int) {r : RES} (h : (if i < (wk.inbox.length : Int) then ((0 ≤ i ∧ i < (wk.inbox.length : Int)) ∧ ((planF plan = 0) ∧ (if frmF plan (nth wk.inbox i.toNat) = 0 then (if (nth wk.inbox i.toNat).kind = 1 then G76_0 w Xs plan wk (IntKind.i64.wrap (i + 1)) r else r = (.one (.pv (.sc (.int .i64 1))), [], 0)) else r = (.one (.pv (.sc (.int .i64 (frmF plan (nth wk.inbox i.toNat))))), [], 0)))) else ((planF plan = 0) ∧ (if cntF plan wk.counts = 0 then (if (wk.nodes.length : Int) = (plan.length : Int) then G76_1 w Xs plan wk 0 r else r = (.one (.pv (.sc (.int .i64 2))), [], 0)) else r = (.one (.pv (.sc (.int .i64 (cntF plan wk.counts)))), [], 0))))) : G76_0 w Xs plan wk i r := by
  obtain ⟨I, hI⟩ : ∃ I, I = real := ⟨_, rfl⟩; obtain ⟨K, k75, k77, k108, k109, k110⟩ : ∃ K : FuncId → En, K 75 = en75 ∧ K 77 = en77 ∧ K 108 = en108 ∧ K 109 = en109 ∧ K 110 = en110 := ⟨fun g => (lk g [(75, en75), (77, en77), (108, en108), (109, en109), (110, en110)]).getD default, rfl, rfl, rfl, rfl, rfl⟩
  unfold G76_0 WL
  obtain ⟨q0, hq0⟩ := eqv (tCount.encs wk.counts)
  try rw [← hq0]
  obtain ⟨q1, hq1⟩ := eqv (tRelease.encs wk.outs)
  try rw [← hq1]
  obtain ⟨q2, hq2⟩ := eqv (tFrame.encs wk.inbox)
  try rw [← hq2]
  obtain ⟨q3, hq3⟩ := eqv (tHeld.encs wk.nodes)
  try rw [← hq3]
  obtain ⟨q4, hq4⟩ := eqv (tNode.encs plan)
  try rw [← hq4]
  obtain ⟨q5, hq5⟩ := eqv wk.epoch
  try rw [← hq5]
  obtain ⟨q6, hq6⟩ := eqv wk.top
  try rw [← hq6]
  obtain ⟨q7, hq7⟩ := eqv wk.bad
  try rw [← hq7]
  have hS := And.intro hI (And.intro k75 (And.intro k77 (And.intro k108 (And.intro k109 (And.intro k110 (And.intro hq0 (And.intro hq1 (And.intro hq2 (And.intro hq3 (And.intro hq4 (And.intro hq5 (And.intro hq6 hq7))))))))))))
  refine W_go (Y := (Y76 I K)) xok (tY76 hI k75 k77 k108 k109 k110) Tryz.func76 rfl 2000 _ hI ?_; (conv => arg 4; cbv)
  exact fin
theorem st76_1 {w : World} {Xs : Nat → Prop} (plan : List NodeV) (wk : WorkerV) (i' : Int) {r : RES} (h : (if i' < (plan.length : Int) then ((0 ≤ i' ∧ i' < (wk.nodes.length : Int)) ∧ ((planF plan = 0) ∧ ((0 ≤ i' ∧ i' < plan.length) ∧ (if heldF plan i' (nth wk.nodes i'.toNat) = 0 then G76_1 w Xs plan wk (IntKind.i64.wrap (i' + 1)) r else r = (.one (.pv (.sc (.int .i64 (heldF plan i' (nth wk.nodes i'.toNat))))), [], 0))))) else (if 0 ≤ wk.top then (if wk.top ≤ 20 then (if wk.epoch = (-1) then ((planF plan = 0) ∧ ((wk.outs.length ≤ 400) ∧ r = (.one (.pv (.sc (.int .i64 (fstF (outF plan) wk.outs)))), [], 0))) else (if wk.epoch = wk.top then ((planF plan = 0) ∧ ((wk.outs.length ≤ 400) ∧ r = (.one (.pv (.sc (.int .i64 (fstF (outF plan) wk.outs)))), [], 0))) else r = (.one (.pv (.sc (.int .i64 3))), [], 0))) else r = (.one (.pv (.sc (.int .i64 3))), [], 0)) else r = (.one (.pv (.sc (.int .i64 3))), [], 0)))) : G76_1 w Xs plan wk i' r := by
  obtain ⟨I, hI⟩ : ∃ I, I = real := ⟨_, rfl⟩; obtain ⟨K, k75, k77, k108, k109, k110⟩ : ∃ K : FuncId → En, K 75 = en75 ∧ K 77 = en77 ∧ K 108 = en108 ∧ K 109 = en109 ∧ K 110 = en110 := ⟨fun g => (lk g [(75, en75), (77, en77), (108, en108), (109, en109), (110, en110)]).getD default, rfl, rfl, rfl, rfl, rfl⟩
  unfold G76_1 WL
  obtain ⟨q0, hq0⟩ := eqv (tCount.encs wk.counts)
  try rw [← hq0]
  obtain ⟨q1, hq1⟩ := eqv (tRelease.encs wk.outs)
  try rw [← hq1]
  obtain ⟨q2, hq2⟩ := eqv (tFrame.encs wk.inbox)
  try rw [← hq2]
  obtain ⟨q3, hq3⟩ := eqv (tHeld.encs wk.nodes)
  try rw [← hq3]
  obtain ⟨q4, hq4⟩ := eqv (tNode.encs plan)
  try rw [← hq4]
  obtain ⟨q5, hq5⟩ := eqv wk.epoch
  try rw [← hq5]
  obtain ⟨q6, hq6⟩ := eqv wk.top
  try rw [← hq6]
  obtain ⟨q7, hq7⟩ := eqv wk.bad
  try rw [← hq7]
  have hS := And.intro hI (And.intro k75 (And.intro k77 (And.intro k108 (And.intro k109 (And.intro k110 (And.intro hq0 (And.intro hq1 (And.intro hq2 (And.intro hq3 (And.intro hq4 (And.intro hq5 (And.intro hq6 hq7))))))))))))
  refine W_go (Y := (Y76 I K)) xok (tY76 hI k75 k77 k108 k109 k110) Tryz.func76 rfl 2000 _ hI ?_; (conv => arg 4; cbv)
  exact fin
theorem go76 (plan : List NodeV) (wk : WorkerV) {r : RES} (h : ∀ (w : World) (Xs : Nat → Prop), ((plan.length < 4611686018427387904) ∧ (if planF plan = 0 then (if 60 < (wk.inbox.length : Int) then r = (.one (.pv (.sc (.int .i64 2))), [], 0) else (if 400 < (wk.outs.length : Int) then r = (.one (.pv (.sc (.int .i64 2))), [], 0) else G76_0 w Xs plan wk 0 r)) else r = (.one (.pv (.sc (.int .i64 (planF plan)))), [], 0)))) : Ok0 Tryz.prog 76 [(pL tNode).enc plan, (pS tWorker).enc wk] r.1 r.2.1 r.2.2 := by
  obtain ⟨I, hI⟩ : ∃ I, I = real := ⟨_, rfl⟩; obtain ⟨K, k75, k77, k108, k109, k110⟩ : ∃ K : FuncId → En, K 75 = en75 ∧ K 77 = en77 ∧ K 108 = en108 ∧ K 109 = en109 ∧ K 110 = en110 := ⟨fun g => (lk g [(75, en75), (77, en77), (108, en108), (109, en109), (110, en110)]).getD default, rfl, rfl, rfl, rfl, rfl⟩
  show Ok0 Tryz.prog 76 [.one (.pv (.sl false 7 (tNode.encs plan))), .ag [.pv (.sl false 6 (tFrame.encs wk.inbox)), .pv (.sl false 3 (tCount.encs wk.counts)), .pv (.sl false 4 (tHeld.encs wk.nodes)), .pv (.sc (.int .i64 wk.epoch)), .pv (.sc (.int .i64 wk.top)), .pv (.sl false 3 (tRelease.encs wk.outs)), .pv (.sc (.bool wk.bad))]] _ _ _
  obtain ⟨q0, hq0⟩ := eqv (tCount.encs wk.counts)
  try rw [← hq0]
  obtain ⟨q1, hq1⟩ := eqv (tRelease.encs wk.outs)
  try rw [← hq1]
  obtain ⟨q2, hq2⟩ := eqv (tFrame.encs wk.inbox)
  try rw [← hq2]
  obtain ⟨q3, hq3⟩ := eqv (tHeld.encs wk.nodes)
  try rw [← hq3]
  obtain ⟨q4, hq4⟩ := eqv (tNode.encs plan)
  try rw [← hq4]
  obtain ⟨q5, hq5⟩ := eqv wk.epoch
  try rw [← hq5]
  obtain ⟨q6, hq6⟩ := eqv wk.top
  try rw [← hq6]
  obtain ⟨q7, hq7⟩ := eqv wk.bad
  try rw [← hq7]
  have hS := And.intro hI (And.intro k75 (And.intro k77 (And.intro k108 (And.intro k109 (And.intro k110 (And.intro hq0 (And.intro hq1 (And.intro hq2 (And.intro hq3 (And.intro hq4 (And.intro hq5 (And.intro hq6 hq7))))))))))))
  refine Ok0_run (Y := (Y76 I K)) xok (tY76 hI k75 k77 k108 k109 k110) Tryz.func76 rfl rfl rfl 2000 hI fun w Xs => ?_; (conv => arg 4; cbv)
  replace h := h w Xs
  exact fin
theorem ln76 {w : World} {Xs : Nat → Prop} (plan : List NodeV) (wk : WorkerV) (p0 : planF plan = 0) (hl : wk.outs.length ≤ 400) (hn : wk.nodes.length = plan.length) : ∀ k i : Nat, k + i = wk.nodes.length → G76_1 w Xs plan wk i (rI (nodesW plan (wk.nodes.drop i) i wk.epoch wk.top wk.outs)) := by
  have h8 := (planF_wid p0).1
  intro k
  induction k with
  | zero =>
    intro i hk
    apply st76_1
    rw [if_neg (by omega), drop_nil (l := wk.nodes) (by omega)]
    rw [show nodesW plan [] i wk.epoch wk.top wk.outs = tailW plan wk.epoch wk.top wk.outs from by unfold nodesW; rw [hldLp, if_pos rfl]]
    unfold tailW
    (repeat' (first | (refine And.intro ?_ ?_) | (refine if_go (fun q => ?_) (fun q => ?_))))
    all_goals first
      | omega
      | assumption
      | (refine congrArg rI ?_; (repeat' split) <;> first | rfl | omega)
  | succ k ih =>
    intro i hk
    apply st76_1
    rw [if_pos (by omega), wsucc (by omega), Int.toNat_natCast, nth_drop (l := wk.nodes) (i := i) (by omega)]
    refine ⟨by omega, p0, by omega, if_go (fun q => ?_) (fun q => ?_)⟩
    · rw [nod_pos q]; exact ih (i + 1) (by omega)
    · rw [nod_neg q]
theorem li76 {w : World} {Xs : Nat → Prop} (plan : List NodeV) (wk : WorkerV) (p0 : planF plan = 0) (hi : wk.inbox.length ≤ 60) (hl : wk.outs.length ≤ 400) : ∀ k i : Nat, k + i = wk.inbox.length → G76_0 w Xs plan wk i (rI (inbW plan (wk.inbox.drop i) wk.counts wk.nodes wk.epoch wk.top wk.outs)) := by
  intro k
  induction k with
  | zero =>
    intro i hk
    apply st76_0
    rw [if_neg (by omega), drop_nil (l := wk.inbox) (by omega)]
    rw [show inbW plan [] wk.counts wk.nodes wk.epoch wk.top wk.outs = cntsW plan wk.counts wk.nodes wk.epoch wk.top wk.outs from by unfold inbW; rw [fstF, if_pos rfl]]
    unfold cntsW
    refine ⟨p0, if_go (fun q => if_go (fun q2 => ?_) (fun q2 => ?_)) (fun q => ?_)⟩
    · rw [if_pos q, if_pos (by omega)]
      exact ln76 plan wk p0 hl (by omega) wk.nodes.length 0 rfl
    · rw [if_pos q, if_neg (by omega)]
    · rw [if_neg q]
  | succ k ih =>
    intro i hk
    apply st76_0
    rw [if_pos (by omega), wsucc (by omega), Int.toNat_natCast, nth_drop (l := wk.inbox) (i := i) (by omega)]
    refine ⟨by omega, p0, if_go (fun q => if_go (fun q2 => ?_) (fun q2 => ?_)) (fun q => ?_)⟩
    · rw [inb_pos q q2]; exact ih (i + 1) (by omega)
    · rw [inb_neg (v := 1) (by unfold inF; rw [if_pos q, if_neg q2]) (by decide)]
    · rw [inb_neg (v := frmF plan (nth wk.inbox i)) (by unfold inF; rw [if_neg q]) q]
def sh76 : Shp := fun I i b l s => .ok (.one (.pv (.sc (.int .i64 (i 0)))), [], 0)
def an76 : An (List NodeV × WorkerV × Unit) where
  pre t := decide (planF t.1 = 0)
  i _ t := wkrF t.1 t.2.1
noncomputable def en76 : En := mkE (parsC (pL tNode) (parsC (pS tWorker) pars0)) an76
attribute [simp] en76 an76
theorem ok76 (plan : List NodeV) (wk : WorkerV) (p0 : planF plan = 0) : Ok0 Tryz.prog 76 [(pL tNode).enc plan, (pS tWorker).enc wk] ((.one (.pv (.sc (.int .i64 (wkrF plan wk)))), [], 0) : RES).1 ((.one (.pv (.sc (.int .i64 (wkrF plan wk)))), [], 0) : RES).2.1 ((.one (.pv (.sc (.int .i64 (wkrF plan wk)))), [], 0) : RES).2.2 := by
  have h8 := (planF_wid p0).1
  refine go76 plan wk fun w Xs => ⟨by omega, ?_⟩
  rw [if_pos p0]
  unfold wkrF
  refine if_go (fun q => ?_) (fun q => if_go (fun q2 => ?_) (fun q2 => ?_))
  · rw [if_pos (by omega)]
  · rw [if_neg (by omega), if_pos (by omega)]
  · rw [if_neg (by omega), if_neg (by omega)]
    exact li76 plan wk p0 (by omega) (by omega) wk.inbox.length 0 rfl
theorem s76 {I : Ops} (hI : I = real) {e : En} (he : e = en76) : Sound Tryz.prog 76 (callE I e sh76) := by
  refine Sound.mkE ent76 hI (fun _ => rfl) ?_ he
  rintro ⟨plan, wk, ⟨⟩⟩ hp
  have hp : (decide (planF plan = 0)) = true := hp
  try simp only [Bool.and_eq_true, decide_eq_true_eq] at hp
  have p0 := hp
  exact ok76 plan wk p0
end Go.Proofs.Tryz
