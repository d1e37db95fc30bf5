/- Contracts. -/
import Derived.Test.YtiieincddkhcdaaGreatCe
set_option linter.unusedSimpArgs false
set_option linter.unusedVariables false
namespace Go.Proofs.Tryz
open Go Go.Aix
set_option maxRecDepth 100000
set_option maxHeartbeats 4000000
theorem fst_pos {α : Type} {f : α → Int} {x : α} {r : List α} (h : f x = 0) : fstF f (x :: r) = fstF f r := by rw [fstF, if_pos h]
theorem fst_neg {α : Type} {f : α → Int} {x : α} {r : List α} (h : ¬ f x = 0) : fstF f (x :: r) = f x := by rw [fstF, if_neg h]
theorem wt_pos {plan : List NodeV} {node t o : Int} {x : BatchV} {r : List BatchV} (h : waitF plan node x = 0) : wtF plan node (x :: r) t o = wtF plan node r t o := by unfold wtF; rw [fst_pos h]
theorem wt_neg {plan : List NodeV} {node t o : Int} {x : BatchV} {r : List BatchV} (h : ¬ waitF plan node x = 0) : wtF plan node (x :: r) t o = waitF plan node x := by unfold wtF; rw [fst_neg h, if_neg h]
theorem ent142 : Enters Tryz.prog 142 := ⟨Tryz.f142, Tryz.func142, by kernel_rfl, by kernel_rfl⟩
noncomputable def Y142 (I : Ops) (K : FuncId → En) : CallsA := (Tab.calls [(75, true, callRd I (callE I (K 75) sh75)), (42, true, callRd I (inl X I (Tab.calls []) Tryz.f42))])
theorem tY142 {I : Ops} (hI : I = real) {K : FuncId → En} (k75 : K 75 = en75) : CallsOk Tryz.prog (Y142 I K) := (TabOk.calls mixed ⟨EntryOk.rd (s75 hI k75) hI, fun _ => callRd_quiet _ _, ⟨EntryOk.rd (s42 hI) hI, fun _ => callRd_quiet _ _, trivial⟩⟩)
theorem s142 {I : Ops} (hI : I = real) {K : FuncId → En} (k75 : K 75 = en75) : Sound Tryz.prog 142 (inl X I (Y142 I K) Tryz.f142) :=
  Sound.inl (Y := (Y142 I K)) xok (tY142 hI k75) ent142 Tryz.func142 rfl rfl hI
theorem ent109 : Enters Tryz.prog 109 := ⟨Tryz.f109, Tryz.func109, by kernel_rfl, by kernel_rfl⟩
abbrev G109_0 (w : World) (Xs : Nat → Prop) (plan : List NodeV) (node : Int) (hd : HeldV) (i : Int) (r : RES) : Prop := WL [0, 1, 5, 9] Tryz.prog 109 Tryz.f109 (Ent0 w Xs) (Back (Ent0 w Xs) r.1 r.2.1 r.2.2) (place (bodyOf Tryz.f109) [1,1,1,1,1,0,1,0,0] [])
  ⟨[(0, .one (.pv (.sl false 7 (tNode.encs plan)))), (1, .one (.pv (.sc (.int .i64 node)))), (5, .one (.ptr 0 0 0)), (9, .one (.pv (.sc (.int .i64 i))))], [(0, .box [.pv (.sl false 2 (tEntry.encs hd.oldA)), .pv (.sl false 2 (tEntry.encs hd.oldB)), .pv (.sl false 3 (tBatch.encs hd.waits)), .pv (.sc (.int .i64 hd.told))])], 1⟩
noncomputable def Y109 (I : Ops) (K : FuncId → En) : CallsA := (Tab.calls [(142, true, callRd I (inl X I (Y142 I K) Tryz.f142)), (143, true, callRd I (callE I (K 143) sh143)), (144, true, callRd I (callE I (K 144) sh144)), (111, true, callRd I (callE I (K 111) sh111)), (42, true, callRd I (inl X I (Tab.calls []) Tryz.f42))])
theorem tY109 {I : Ops} (hI : I = real) {K : FuncId → En} (k75 : K 75 = en75) (k143 : K 143 = en143) (k144 : K 144 = en144) (k111 : K 111 = en111) : CallsOk Tryz.prog (Y109 I K) := (TabOk.calls mixed ⟨EntryOk.rd (s142 hI k75) hI, fun _ => callRd_quiet _ _, ⟨EntryOk.rd (s143 hI k143) hI, fun _ => callRd_quiet _ _, ⟨EntryOk.rd (s144 hI k144) hI, fun _ => callRd_quiet _ _, ⟨EntryOk.rd (s111 hI k111) hI, fun _ => callRd_quiet _ _, ⟨EntryOk.rd (s42 hI) hI, fun _ => callRd_quiet _ _, trivial⟩⟩⟩⟩⟩)
theorem st109_0 {w : World} {Xs : Nat → Prop} (plan : List NodeV) (node : Int) (hd : HeldV) (i : Int) {r : RES} (h : (if i < (hd.waits.length : Int) then ((0 ≤ i ∧ i < (hd.waits.length : Int)) ∧ ((planF plan = 0) ∧ (if dataF plan node ((nth hd.waits i.toNat).side) ((nth hd.waits i.toNat).epoch) ((nth hd.waits i.toNat).set) = 0 then G109_0 w Xs plan node hd (IntKind.i64.wrap (i + 1)) r else r = (.one (.pv (.sc (.int .i64 (dataF plan node ((nth hd.waits i.toNat).side) ((nth hd.waits i.toNat).epoch) ((nth hd.waits i.toNat).set))))), [], 0)))) else (if 0 ≤ hd.told then (if hd.told ≤ 20 then (if hd.told = 0 then r = (.one (.pv (.sc (.int .i64 0))), [], 0) else ((0 ≤ node ∧ node < (plan.length : Int)) ∧ (if (nth plan node.toNat).op = 12 then r = (.one (.pv (.sc (.int .i64 0))), [], 0) else r = (.one (.pv (.sc (.int .i64 3))), [], 0)))) else r = (.one (.pv (.sc (.int .i64 3))), [], 0)) else r = (.one (.pv (.sc (.int .i64 3))), [], 0)))) : G109_0 w Xs plan node hd i r := by
  obtain ⟨I, hI⟩ : ∃ I, I = real := ⟨_, rfl⟩; obtain ⟨K, k75, k143, k144, k111⟩ : ∃ K : FuncId → En, K 75 = en75 ∧ K 143 = en143 ∧ K 144 = en144 ∧ K 111 = en111 := ⟨fun g => (lk g [(75, en75), (143, en143), (144, en144), (111, en111)]).getD default, rfl, rfl, rfl, rfl⟩
  unfold G109_0 WL
  obtain ⟨q0, hq0⟩ := eqv (tBatch.encs hd.waits)
  try rw [← hq0]
  obtain ⟨q1, hq1⟩ := eqv (tEntry.encs hd.oldA)
  try rw [← hq1]
  obtain ⟨q2, hq2⟩ := eqv (tEntry.encs hd.oldB)
  try rw [← hq2]
  obtain ⟨q3, hq3⟩ := eqv (tNode.encs plan)
  try rw [← hq3]
  obtain ⟨q4, hq4⟩ := eqv hd.told
  try rw [← hq4]
  have hS := And.intro hI (And.intro k75 (And.intro k143 (And.intro k144 (And.intro k111 (And.intro hq0 (And.intro hq1 (And.intro hq2 (And.intro hq3 hq4))))))))
  refine W_go (Y := (Y109 I K)) xok (tY109 hI k75 k143 k144 k111) Tryz.func109 rfl 2000 _ hI ?_; (conv => arg 4; cbv)
  exact fin
theorem go109 (plan : List NodeV) (node : Int) (hd : HeldV) {r : RES} (h : ∀ (w : World) (Xs : Nat → Prop), ((plan.length < 4611686018427387904) ∧ (if planF plan = 0 then (if 0 ≤ node then (if node ≤ (IntKind.i64.wrap ((plan.length : Int) - 1)) then ((0 ≤ node ∧ node < (plan.length : Int)) ∧ (if (!(staysN (nth plan node.toNat))) = true then ((0 ≤ node ∧ node < plan.length) ∧ (((nth plan node.toNat).op ≠ 1) ∧ (if oldF plan node hd = 0 then (if 60 < (hd.waits.length : Int) then r = (.one (.pv (.sc (.int .i64 2))), [], 0) else G109_0 w Xs plan node hd 0 r) else r = (.one (.pv (.sc (.int .i64 (oldF plan node hd)))), [], 0)))) else (if 0 < (hd.oldA.length : Int) then r = (.one (.pv (.sc (.int .i64 1))), [], 0) else (if 0 < (hd.oldB.length : Int) then r = (.one (.pv (.sc (.int .i64 1))), [], 0) else (if 0 < (hd.waits.length : Int) then r = (.one (.pv (.sc (.int .i64 1))), [], 0) else (if hd.told = 0 then r = (.one (.pv (.sc (.int .i64 0))), [], 0) else r = (.one (.pv (.sc (.int .i64 1))), [], 0))))))) else r = (.one (.pv (.sc (.int .i64 3))), [], 0)) else r = (.one (.pv (.sc (.int .i64 3))), [], 0)) else r = (.one (.pv (.sc (.int .i64 (planF plan)))), [], 0)))) : Ok0 Tryz.prog 109 [(pL tNode).enc plan, pI.enc node, (pS tHeld).enc hd] r.1 r.2.1 r.2.2 := by
  obtain ⟨I, hI⟩ : ∃ I, I = real := ⟨_, rfl⟩; obtain ⟨K, k75, k143, k144, k111⟩ : ∃ K : FuncId → En, K 75 = en75 ∧ K 143 = en143 ∧ K 144 = en144 ∧ K 111 = en111 := ⟨fun g => (lk g [(75, en75), (143, en143), (144, en144), (111, en111)]).getD default, rfl, rfl, rfl, rfl⟩
  show Ok0 Tryz.prog 109 [.one (.pv (.sl false 7 (tNode.encs plan))), .one (.pv (.sc (.int .i64 node))), .ag [.pv (.sl false 2 (tEntry.encs hd.oldA)), .pv (.sl false 2 (tEntry.encs hd.oldB)), .pv (.sl false 3 (tBatch.encs hd.waits)), .pv (.sc (.int .i64 hd.told))]] _ _ _
  obtain ⟨q0, hq0⟩ := eqv (tBatch.encs hd.waits)
  try rw [← hq0]
  obtain ⟨q1, hq1⟩ := eqv (tEntry.encs hd.oldA)
  try rw [← hq1]
  obtain ⟨q2, hq2⟩ := eqv (tEntry.encs hd.oldB)
  try rw [← hq2]
  obtain ⟨q3, hq3⟩ := eqv (tNode.encs plan)
  try rw [← hq3]
  obtain ⟨q4, hq4⟩ := eqv hd.told
  try rw [← hq4]
  have hS := And.intro hI (And.intro k75 (And.intro k143 (And.intro k144 (And.intro k111 (And.intro hq0 (And.intro hq1 (And.intro hq2 (And.intro hq3 hq4))))))))
  refine Ok0_run (Y := (Y109 I K)) xok (tY109 hI k75 k143 k144 k111) Tryz.func109 rfl rfl rfl 2000 hI fun w Xs => ?_; (conv => arg 4; cbv)
  replace h := h w Xs
  exact fin
theorem lm109 {w : World} {Xs : Nat → Prop} (plan : List NodeV) (node : Int) (hd : HeldV) (p0 : planF plan = 0) (hn : 0 ≤ node ∧ node < plan.length) (hl : hd.waits.length ≤ 60) : ∀ k i : Nat, k + i = hd.waits.length → G109_0 w Xs plan node hd i (rI (wtF plan node (hd.waits.drop i) hd.told (nth plan node.toNat).op)) := by
  intro k
  induction k with
  | zero =>
    intro i hk
    apply st109_0
    rw [if_neg (by omega), drop_nil (l := hd.waits) (by omega)]
    unfold wtF
    rw [show fstF (waitF plan node) [] = 0 from rfl, if_pos rfl]
    unfold endF
    (repeat' (first | (refine And.intro ?_ ?_) | (refine if_go (fun q => ?_) (fun q => ?_))))
    all_goals first
      | omega
      | (refine congrArg rI ?_; (repeat' split) <;> first | rfl | omega)
  | succ k ih =>
    intro i hk
    apply st109_0
    rw [if_pos (by omega), wsucc (by omega), Int.toNat_natCast, nth_drop (l := hd.waits) (i := i) (by omega)]
    refine ⟨by omega, p0, if_go (fun q => ?_) (fun q => ?_)⟩
    · rw [wt_pos q]; exact ih (i + 1) (by omega)
    · rw [wt_neg q]; rfl
def sh109 : Shp := fun I i b l s => .ok (.one (.pv (.sc (.int .i64 (i 0)))), [], 0)
def an109 : An (List NodeV × Int × HeldV × Unit) where
  pre t := decide (planF t.1 = 0) && decide (0 ≤ t.2.1 ∧ t.2.1 < t.1.length)
  i _ t := heldF t.1 t.2.1 t.2.2.1
noncomputable def en109 : En := mkE (parsC (pL tNode) (parsC pI (parsC (pS tHeld) pars0))) an109
attribute [simp] en109 an109
theorem ok109 (plan : List NodeV) (node : Int) (hd : HeldV) (p0 : planF plan = 0) (p1 : 0 ≤ node ∧ node < plan.length) : Ok0 Tryz.prog 109 [(pL tNode).enc plan, pI.enc node, (pS tHeld).enc hd] ((.one (.pv (.sc (.int .i64 (heldF plan node hd)))), [], 0) : RES).1 ((.one (.pv (.sc (.int .i64 (heldF plan node hd)))), [], 0) : RES).2.1 ((.one (.pv (.sc (.int .i64 (heldF plan node hd)))), [], 0) : RES).2.2 := by
  have h8 := (planF_wid p0).1
  have hwr : IntKind.i64.wrap ((plan.length : Int) - 1) = (plan.length : Int) - 1 := by rw [IntKind.wrap_i64]; omega
  refine go109 plan node hd fun w Xs => ?_
  rw [hwr]
  refine ⟨by omega, ?_⟩
  rw [if_pos p0, if_pos p1.1, if_pos (by omega)]
  refine ⟨p1, ?_⟩
  unfold heldF
  by_cases hs : staysN (nth plan node.toNat) = true
  · rw [if_neg (by simp [hs]), if_pos hs]
    (repeat' (first | (refine And.intro ?_ ?_) | (refine if_go (fun q => ?_) (fun q => ?_))))
    all_goals (refine congrArg rI ?_; (repeat' split) <;> first | rfl | omega)
  · have ho : (nth plan node.toNat).op ≠ 1 := fun e => hs (by unfold staysN; rw [e]; rfl)
    rw [if_pos (by simpa using hs), if_neg hs]
    refine ⟨p1, ho, if_go (fun q => if_go (fun q2 => ?_) (fun q2 => ?_)) (fun q => ?_)⟩
    · rw [if_pos q, if_pos (by omega)]
    · rw [if_pos q, if_neg (by omega)]; exact lm109 plan node hd p0 p1 (by omega) hd.waits.length 0 rfl
    · rw [if_neg q]
theorem s109 {I : Ops} (hI : I = real) {e : En} (he : e = en109) : Sound Tryz.prog 109 (callE I e sh109) := by
  refine Sound.mkE ent109 hI (fun _ => rfl) ?_ he
  rintro ⟨plan, node, hd, ⟨⟩⟩ hp
  have hp : (decide (planF plan = 0) && decide (0 ≤ node ∧ node < plan.length)) = true := hp
  try simp only [Bool.and_eq_true, decide_eq_true_eq] at hp
  obtain ⟨p0, p1⟩ := hp
  exact ok109 plan node hd p0 p1
theorem ent124 : Enters Tryz.prog 124 := ⟨Tryz.f124, Tryz.func124, by kernel_rfl, by kernel_rfl⟩
abbrev G124_0 (w : World) (Xs : Nat → Prop) (plan : List NodeV) (widths : List Int) (node : Int) (hd : HeldV) (b0_0 : List EntryV) (b0_1 : List EntryV) (b0_2 : List BatchV) (b0_3 : Int) (b1_0 : Int) (b1_1 : Int) (b1_2 : Int) (b1_3 : Int) (b1_4 : Int) (b1_5 : Int) (b1_6 : List Int) (x83 : Int) (r : RES) : Prop := WL [0, 1, 2, 7, 9, 81, 82, 83] Tryz.prog 124 Tryz.f124 (Ent0 w Xs) (Back (Ent0 w Xs) r.1 r.2.1 r.2.2) (place (bodyOf Tryz.f124) [1,1,1,1,1,1,1,0,1,0,0] [])
  ⟨[(0, .one (.pv (.sl false 7 (tNode.encs plan)))), (1, .one (.pv (.sl false 1 (tI64.encs widths)))), (2, .one (.pv (.sc (.int .i64 node)))), (7, .one (.ptr 0 0 0)), (9, .one (.ptr 1 0 0)), (81, .one (.pv (.sl false 3 (tBatch.encs hd.waits)))), (82, .one (.pv (.sc (.int .i64 (hd.waits.length : Int))))), (83, .one (.pv (.sc (.int .i64 x83))))], [(0, .box [.pv (.sl false 2 (tEntry.encs b0_0)), .pv (.sl false 2 (tEntry.encs b0_1)), .pv (.sl false 3 (tBatch.encs b0_2)), .pv (.sc (.int .i64 b0_3))]), (1, .box [.pv (.sc (.int .i64 b1_0)), .pv (.sc (.int .i64 b1_1)), .pv (.sc (.int .i64 b1_2)), .pv (.sc (.int .i64 b1_3)), .pv (.sc (.int .i64 b1_4)), .pv (.sc (.int .i64 b1_5)), .pv (.sl false 1 (tI64.encs b1_6))])], 2⟩
noncomputable def Y124 (I : Ops) (K : FuncId → En) : CallsA := (Tab.calls [(156, true, callRd I (callE I (K 156) sh156)), (125, true, callRd I (callE I (K 125) sh125)), (151, true, callRd I (inl X I (Tab.calls []) Tryz.f151)), (127, true, callRd I (callE I (K 127) sh127)), (47, true, callRd I (inl X I (Tab.calls []) Tryz.f47))])
theorem tY124 {I : Ops} (hI : I = real) {K : FuncId → En} (k156 : K 156 = en156) (k125 : K 125 = en125) (k127 : K 127 = en127) : CallsOk Tryz.prog (Y124 I K) := (TabOk.calls mixed ⟨EntryOk.rd (s156 hI k156) hI, fun _ => callRd_quiet _ _, ⟨EntryOk.rd (s125 hI k125) hI, fun _ => callRd_quiet _ _, ⟨EntryOk.rd (s151 hI) hI, fun _ => callRd_quiet _ _, ⟨EntryOk.rd (s127 hI k127) hI, fun _ => callRd_quiet _ _, ⟨EntryOk.rd (s47 hI) hI, fun _ => callRd_quiet _ _, trivial⟩⟩⟩⟩⟩)
theorem st124_0 {w : World} {Xs : Nat → Prop} (plan : List NodeV) (widths : List Int) (node : Int) (hd : HeldV) (b0_0 : List EntryV) (b0_1 : List EntryV) (b0_2 : List BatchV) (b0_3 : Int) (b1_0 : Int) (b1_1 : Int) (b1_2 : Int) (b1_3 : Int) (b1_4 : Int) (b1_5 : Int) (b1_6 : List Int) (x83 : Int) {r : RES} (h : (if x83 < (hd.waits.length : Int) then ((0 ≤ x83 ∧ x83 < (hd.waits.length : Int)) ∧ ((planF plan = 0) ∧ ((widths = wsOf plan plan.length) ∧ (if dataF plan node ((nth hd.waits x83.toNat).side) ((nth hd.waits x83.toNat).epoch) ((nth hd.waits x83.toNat).set) = 0 then G124_0 w Xs plan widths node hd b0_0 b0_1 b0_2 b0_3 b1_0 b1_1 b1_2 b1_3 b1_4 b1_5 b1_6 (IntKind.i64.wrap (x83 + 1)) r else r = (.one (.pv (.sc (.int .i64 (dataF plan node ((nth hd.waits x83.toNat).side) ((nth hd.waits x83.toNat).epoch) ((nth hd.waits x83.toNat).set))))), [], 0))))) else (if 0 ≤ b0_3 then (if b0_3 ≤ 20 then (if b0_3 = 0 then r = (.one (.pv (.sc (.int .i64 0))), [], 0) else (if b1_0 = 12 then r = (.one (.pv (.sc (.int .i64 0))), [], 0) else r = (.one (.pv (.sc (.int .i64 3))), [], 0))) else r = (.one (.pv (.sc (.int .i64 3))), [], 0)) else r = (.one (.pv (.sc (.int .i64 3))), [], 0)))) : G124_0 w Xs plan widths node hd b0_0 b0_1 b0_2 b0_3 b1_0 b1_1 b1_2 b1_3 b1_4 b1_5 b1_6 x83 r := by
  obtain ⟨I, hI⟩ : ∃ I, I = real := ⟨_, rfl⟩; obtain ⟨K, k156, k125, k127⟩ : ∃ K : FuncId → En, K 156 = en156 ∧ K 125 = en125 ∧ K 127 = en127 := ⟨fun g => (lk g [(156, en156), (125, en125), (127, en127)]).getD default, rfl, rfl, rfl⟩
  unfold G124_0 WL
  obtain ⟨q0, hq0⟩ := eqv (hd.waits.length : Int)
  try rw [← hq0]
  obtain ⟨q1, hq1⟩ := eqv (tBatch.encs hd.waits)
  try rw [← hq1]
  obtain ⟨q2, hq2⟩ := eqv (tI64.encs widths)
  try rw [← hq2]
  obtain ⟨q3, hq3⟩ := eqv (tEntry.encs b0_0)
  try rw [← hq3]
  obtain ⟨q4, hq4⟩ := eqv (tEntry.encs b0_1)
  try rw [← hq4]
  obtain ⟨q5, hq5⟩ := eqv (tBatch.encs b0_2)
  try rw [← hq5]
  obtain ⟨q6, hq6⟩ := eqv (tNode.encs plan)
  try rw [← hq6]
  obtain ⟨q7, hq7⟩ := eqv (tI64.encs b1_6)
  try rw [← hq7]
  have hS := And.intro hI (And.intro k156 (And.intro k125 (And.intro k127 (And.intro hq0 (And.intro hq1 (And.intro hq2 (And.intro hq3 (And.intro hq4 (And.intro hq5 (And.intro hq6 hq7))))))))))
  refine W_go (Y := (Y124 I K)) xok (tY124 hI k156 k125 k127) Tryz.func124 rfl 2000 _ hI ?_; (conv => arg 4; cbv)
  exact fin
theorem go124 (plan : List NodeV) (widths : List Int) (node : Int) (hd : HeldV) {r : RES} (h : ∀ (w : World) (Xs : Nat → Prop), ((0 ≤ node ∧ node < (plan.length : Int)) ∧ (if (staysN (nth plan node.toNat)) = true then (if 0 < (IntKind.i64.wrap ((IntKind.i64.wrap ((hd.oldA.length : Int) + (hd.oldB.length : Int))) + (hd.waits.length : Int))) then r = (.one (.pv (.sc (.int .i64 1))), [], 0) else (if hd.told = 0 then r = (.one (.pv (.sc (.int .i64 0))), [], 0) else r = (.one (.pv (.sc (.int .i64 1))), [], 0))) else ((0 ≤ (nth plan node.toNat).a ∧ (nth plan node.toNat).a < (widths.length : Int)) ∧ (if wdF hd.oldA (nth widths (((nth plan node.toNat).a).toNat)) = 0 then (if (nth plan node.toNat).op = 4 then ((0 ≤ (nth plan node.toNat).b ∧ (nth plan node.toNat).b < (widths.length : Int)) ∧ (if wdF hd.oldB (nth widths (((nth plan node.toNat).b).toNat)) = 0 then (if 60 < (hd.waits.length : Int) then r = (.one (.pv (.sc (.int .i64 2))), [], 0) else G124_0 w Xs plan widths node hd hd.oldA hd.oldB hd.waits hd.told ((nth plan node.toNat).op) ((nth plan node.toNat).a) ((nth plan node.toNat).b) ((nth plan node.toNat).col) ((nth plan node.toNat).test) ((nth plan node.toNat).value) ((nth plan node.toNat).cells) 0 r) else r = (.one (.pv (.sc (.int .i64 (wdF hd.oldB (nth widths (((nth plan node.toNat).b).toNat)))))), [], 0))) else (if (nth plan node.toNat).op = 6 then ((0 ≤ (nth plan node.toNat).b ∧ (nth plan node.toNat).b < (widths.length : Int)) ∧ (if wdF hd.oldB (nth widths (((nth plan node.toNat).b).toNat)) = 0 then (if 60 < (hd.waits.length : Int) then r = (.one (.pv (.sc (.int .i64 2))), [], 0) else G124_0 w Xs plan widths node hd hd.oldA hd.oldB hd.waits hd.told ((nth plan node.toNat).op) ((nth plan node.toNat).a) ((nth plan node.toNat).b) ((nth plan node.toNat).col) ((nth plan node.toNat).test) ((nth plan node.toNat).value) ((nth plan node.toNat).cells) 0 r) else r = (.one (.pv (.sc (.int .i64 (wdF hd.oldB (nth widths (((nth plan node.toNat).b).toNat)))))), [], 0))) else (if 0 < (hd.oldB.length : Int) then r = (.one (.pv (.sc (.int .i64 1))), [], 0) else (if (nth plan node.toNat).op = 12 then (if 0 < (hd.oldA.length : Int) then r = (.one (.pv (.sc (.int .i64 1))), [], 0) else (if 60 < (hd.waits.length : Int) then r = (.one (.pv (.sc (.int .i64 2))), [], 0) else G124_0 w Xs plan widths node hd hd.oldA hd.oldB hd.waits hd.told ((nth plan node.toNat).op) ((nth plan node.toNat).a) ((nth plan node.toNat).b) ((nth plan node.toNat).col) ((nth plan node.toNat).test) ((nth plan node.toNat).value) ((nth plan node.toNat).cells) 0 r)) else (if 60 < (hd.waits.length : Int) then r = (.one (.pv (.sc (.int .i64 2))), [], 0) else G124_0 w Xs plan widths node hd hd.oldA hd.oldB hd.waits hd.told ((nth plan node.toNat).op) ((nth plan node.toNat).a) ((nth plan node.toNat).b) ((nth plan node.toNat).col) ((nth plan node.toNat).test) ((nth plan node.toNat).value) ((nth plan node.toNat).cells) 0 r))))) else r = (.one (.pv (.sc (.int .i64 (wdF hd.oldA (nth widths (((nth plan node.toNat).a).toNat)))))), [], 0)))))) : Ok0 Tryz.prog 124 [(pL tNode).enc plan, (pL tI64).enc widths, pI.enc node, (pS tHeld).enc hd] r.1 r.2.1 r.2.2 := by
  obtain ⟨I, hI⟩ : ∃ I, I = real := ⟨_, rfl⟩; obtain ⟨K, k156, k125, k127⟩ : ∃ K : FuncId → En, K 156 = en156 ∧ K 125 = en125 ∧ K 127 = en127 := ⟨fun g => (lk g [(156, en156), (125, en125), (127, en127)]).getD default, rfl, rfl, rfl⟩
  show Ok0 Tryz.prog 124 [.one (.pv (.sl false 7 (tNode.encs plan))), .one (.pv (.sl false 1 (tI64.encs widths))), .one (.pv (.sc (.int .i64 node))), .ag [.pv (.sl false 2 (tEntry.encs hd.oldA)), .pv (.sl false 2 (tEntry.encs hd.oldB)), .pv (.sl false 3 (tBatch.encs hd.waits)), .pv (.sc (.int .i64 hd.told))]] _ _ _
  obtain ⟨q0, hq0⟩ := eqv (tBatch.encs hd.waits)
  try rw [← hq0]
  obtain ⟨q1, hq1⟩ := eqv (tEntry.encs hd.oldA)
  try rw [← hq1]
  obtain ⟨q2, hq2⟩ := eqv (tEntry.encs hd.oldB)
  try rw [← hq2]
  obtain ⟨q3, hq3⟩ := eqv (tI64.encs widths)
  try rw [← hq3]
  obtain ⟨q4, hq4⟩ := eqv (tNode.encs plan)
  try rw [← hq4]
  obtain ⟨q5, hq5⟩ := eqv hd.told
  try rw [← hq5]
  have hS := And.intro hI (And.intro k156 (And.intro k125 (And.intro k127 (And.intro hq0 (And.intro hq1 (And.intro hq2 (And.intro hq3 (And.intro hq4 hq5))))))))
  refine Ok0_run (Y := (Y124 I K)) xok (tY124 hI k156 k125 k127) Tryz.func124 rfl rfl rfl 2000 hI fun w Xs => ?_; (conv => arg 4; cbv)
  replace h := h w Xs
  exact fin
theorem lm124 {w : World} {Xs : Nat → Prop} (plan : List NodeV) (widths : List Int) (node : Int) (hd : HeldV) (b0_0 : List EntryV) (b0_1 : List EntryV) (b0_2 : List BatchV) (b0_3 : Int) (b1_0 : Int) (b1_1 : Int) (b1_2 : Int) (b1_3 : Int) (b1_4 : Int) (b1_5 : Int) (b1_6 : List Int) (p0 : planF plan = 0) (hw : widths = wsOf plan plan.length) (hl : hd.waits.length ≤ 60) : ∀ k i : Nat, k + i = hd.waits.length → G124_0 w Xs plan widths node hd b0_0 b0_1 b0_2 b0_3 b1_0 b1_1 b1_2 b1_3 b1_4 b1_5 b1_6 i (rI (wtF plan node (hd.waits.drop i) b0_3 b1_0)) := by
  intro k
  induction k with
  | zero =>
    intro i hk
    apply st124_0
    rw [if_neg (by omega), drop_nil (l := hd.waits) (by omega)]
    unfold wtF
    rw [show fstF (waitF plan node) [] = 0 from rfl, if_pos rfl]
    unfold endF
    (repeat' (first | (refine And.intro ?_ ?_) | (refine if_go (fun q => ?_) (fun q => ?_))))
    all_goals first
      | omega
      | (refine congrArg rI ?_; (repeat' split) <;> first | rfl | omega)
  | succ k ih =>
    intro i hk
    apply st124_0
    rw [if_pos (by omega), wsucc (by omega), Int.toNat_natCast, nth_drop (l := hd.waits) (i := i) (by omega)]
    refine ⟨by omega, p0, hw, if_go (fun q => ?_) (fun q => ?_)⟩
    · rw [wt_pos q]; exact ih (i + 1) (by omega)
    · rw [wt_neg q]; rfl
def sh124 : Shp := fun I i b l s => .ok (.one (.pv (.sc (.int .i64 (i 0)))), [], 0)
def an124 : An (List NodeV × List Int × Int × HeldV × Unit) where
  pre t := decide (planF t.1 = 0) && decide (t.2.1 = wsOf t.1 t.1.length) && decide (0 ≤ t.2.2.1 ∧ t.2.2.1 < t.1.length) && (bHeld t.2.2.2.1)
  i _ t := heldF t.1 t.2.2.1 t.2.2.2.1
noncomputable def en124 : En := mkE (parsC (pL tNode) (parsC (pL tI64) (parsC pI (parsC (pS tHeld) pars0)))) an124
attribute [simp] en124 an124
theorem ok124 (plan : List NodeV) (widths : List Int) (node : Int) (hd : HeldV) (p0 : planF plan = 0) (p1 : widths = wsOf plan plan.length) (p2 : 0 ≤ node ∧ node < plan.length) (p3 : bHeld hd = true) : Ok0 Tryz.prog 124 [(pL tNode).enc plan, (pL tI64).enc widths, pI.enc node, (pS tHeld).enc hd] ((.one (.pv (.sc (.int .i64 (heldF plan node hd)))), [], 0) : RES).1 ((.one (.pv (.sc (.int .i64 (heldF plan node hd)))), [], 0) : RES).2.1 ((.one (.pv (.sc (.int .i64 (heldF plan node hd)))), [], 0) : RES).2.2 := by
  have h8 := (planF_wid p0).1
  have hI := PlanI.of p0
  obtain ⟨x0, x1, x2⟩ := bHeld_p p3
  have y0 := bEntryS_len x0
  have y1 := bEntryS_len x1
  have y2 := bBatchS_len x2
  have hL := wsOf_len plan plan.length
  have hw3 : IntKind.i64.wrap (IntKind.i64.wrap ((hd.oldA.length : Int) + (hd.oldB.length : Int)) + (hd.waits.length : Int)) = (hd.oldA.length : Int) + (hd.oldB.length : Int) + (hd.waits.length : Int) := by
    rw [show IntKind.i64.wrap ((hd.oldA.length : Int) + (hd.oldB.length : Int)) = (hd.oldA.length : Int) + (hd.oldB.length : Int) by rw [IntKind.wrap_i64]; omega, IntKind.wrap_i64]; omega
  refine go124 plan widths node hd fun w Xs => ?_
  have nx : ∀ v, v = wtF plan node hd.waits hd.told (nth plan node.toNat).op → hd.waits.length ≤ 60 → G124_0 w Xs plan widths node hd hd.oldA hd.oldB hd.waits hd.told (nth plan node.toNat).op (nth plan node.toNat).a (nth plan node.toNat).b (nth plan node.toNat).col (nth plan node.toNat).test (nth plan node.toNat).value (nth plan node.toNat).cells 0 (rI v) := fun v e hq => e ▸ lm124 plan widths node hd _ _ _ _ _ _ _ _ _ _ _ p0 p1 hq hd.waits.length 0 rfl
  generalize hG : G124_0 w Xs plan widths node hd hd.oldA hd.oldB hd.waits hd.told (nth plan node.toNat).op (nth plan node.toNat).a (nth plan node.toNat).b (nth plan node.toNat).col (nth plan node.toNat).test (nth plan node.toNat).value (nth plan node.toNat).cells 0 = Gx at nx ⊢
  subst p1
  rw [hw3, hL]
  unfold heldF
  refine ⟨p2, ?_⟩
  by_cases hs : staysN (nth plan node.toNat) = true
  · rw [if_pos hs, if_pos hs]
    (repeat' (first | (refine And.intro ?_ ?_) | (refine if_go (fun q => ?_) (fun q => ?_))))
    all_goals (refine congrArg rI ?_; (repeat' split) <;> first | rfl | omega)
  · have ho : (nth plan node.toNat).op ≠ 1 := fun e => hs (by unfold staysN; rw [e]; rfl)
    rw [if_neg hs, if_neg hs]
    have ha := hI.a node.toNat (by omega) ho
    have hb := hI.b node.toNat (by omega)
    have ea := wsOf_wat (plan := plan) (a := (nth plan node.toNat).a) (by omega)
    have eb := fun q => wsOf_wat (plan := plan) (a := (nth plan node.toNat).b) (by have := hb q; omega)
    rw [ea]
    unfold oldF
    refine ⟨by omega, if_go (fun qa => ?_) (fun qa => ?_)⟩
    · rw [if_pos qa]
      by_cases h2 : (nth plan node.toNat).op = 4 ∨ (nth plan node.toNat).op = 6
      · rw [eb h2, if_pos h2]
        have hb := hb h2
        (repeat' (first | (refine And.intro ?_ ?_) | (refine if_go (fun q => ?_) (fun q => ?_))))
        all_goals first
          | omega
          | (refine nx _ ?_ (by omega); (repeat' split) <;> first | rfl | omega)
          | (refine congrArg rI ?_; (repeat' split) <;> first | rfl | omega)
      · rw [if_neg h2]
        (repeat' (first | (refine And.intro ?_ ?_) | (refine if_go (fun q => ?_) (fun q => ?_))))
        all_goals first
          | omega
          | (refine nx _ ?_ (by omega); (repeat' split) <;> first | rfl | omega)
          | (refine congrArg rI ?_; (repeat' split) <;> first | rfl | omega)
    · rw [if_neg qa, if_neg qa]
theorem s124 {I : Ops} (hI : I = real) {e : En} (he : e = en124) : Sound Tryz.prog 124 (callE I e sh124) := by
  refine Sound.mkE ent124 hI (fun _ => rfl) ?_ he
  rintro ⟨plan, widths, node, hd, ⟨⟩⟩ hp
  have hp : (decide (planF plan = 0) && decide (widths = wsOf plan plan.length) && decide (0 ≤ node ∧ node < plan.length) && (bHeld hd)) = true := hp
  try simp only [Bool.and_eq_true, decide_eq_true_eq] at hp
  obtain ⟨⟨⟨p0, p1⟩, p2⟩, p3⟩ := hp
  exact ok124 plan widths node hd p0 p1 p2 p3
end Go.Proofs.Tryz
