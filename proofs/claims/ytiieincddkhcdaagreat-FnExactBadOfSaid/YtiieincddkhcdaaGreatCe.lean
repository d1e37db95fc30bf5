/- Contracts. -/
import Derived.Test.YtiieincddkhcdaaGreatCd
import Derived.Test.YtiieincddkhcdaaGreatBb
set_option linter.unusedSimpArgs false
set_option linter.unusedVariables false
namespace Go.Proofs.Tryz
open Go Go.Aix
set_option maxRecDepth 100000
set_option maxHeartbeats 4000000
/-- The first fault of a list. -/
def fstF {α : Type} (f : α → Int) : List α → Int
  | [] => 0
  | x :: r => if f x = 0 then fstF f r else f x
def staysN (n : NodeV) : Bool := decide (1 ≤ n.op ∧ n.op ≤ 5)
def frmF (plan : List NodeV) (f : FrameV) : Int :=
  if f.kind = 1 then (if 0 < f.news.length then 1 else dataF plan f.node f.side f.epoch f.set)
  else if f.kind = 2 then (if f.node = 0 ∧ f.side = 0 ∧ f.epoch = 0 ∧ f.set.length = 0 ∧ 0 < f.news.length then cntF plan f.news else 1)
  else 5
def endF (told op : Int) : Int := if 0 ≤ told ∧ told ≤ 20 ∧ (told = 0 ∨ op = 12) then 0 else 3
def oldF (plan : List NodeV) (node : Int) (h : HeldV) : Int :=
  if wdF h.oldA (wat plan (nth plan node.toNat).a) = 0 then
    (if (nth plan node.toNat).op = 4 ∨ (nth plan node.toNat).op = 6 then wdF h.oldB (wat plan (nth plan node.toNat).b)
     else if 0 < h.oldB.length then 1 else if (nth plan node.toNat).op = 12 ∧ 0 < h.oldA.length then 1 else 0)
  else wdF h.oldA (wat plan (nth plan node.toNat).a)
def waitF (plan : List NodeV) (node : Int) (b : BatchV) : Int := dataF plan node b.side b.epoch b.set
def wtF (plan : List NodeV) (node : Int) (l : List BatchV) (told op : Int) : Int := if fstF (waitF plan node) l = 0 then endF told op else fstF (waitF plan node) l
def heldF (plan : List NodeV) (node : Int) (h : HeldV) : Int :=
  if staysN (nth plan node.toNat) = true then (if h.oldA.length = 0 ∧ h.oldB.length = 0 ∧ h.waits.length = 0 ∧ h.told = 0 then 0 else 1)
  else if oldF plan node h = 0 then (if 60 < h.waits.length then 2 else wtF plan node h.waits h.told (nth plan node.toNat).op)
  else oldF plan node h
theorem ent174 : Enters Tryz.prog 174 := ⟨Tryz.f174, Tryz.func174, by kernel_rfl, by kernel_rfl⟩
theorem s174 {I : Ops} (hI : I = real)  : Sound Tryz.prog 174 (inl X I (Tab.calls []) Tryz.f174) :=
  Sound.inl (Y := (Tab.calls [])) xok (TabOk.calls mixed trivial) ent174 Tryz.func174 rfl rfl hI
theorem ent156 : Enters Tryz.prog 156 := ⟨Tryz.f156, Tryz.func156, by kernel_rfl, by kernel_rfl⟩
noncomputable def Y156 (I : Ops) : CallsA := (Tab.calls [(174, true, callRd I (inl X I (Tab.calls []) Tryz.f174))])
theorem tY156 {I : Ops} (hI : I = real)  : CallsOk Tryz.prog (Y156 I) := (TabOk.calls mixed ⟨EntryOk.rd (s174 hI) hI, fun _ => callRd_quiet _ _, trivial⟩)
theorem go156 (n : NodeV) {r : RES} (h : ∀ (w : World) (Xs : Nat → Prop), (if n.op = 1 then r = (.one (.pv (.sc (.bool (!(decide (n.op = 12)))))), [], 0) else (if n.op = 2 then r = (.one (.pv (.sc (.bool (!(decide (n.op = 12)))))), [], 0) else (if n.op = 3 then r = (.one (.pv (.sc (.bool (!(decide (n.op = 12)))))), [], 0) else (if n.op = 4 then r = (.one (.pv (.sc (.bool (!(decide (n.op = 12)))))), [], 0) else (if n.op = 5 then r = (.one (.pv (.sc (.bool (!(decide (n.op = 12)))))), [], 0) else (if n.op = 12 then r = (.one (.pv (.sc (.bool (!(decide (n.op = 12)))))), [], 0) else r = (.one (.pv (.sc (.bool false))), [], 0)))))))) : Ok0 Tryz.prog 156 [(pS tNode).enc n] r.1 r.2.1 r.2.2 := by
  obtain ⟨I, hI⟩ : ∃ I, I = real := ⟨_, rfl⟩
  show Ok0 Tryz.prog 156 [.ag [.pv (.sc (.int .i64 n.op)), .pv (.sc (.int .i64 n.a)), .pv (.sc (.int .i64 n.b)), .pv (.sc (.int .i64 n.col)), .pv (.sc (.int .i64 n.test)), .pv (.sc (.int .i64 n.value)), .pv (.sl false 1 (tI64.encs n.cells))]] _ _ _
  obtain ⟨q0, hq0⟩ := eqv (tI64.encs n.cells)
  try rw [← hq0]
  obtain ⟨q1, hq1⟩ := eqv n.value
  try rw [← hq1]
  obtain ⟨q2, hq2⟩ := eqv n.test
  try rw [← hq2]
  obtain ⟨q3, hq3⟩ := eqv n.col
  try rw [← hq3]
  obtain ⟨q4, hq4⟩ := eqv n.op
  try rw [← hq4]
  obtain ⟨q5, hq5⟩ := eqv n.a
  try rw [← hq5]
  obtain ⟨q6, hq6⟩ := eqv n.b
  try rw [← hq6]
  have hS := And.intro hI (And.intro hq0 (And.intro hq1 (And.intro hq2 (And.intro hq3 (And.intro hq4 (And.intro hq5 hq6))))))
  refine Ok0_run (Y := (Y156 I)) xok (tY156 hI) Tryz.func156 rfl rfl rfl 2000 hI fun w Xs => ?_; (conv => arg 4; cbv)
  replace h := h w Xs
  exact fin
def sh156 : Shp := fun I i b l s => .ok (.one (.pv (.sc (.bool (b 0)))), [], 0)
def an156 : An (NodeV × Unit) where
  b _ t := staysN t.1
noncomputable def en156 : En := mkE (parsC (pS tNode) pars0) an156
attribute [simp] en156 an156
theorem ok156 (n : NodeV)  : Ok0 Tryz.prog 156 [(pS tNode).enc n] ((.one (.pv (.sc (.bool (staysN n)))), [], 0) : RES).1 ((.one (.pv (.sc (.bool (staysN n)))), [], 0) : RES).2.1 ((.one (.pv (.sc (.bool (staysN n)))), [], 0) : RES).2.2 := by
  refine go156 n fun w Xs => ?_
  unfold staysN
  (repeat' (first | (refine And.intro ?_ ?_) | (refine if_go (fun q => ?_) (fun q => ?_))))
  all_goals (refine congrArg rB ?_; rw [Bool.eq_iff_iff]; first | (simp; done) | (simp; omega))
theorem s156 {I : Ops} (hI : I = real) {e : En} (he : e = en156) : Sound Tryz.prog 156 (callE I e sh156) := by
  refine Sound.mkE ent156 hI (fun _ => rfl) ?_ he
  rintro ⟨n, ⟨⟩⟩ hp
  exact ok156 n 
theorem ent166 : Enters Tryz.prog 166 := ⟨Tryz.f166, Tryz.func166, by kernel_rfl, by kernel_rfl⟩
noncomputable def Y166 (I : Ops) : CallsA := (Tab.calls [(42, true, callRd I (inl X I (Tab.calls []) Tryz.f42))])
theorem tY166 {I : Ops} (hI : I = real)  : CallsOk Tryz.prog (Y166 I) := (TabOk.calls mixed ⟨EntryOk.rd (s42 hI) hI, fun _ => callRd_quiet _ _, trivial⟩)
theorem s166 {I : Ops} (hI : I = real)  : Sound Tryz.prog 166 (inl X I (Y166 I) Tryz.f166) :=
  Sound.inl (Y := (Y166 I)) xok (tY166 hI) ent166 Tryz.func166 rfl rfl hI
theorem ent143 : Enters Tryz.prog 143 := ⟨Tryz.f143, Tryz.func143, by kernel_rfl, by kernel_rfl⟩
noncomputable def Y143 (I : Ops) : CallsA := (Tab.calls [(166, true, callRd I (inl X I (Y166 I) Tryz.f166))])
theorem tY143 {I : Ops} (hI : I = real)  : CallsOk Tryz.prog (Y143 I) := (TabOk.calls mixed ⟨EntryOk.rd (s166 hI) hI, fun _ => callRd_quiet _ _, trivial⟩)
theorem go143 (n : NodeV) {r : RES} (h : ∀ (w : World) (Xs : Nat → Prop), (if 1 ≤ n.op then (if n.op ≤ 5 then r = (.one (.pv (.sc (.bool (decide (n.op = 12))))), [], 0) else (if n.op = 12 then r = (.one (.pv (.sc (.bool (decide (n.op = 12))))), [], 0) else r = (.one (.pv (.sc (.bool true))), [], 0))) else (if n.op = 12 then r = (.one (.pv (.sc (.bool (decide (n.op = 12))))), [], 0) else r = (.one (.pv (.sc (.bool true))), [], 0)))) : Ok0 Tryz.prog 143 [(pS tNode).enc n] r.1 r.2.1 r.2.2 := by
  obtain ⟨I, hI⟩ : ∃ I, I = real := ⟨_, rfl⟩
  show Ok0 Tryz.prog 143 [.ag [.pv (.sc (.int .i64 n.op)), .pv (.sc (.int .i64 n.a)), .pv (.sc (.int .i64 n.b)), .pv (.sc (.int .i64 n.col)), .pv (.sc (.int .i64 n.test)), .pv (.sc (.int .i64 n.value)), .pv (.sl false 1 (tI64.encs n.cells))]] _ _ _
  obtain ⟨q0, hq0⟩ := eqv (tI64.encs n.cells)
  try rw [← hq0]
  obtain ⟨q1, hq1⟩ := eqv n.value
  try rw [← hq1]
  obtain ⟨q2, hq2⟩ := eqv n.test
  try rw [← hq2]
  obtain ⟨q3, hq3⟩ := eqv n.col
  try rw [← hq3]
  obtain ⟨q4, hq4⟩ := eqv n.op
  try rw [← hq4]
  obtain ⟨q5, hq5⟩ := eqv n.a
  try rw [← hq5]
  obtain ⟨q6, hq6⟩ := eqv n.b
  try rw [← hq6]
  have hS := And.intro hI (And.intro hq0 (And.intro hq1 (And.intro hq2 (And.intro hq3 (And.intro hq4 (And.intro hq5 hq6))))))
  refine Ok0_run (Y := (Y143 I)) xok (tY143 hI) Tryz.func143 rfl rfl rfl 2000 hI fun w Xs => ?_; (conv => arg 4; cbv)
  replace h := h w Xs
  exact fin
def sh143 : Shp := fun I i b l s => .ok (.one (.pv (.sc (.bool (b 0)))), [], 0)
def an143 : An (NodeV × Unit) where
  b _ t := !(staysN t.1)
noncomputable def en143 : En := mkE (parsC (pS tNode) pars0) an143
attribute [simp] en143 an143
theorem ok143 (n : NodeV)  : Ok0 Tryz.prog 143 [(pS tNode).enc n] ((.one (.pv (.sc (.bool (!(staysN n))))), [], 0) : RES).1 ((.one (.pv (.sc (.bool (!(staysN n))))), [], 0) : RES).2.1 ((.one (.pv (.sc (.bool (!(staysN n))))), [], 0) : RES).2.2 := by
  refine go143 n fun w Xs => ?_
  unfold staysN
  (repeat' (first | (refine And.intro ?_ ?_) | (refine if_go (fun q => ?_) (fun q => ?_))))
  all_goals (refine congrArg rB ?_; rw [Bool.eq_iff_iff]; first | (simp; done) | (simp; omega))
theorem s143 {I : Ops} (hI : I = real) {e : En} (he : e = en143) : Sound Tryz.prog 143 (callE I e sh143) := by
  refine Sound.mkE ent143 hI (fun _ => rfl) ?_ he
  rintro ⟨n, ⟨⟩⟩ hp
  exact ok143 n 
theorem ent77 : Enters Tryz.prog 77 := ⟨Tryz.f77, Tryz.func77, by kernel_rfl, by kernel_rfl⟩
noncomputable def Y77 (I : Ops) (K : FuncId → En) : CallsA := (Tab.calls [(75, true, callRd I (callE I (K 75) sh75)), (111, true, callRd I (callE I (K 111) sh111)), (108, true, callRd I (callE I (K 108) sh108))])
theorem tY77 {I : Ops} (hI : I = real) {K : FuncId → En} (k75 : K 75 = en75) (k111 : K 111 = en111) (k108 : K 108 = en108) : CallsOk Tryz.prog (Y77 I K) := (TabOk.calls mixed ⟨EntryOk.rd (s75 hI k75) hI, fun _ => callRd_quiet _ _, ⟨EntryOk.rd (s111 hI k111) hI, fun _ => callRd_quiet _ _, ⟨EntryOk.rd (s108 hI k108) hI, fun _ => callRd_quiet _ _, trivial⟩⟩⟩)
theorem go77 (plan : List NodeV) (f : FrameV) {r : RES} (h : ∀ (w : World) (Xs : Nat → Prop), ((plan.length < 4611686018427387904) ∧ (if planF plan = 0 then (if f.kind = 1 then (if 0 < (f.news.length : Int) then r = (.one (.pv (.sc (.int .i64 1))), [], 0) else r = (.one (.pv (.sc (.int .i64 (dataF plan f.node f.side f.epoch f.set)))), [], 0)) else (if f.kind = 2 then (if f.node = 0 then (if f.side = 0 then (if f.epoch = 0 then (if 0 < (f.set.length : Int) then r = (.one (.pv (.sc (.int .i64 1))), [], 0) else (if (f.news.length : Int) = 0 then r = (.one (.pv (.sc (.int .i64 1))), [], 0) else r = (.one (.pv (.sc (.int .i64 (cntF plan f.news)))), [], 0))) else r = (.one (.pv (.sc (.int .i64 1))), [], 0)) else r = (.one (.pv (.sc (.int .i64 1))), [], 0)) else r = (.one (.pv (.sc (.int .i64 1))), [], 0)) else r = (.one (.pv (.sc (.int .i64 5))), [], 0))) else r = (.one (.pv (.sc (.int .i64 (planF plan)))), [], 0)))) : Ok0 Tryz.prog 77 [(pL tNode).enc plan, (pS tFrame).enc f] r.1 r.2.1 r.2.2 := by
  obtain ⟨I, hI⟩ : ∃ I, I = real := ⟨_, rfl⟩; obtain ⟨K, k75, k111, k108⟩ : ∃ K : FuncId → En, K 75 = en75 ∧ K 111 = en111 ∧ K 108 = en108 := ⟨fun g => (lk g [(75, en75), (111, en111), (108, en108)]).getD default, rfl, rfl, rfl⟩
  show Ok0 Tryz.prog 77 [.one (.pv (.sl false 7 (tNode.encs plan))), .ag [.pv (.sc (.int .i64 f.kind)), .pv (.sc (.int .i64 f.node)), .pv (.sc (.int .i64 f.side)), .pv (.sc (.int .i64 f.epoch)), .pv (.sl false 2 (tEntry.encs f.set)), .pv (.sl false 3 (tCount.encs f.news))]] _ _ _
  obtain ⟨q0, hq0⟩ := eqv (tCount.encs f.news)
  try rw [← hq0]
  obtain ⟨q1, hq1⟩ := eqv (tEntry.encs f.set)
  try rw [← hq1]
  obtain ⟨q2, hq2⟩ := eqv (tNode.encs plan)
  try rw [← hq2]
  obtain ⟨q3, hq3⟩ := eqv f.epoch
  try rw [← hq3]
  obtain ⟨q4, hq4⟩ := eqv f.kind
  try rw [← hq4]
  obtain ⟨q5, hq5⟩ := eqv f.node
  try rw [← hq5]
  obtain ⟨q6, hq6⟩ := eqv f.side
  try rw [← hq6]
  have hS := And.intro hI (And.intro k75 (And.intro k111 (And.intro k108 (And.intro hq0 (And.intro hq1 (And.intro hq2 (And.intro hq3 (And.intro hq4 (And.intro hq5 hq6)))))))))
  refine Ok0_run (Y := (Y77 I K)) xok (tY77 hI k75 k111 k108) Tryz.func77 rfl rfl rfl 2000 hI fun w Xs => ?_; (conv => arg 4; cbv)
  replace h := h w Xs
  exact fin
def sh77 : Shp := fun I i b l s => .ok (.one (.pv (.sc (.int .i64 (i 0)))), [], 0)
def an77 : An (List NodeV × FrameV × Unit) where
  pre t := decide (planF t.1 = 0)
  i _ t := frmF t.1 t.2.1
noncomputable def en77 : En := mkE (parsC (pL tNode) (parsC (pS tFrame) pars0)) an77
attribute [simp] en77 an77
theorem ok77 (plan : List NodeV) (f : FrameV) (p0 : planF plan = 0) : Ok0 Tryz.prog 77 [(pL tNode).enc plan, (pS tFrame).enc f] ((.one (.pv (.sc (.int .i64 (frmF plan f)))), [], 0) : RES).1 ((.one (.pv (.sc (.int .i64 (frmF plan f)))), [], 0) : RES).2.1 ((.one (.pv (.sc (.int .i64 (frmF plan f)))), [], 0) : RES).2.2 := by
  have h8 := (planF_wid p0).1
  refine go77 plan f fun w Xs => ?_
  unfold frmF
  refine ⟨by omega, ?_⟩; rw [if_pos p0]
  (repeat' (first | (refine And.intro ?_ ?_) | (refine if_go (fun q => ?_) (fun q => ?_))))
  all_goals first
    | omega
    | assumption
    | (refine congrArg rI ?_; (repeat' split) <;> first | rfl | omega)
theorem s77 {I : Ops} (hI : I = real) {e : En} (he : e = en77) : Sound Tryz.prog 77 (callE I e sh77) := by
  refine Sound.mkE ent77 hI (fun _ => rfl) ?_ he
  rintro ⟨plan, f, ⟨⟩⟩ hp
  have hp : (decide (planF plan = 0)) = true := hp
  try simp only [Bool.and_eq_true, decide_eq_true_eq] at hp
  have p0 := hp
  exact ok77 plan f p0
theorem ent86 : Enters Tryz.prog 86 := ⟨Tryz.f86, Tryz.func86, by kernel_rfl, by kernel_rfl⟩
noncomputable def Y86 (I : Ops) (K : FuncId → En) : CallsA := (Tab.calls [(127, true, callRd I (callE I (K 127) sh127)), (123, true, callRd I (callE I (K 123) sh123))])
theorem tY86 {I : Ops} (hI : I = real) {K : FuncId → En} (k127 : K 127 = en127) (k123 : K 123 = en123) : CallsOk Tryz.prog (Y86 I K) := (TabOk.calls mixed ⟨EntryOk.rd (s127 hI k127) hI, fun _ => callRd_quiet _ _, ⟨EntryOk.rd (s123 hI k123) hI, fun _ => callRd_quiet _ _, trivial⟩⟩)
theorem go86 (plan : List NodeV) (widths : List Int) (f : FrameV) {r : RES} (h : ∀ (w : World) (Xs : Nat → Prop), (if f.kind = 1 then (if 0 < (f.news.length : Int) then r = (.one (.pv (.sc (.int .i64 1))), [], 0) else ((planF plan = 0) ∧ ((widths = wsOf plan plan.length) ∧ r = (.one (.pv (.sc (.int .i64 (dataF plan f.node f.side f.epoch f.set)))), [], 0)))) else (if f.kind = 2 then (if f.node = 0 then (if f.side = 0 then (if f.epoch = 0 then (if 0 < (f.set.length : Int) then r = (.one (.pv (.sc (.int .i64 1))), [], 0) else (if (f.news.length : Int) = 0 then r = (.one (.pv (.sc (.int .i64 1))), [], 0) else ((planF plan = 0) ∧ r = (.one (.pv (.sc (.int .i64 (cntF plan f.news)))), [], 0)))) else r = (.one (.pv (.sc (.int .i64 1))), [], 0)) else r = (.one (.pv (.sc (.int .i64 1))), [], 0)) else r = (.one (.pv (.sc (.int .i64 1))), [], 0)) else r = (.one (.pv (.sc (.int .i64 5))), [], 0)))) : Ok0 Tryz.prog 86 [(pL tNode).enc plan, (pL tI64).enc widths, (pS tFrame).enc f] r.1 r.2.1 r.2.2 := by
  obtain ⟨I, hI⟩ : ∃ I, I = real := ⟨_, rfl⟩; obtain ⟨K, k127, k123⟩ : ∃ K : FuncId → En, K 127 = en127 ∧ K 123 = en123 := ⟨fun g => (lk g [(127, en127), (123, en123)]).getD default, rfl, rfl⟩
  show Ok0 Tryz.prog 86 [.one (.pv (.sl false 7 (tNode.encs plan))), .one (.pv (.sl false 1 (tI64.encs widths))), .ag [.pv (.sc (.int .i64 f.kind)), .pv (.sc (.int .i64 f.node)), .pv (.sc (.int .i64 f.side)), .pv (.sc (.int .i64 f.epoch)), .pv (.sl false 2 (tEntry.encs f.set)), .pv (.sl false 3 (tCount.encs f.news))]] _ _ _
  obtain ⟨q0, hq0⟩ := eqv (tCount.encs f.news)
  try rw [← hq0]
  obtain ⟨q1, hq1⟩ := eqv (tEntry.encs f.set)
  try rw [← hq1]
  obtain ⟨q2, hq2⟩ := eqv (tI64.encs widths)
  try rw [← hq2]
  obtain ⟨q3, hq3⟩ := eqv (tNode.encs plan)
  try rw [← hq3]
  obtain ⟨q4, hq4⟩ := eqv f.epoch
  try rw [← hq4]
  obtain ⟨q5, hq5⟩ := eqv f.kind
  try rw [← hq5]
  obtain ⟨q6, hq6⟩ := eqv f.node
  try rw [← hq6]
  obtain ⟨q7, hq7⟩ := eqv f.side
  try rw [← hq7]
  have hS := And.intro hI (And.intro k127 (And.intro k123 (And.intro hq0 (And.intro hq1 (And.intro hq2 (And.intro hq3 (And.intro hq4 (And.intro hq5 (And.intro hq6 hq7)))))))))
  refine Ok0_run (Y := (Y86 I K)) xok (tY86 hI k127 k123) Tryz.func86 rfl rfl rfl 2000 hI fun w Xs => ?_; (conv => arg 4; cbv)
  replace h := h w Xs
  exact fin
def sh86 : Shp := fun I i b l s => .ok (.one (.pv (.sc (.int .i64 (i 0)))), [], 0)
def an86 : An (List NodeV × List Int × FrameV × Unit) where
  pre t := decide (planF t.1 = 0) && decide (t.2.1 = wsOf t.1 t.1.length)
  i _ t := frmF t.1 t.2.2.1
noncomputable def en86 : En := mkE (parsC (pL tNode) (parsC (pL tI64) (parsC (pS tFrame) pars0))) an86
attribute [simp] en86 an86
theorem ok86 (plan : List NodeV) (widths : List Int) (f : FrameV) (p0 : planF plan = 0) (p1 : widths = wsOf plan plan.length) : Ok0 Tryz.prog 86 [(pL tNode).enc plan, (pL tI64).enc widths, (pS tFrame).enc f] ((.one (.pv (.sc (.int .i64 (frmF plan f)))), [], 0) : RES).1 ((.one (.pv (.sc (.int .i64 (frmF plan f)))), [], 0) : RES).2.1 ((.one (.pv (.sc (.int .i64 (frmF plan f)))), [], 0) : RES).2.2 := by
  have h8 := (planF_wid p0).1
  refine go86 plan widths f fun w Xs => ?_
  unfold frmF
  skip
  (repeat' (first | (refine And.intro ?_ ?_) | (refine if_go (fun q => ?_) (fun q => ?_))))
  all_goals first
    | omega
    | assumption
    | (refine congrArg rI ?_; (repeat' split) <;> first | rfl | omega)
theorem s86 {I : Ops} (hI : I = real) {e : En} (he : e = en86) : Sound Tryz.prog 86 (callE I e sh86) := by
  refine Sound.mkE ent86 hI (fun _ => rfl) ?_ he
  rintro ⟨plan, widths, f, ⟨⟩⟩ hp
  have hp : (decide (planF plan = 0) && decide (widths = wsOf plan plan.length)) = true := hp
  try simp only [Bool.and_eq_true, decide_eq_true_eq] at hp
  obtain ⟨p0, p1⟩ := hp
  exact ok86 plan widths f p0 p1
theorem ent144 : Enters Tryz.prog 144 := ⟨Tryz.f144, Tryz.func144, by kernel_rfl, by kernel_rfl⟩
theorem go144 (plan : List NodeV) (node : Int) (hd : HeldV) {r : RES} (h : ∀ (w : World) (Xs : Nat → Prop), ((0 ≤ node ∧ node < (plan.length : Int)) ∧ ((0 ≤ ((nth plan node.toNat).a) ∧ ((nth plan node.toNat).a) < 100) ∧ ((((nth plan node.toNat).a) < plan.length) ∧ ((plan.length < 4611686018427387904) ∧ ((((wid plan ((nth plan node.toNat).a).toNat).isSome) = true) ∧ (if wdF hd.oldA ((wid plan ((nth plan node.toNat).a).toNat).getD 0) = 0 then (if 1 < readsOf ((nth plan node.toNat).op) then ((0 ≤ ((nth plan node.toNat).b) ∧ ((nth plan node.toNat).b) < 100) ∧ ((((nth plan node.toNat).b) < plan.length) ∧ ((((wid plan ((nth plan node.toNat).b).toNat).isSome) = true) ∧ r = (.one (.pv (.sc (.int .i64 (wdF hd.oldB ((wid plan ((nth plan node.toNat).b).toNat).getD 0))))), [], 0)))) else (if 0 < (hd.oldB.length : Int) then r = (.one (.pv (.sc (.int .i64 1))), [], 0) else (if (nth plan node.toNat).op = 12 then (if 0 < (hd.oldA.length : Int) then r = (.one (.pv (.sc (.int .i64 1))), [], 0) else r = (.one (.pv (.sc (.int .i64 0))), [], 0)) else r = (.one (.pv (.sc (.int .i64 0))), [], 0)))) else r = (.one (.pv (.sc (.int .i64 (wdF hd.oldA ((wid plan ((nth plan node.toNat).a).toNat).getD 0))))), [], 0)))))))) : Ok0 Tryz.prog 144 [(pL tNode).enc plan, pI.enc node, (pS tHeld).enc hd] r.1 r.2.1 r.2.2 := by
  obtain ⟨I, hI⟩ : ∃ I, I = real := ⟨_, rfl⟩; obtain ⟨K, k138, k145, k137⟩ : ∃ K : FuncId → En, K 138 = (en138 100) ∧ K 145 = en145 ∧ K 137 = en137 := ⟨fun g => (lk g [(138, (en138 100)), (145, en145), (137, en137)]).getD default, rfl, rfl, rfl⟩
  show Ok0 Tryz.prog 144 [.one (.pv (.sl false 7 (tNode.encs plan))), .one (.pv (.sc (.int .i64 node))), .ag [.pv (.sl false 2 (tEntry.encs hd.oldA)), .pv (.sl false 2 (tEntry.encs hd.oldB)), .pv (.sl false 3 (tBatch.encs hd.waits)), .pv (.sc (.int .i64 hd.told))]] _ _ _
  obtain ⟨q0, hq0⟩ := eqv (tBatch.encs hd.waits)
  try rw [← hq0]
  obtain ⟨q1, hq1⟩ := eqv (tEntry.encs hd.oldA)
  try rw [← hq1]
  obtain ⟨q2, hq2⟩ := eqv (tEntry.encs hd.oldB)
  try rw [← hq2]
  obtain ⟨q3, hq3⟩ := eqv (tNode.encs plan)
  try rw [← hq3]
  obtain ⟨q4, hq4⟩ := eqv hd.told
  try rw [← hq4]
  refine Ok0_run (Y := (Tab.calls [(138, true, callRd I (callE I (K 138) sh138)), (145, true, callRd I (callE I (K 145) sh145)), (137, true, callRd I (callE I (K 137) sh137))])) xok (TabOk.calls mixed ⟨EntryOk.rd (s138 hI k138) hI, fun _ => callRd_quiet _ _, ⟨EntryOk.rd (s145 hI k145) hI, fun _ => callRd_quiet _ _, ⟨EntryOk.rd (s137 hI k137) hI, fun _ => callRd_quiet _ _, trivial⟩⟩⟩) Tryz.func144 rfl rfl rfl 2000 hI fun w Xs => ?_; (conv => arg 4; cbv)
  replace h := h w Xs
  repeat' (first | (have hd := And.left h; replace h := And.right h) | ((first | ((with_reducible refine on_eqs ?_ ?_); (focus (with_reducible rfl))) | (with_reducible refine on_both ?_ ?_) | (with_reducible refine on_true (by assumption) ?_) | (with_reducible refine on_false (by assumption) ?_) | (with_reducible refine on_ask (fun g => ?_) (fun g => ?_) <;> (have hc := g) <;> (try simp (disch := omega) [hI, k138, en138, an138, k145, en145, an145, k137, en137, an137, hq0, hq1, hq2, hq3, hq4, -List.length_eq_zero_iff] at hc) <;> (try (exfalso; omega)) <;> (try (first | (revert h; (refine imp_l ?_ (fun h => ?_)); focus (first | exact hc | assumption | omega | (simpa using hc; done) | (simp (disch := omega) only [wrap_id]; omega))) | (revert h; (refine imp_r ?_ (fun h => ?_)); focus (first | exact hc | assumption | omega | (simpa using hc; done) | (simp (disch := omega) only [wrap_id]; omega)))))) | ((with_reducible refine on_must ?_ ?_); (focus ((simp (disch := omega) [hI, k138, en138, an138, k145, en145, an145, k137, en137, an137, hq0, hq1, hq2, hq3, hq4]) <;> (first | omega | assumption | ((repeat' (refine And.intro ?_ ?_)) <;> (first | omega | assumption))))))) <;> (conv => arg 4; cbv)))
  all_goals (first | ((subst h); (with_reducible refine on_ret ?_); refine Ended_of rfl ?_))
  all_goals ((conv => lhs; cbv); (try (first | rfl | ((try simp (disch := omega) [hI, k138, en138, an138, k145, en145, an145, k137, en137, an137, hq0, hq1, hq2, hq3, hq4, mapE_append, Ty.encs_append, encs1_I64, encs1_U8, encs1, mapE1]) <;> (first | rfl | omega | (simp; done))))))
def sh144 : Shp := fun I i b l s => .ok (.one (.pv (.sc (.int .i64 (i 0)))), [], 0)
def an144 : An (List NodeV × Int × HeldV × Unit) where
  pre t := decide (planF t.1 = 0) && decide (0 ≤ t.2.1 ∧ t.2.1 < t.1.length) && decide ((nth t.1 t.2.1.toNat).op ≠ 1)
  i _ t := oldF t.1 t.2.1 t.2.2.1
noncomputable def en144 : En := mkE (parsC (pL tNode) (parsC pI (parsC (pS tHeld) pars0))) an144
attribute [simp] en144 an144
theorem ok144 (plan : List NodeV) (node : Int) (hd : HeldV) (p0 : planF plan = 0) (p1 : 0 ≤ node ∧ node < plan.length) (p2 : (nth plan node.toNat).op ≠ 1) : Ok0 Tryz.prog 144 [(pL tNode).enc plan, pI.enc node, (pS tHeld).enc hd] ((.one (.pv (.sc (.int .i64 (oldF plan node hd)))), [], 0) : RES).1 ((.one (.pv (.sc (.int .i64 (oldF plan node hd)))), [], 0) : RES).2.1 ((.one (.pv (.sc (.int .i64 (oldF plan node hd)))), [], 0) : RES).2.2 := by
  have h8 := (planF_wid p0).1
  have hI := PlanI.of p0
  have hW := (planF_wid p0).2
  have hr := readsOf_cases (nth plan node.toNat).op
  have ha := hI.a node.toNat (by omega) p2
  have hb := hI.b node.toNat (by omega)
  have hWa := hW (nth plan node.toNat).a.toNat (by omega)
  have hWb := fun q => hW (nth plan node.toNat).b.toNat (by have := hb q; omega)
  refine go144 plan node hd fun w Xs => ?_
  unfold oldF wat
  (repeat' (first | (refine And.intro ?_ ?_) | (refine if_go (fun q => ?_) (fun q => ?_))))
  all_goals first
    | omega
    | assumption
    | exact hWb (by omega)
    | (refine congrArg rI ?_; (repeat' split) <;> first | rfl | omega | (simp_all; done))
theorem s144 {I : Ops} (hI : I = real) {e : En} (he : e = en144) : Sound Tryz.prog 144 (callE I e sh144) := by
  refine Sound.mkE ent144 hI (fun _ => rfl) ?_ he
  rintro ⟨plan, node, hd, ⟨⟩⟩ hp
  have hp : (decide (planF plan = 0) && decide (0 ≤ node ∧ node < plan.length) && decide ((nth plan node.toNat).op ≠ 1)) = true := hp
  try simp only [Bool.and_eq_true, decide_eq_true_eq] at hp
  obtain ⟨⟨p0, p1⟩, p2⟩ := hp
  exact ok144 plan node hd p0 p1 p2
end Go.Proofs.Tryz
