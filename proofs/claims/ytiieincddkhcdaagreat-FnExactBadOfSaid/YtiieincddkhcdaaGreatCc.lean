/- Contracts. -/
import Derived.Test.YtiieincddkhcdaaGreatCb
set_option linter.unusedSimpArgs false
set_option linter.unusedVariables false
namespace Go.Proofs.Tryz
open Go Go.Aix
set_option maxRecDepth 100000
set_option maxHeartbeats 4000000
theorem planLp_node {plan : List NodeV} : ∀ (k i : Nat), planLp plan k i = 0 → ∀ j, i ≤ j → j < i + k → nodeF plan j = 0
  | 0, i, _, j, h1, h2 => by omega
  | k + 1, i, h, j, h1, h2 => by
    unfold planLp at h
    split at h
    · rename_i h0
      by_cases hj : j = i
      · subst hj; exact h0
      · exact planLp_node k (i + 1) h j (by omega) (by omega)
    · rename_i h0; exact absurd h h0
theorem planF_node {plan : List NodeV} (h : planF plan = 0) {j : Nat} (hj : j < plan.length) : nodeF plan j = 0 := by
  unfold planF at h
  split at h
  · omega
  · exact planLp_node _ _ h j (Nat.zero_le _) (by omega)
/-- What a node without a fault is. -/
theorem nodeF_ok {plan : List NodeV} {i : Nat} (h : nodeF plan i = 0) : (1 ≤ (nth plan i).op ∧ (nth plan i).op ≤ 12) ∧ named (nth plan i) = true ∧
    ((nth plan i).op ≠ 1 → ¬ badRead plan i (nth plan i).a) ∧ ((nth plan i).op = 4 ∨ (nth plan i).op = 6 → ¬ badRead plan i (nth plan i).b) ∧
    fieldF (nth plan i) (wat plan (nth plan i).a) (wat plan (nth plan i).b) = 0 := by
  have hr := readsOf_cases (nth plan i).op
  unfold nodeF at h
  split at h
  · omega
  rename_i h1
  split at h
  · omega
  rename_i h2
  split at h
  · omega
  rename_i h3
  split at h
  · omega
  rename_i h4
  refine ⟨by omega, by simpa using h2, fun h5 h6 => h3 ⟨by omega, h6⟩, fun h5 h6 => h4 ⟨by omega, h6⟩, h⟩
structure PlanI (l : List NodeV) : Prop where
  a : ∀ j, j < l.length → (nth l j).op ≠ 1 → 0 ≤ (nth l j).a ∧ (nth l j).a.toNat < j
  b : ∀ j, j < l.length → (nth l j).op = 4 ∨ (nth l j).op = 6 → 0 ≤ (nth l j).b ∧ (nth l j).b.toNat < j
theorem PlanI.of {plan : List NodeV} (h : planF plan = 0) : PlanI plan := by
  refine ⟨fun j hj h1 => ?_, fun j hj h1 => ?_⟩
  · obtain ⟨_, _, h4, _, _⟩ := nodeF_ok (planF_node h hj)
    exact bad_not (h4 h1)
  · obtain ⟨_, _, _, h5, _⟩ := nodeF_ok (planF_node h hj)
    exact bad_not (h5 h1)
theorem wsOf_wat {plan : List NodeV} {a : Int} (h : 0 ≤ a ∧ a.toNat < plan.length) : nth (wsOf plan plan.length) a.toNat = wat plan a := wsOf_nth h.2
/-! ### Counts -/
def badC (plan : List NodeV) (c : CountV) : Prop := ¬ (0 ≤ c.place ∧ c.place ≤ 2 * (plan.length : Int) - 1) ∨ ¬ (0 ≤ c.epoch ∧ c.epoch ≤ 1000) ∨ ¬ (-1000000000000 ≤ c.n ∧ c.n ≤ 1000000000000) ∨ c.n = 0
instance (plan : List NodeV) (c : CountV) : Decidable (badC plan c) := by unfold badC; infer_instance
def aheadC (a b : CountV) : Prop := a.place < b.place ∨ a.place = b.place ∧ a.epoch < b.epoch
instance (a b : CountV) : Decidable (aheadC a b) := by unfold aheadC; infer_instance
theorem orL_ahead {a b : CountV} : 0 ≤ orL [cmpI a.place b.place, cmpI a.epoch b.epoch] ↔ ¬ aheadC a b := by
  unfold aheadC
  simp only [orL, cmpI]
  constructor
  · intro h
    (repeat' split at h) <;> omega
  · intro h
    (repeat' split) <;> omega
def cntLp (plan : List NodeV) (l : List CountV) : Nat → Nat → Int
  | 0, _ => 0
  | k + 1, i => if badC plan (nth l i) then 3 else if 0 < i ∧ ¬ aheadC (nth l (i - 1)) (nth l i) then 1 else cntLp plan l k (i + 1)
def cntF (plan : List NodeV) (l : List CountV) : Int := if 200 < l.length then 2 else cntLp plan l l.length 0
/-! ### Sets that a node reads -/
def dataF (plan : List NodeV) (node side epoch : Int) (z : List EntryV) : Int :=
  if ¬ (0 ≤ node ∧ node ≤ (plan.length : Int) - 1) then 3
  else if (nth plan node.toNat).op = 1 then 3
  else if ¬ (0 ≤ side ∧ side ≤ 1) then 3
  else if side = 1 ∧ ¬ ((nth plan node.toNat).op = 4 ∨ (nth plan node.toNat).op = 6) then 3
  else if ¬ (0 ≤ epoch ∧ epoch ≤ 1000) then 3
  else if wdF z (wat plan (if side = 1 then (nth plan node.toNat).b else (nth plan node.toNat).a)) = 0 then (if (z.length : Int) = 0 then 1 else 0)
  else wdF z (wat plan (if side = 1 then (nth plan node.toNat).b else (nth plan node.toNat).a))
theorem ent164 : Enters Tryz.prog 164 := ⟨Tryz.f164, Tryz.func164, by kernel_rfl, by kernel_rfl⟩
noncomputable def Y164 (I : Ops) : CallsA := (Tab.calls [(42, true, callRd I (inl X I (Tab.calls []) Tryz.f42))])
theorem tY164 {I : Ops} (hI : I = real)  : CallsOk Tryz.prog (Y164 I) := (TabOk.calls mixed ⟨EntryOk.rd (s42 hI) hI, fun _ => callRd_quiet _ _, trivial⟩)
theorem s164 {I : Ops} (hI : I = real)  : Sound Tryz.prog 164 (inl X I (Y164 I) Tryz.f164) :=
  Sound.inl (Y := (Y164 I)) xok (tY164 hI) ent164 Tryz.func164 rfl rfl hI
theorem ent140 : Enters Tryz.prog 140 := ⟨Tryz.f140, Tryz.func140, by kernel_rfl, by kernel_rfl⟩
noncomputable def Y140 (I : Ops) : CallsA := (Tab.calls [(164, true, callRd I (inl X I (Y164 I) Tryz.f164)), (42, true, callRd I (inl X I (Tab.calls []) Tryz.f42)), (165, true, callRd I (inl X I (Y165 I) Tryz.f165))])
theorem tY140 {I : Ops} (hI : I = real)  : CallsOk Tryz.prog (Y140 I) := (TabOk.calls mixed ⟨EntryOk.rd (s164 hI) hI, fun _ => callRd_quiet _ _, ⟨EntryOk.rd (s42 hI) hI, fun _ => callRd_quiet _ _, ⟨EntryOk.rd (s165 hI) hI, fun _ => callRd_quiet _ _, trivial⟩⟩⟩)
theorem s140 {I : Ops} (hI : I = real)  : Sound Tryz.prog 140 (inl X I (Y140 I) Tryz.f140) :=
  Sound.inl (Y := (Y140 I)) xok (tY140 hI) ent140 Tryz.func140 rfl rfl hI
theorem ent141 : Enters Tryz.prog 141 := ⟨Tryz.f141, Tryz.func141, by kernel_rfl, by kernel_rfl⟩
theorem s141 {I : Ops} (hI : I = real)  : Sound Tryz.prog 141 (inl X I (Tab.calls []) Tryz.f141) :=
  Sound.inl (Y := (Tab.calls [])) xok (TabOk.calls mixed trivial) ent141 Tryz.func141 rfl rfl hI
theorem ent108 : Enters Tryz.prog 108 := ⟨Tryz.f108, Tryz.func108, by kernel_rfl, by kernel_rfl⟩
abbrev G108_0 (w : World) (Xs : Nat → Prop) (plan : List NodeV) (list : List CountV) (i : Int) (r : RES) : Prop := WL [0, 1, 6] Tryz.prog 108 Tryz.f108 (Ent0 w Xs) (Back (Ent0 w Xs) r.1 r.2.1 r.2.2) (place (bodyOf Tryz.f108) [1,1,1,0,1,0,0] [])
  ⟨[(0, .one (.pv (.sl false 7 (tNode.encs plan)))), (1, .one (.pv (.sl false 3 (tCount.encs list)))), (6, .one (.pv (.sc (.int .i64 i))))], [], 0⟩
noncomputable def Y108 (I : Ops) (K : FuncId → En) : CallsA := (Tab.calls [(75, true, callRd I (callE I (K 75) sh75)), (140, true, callRd I (inl X I (Y140 I) Tryz.f140)), (141, true, callRd I (inl X I (Tab.calls []) Tryz.f141))])
theorem tY108 {I : Ops} (hI : I = real) {K : FuncId → En} (k75 : K 75 = en75) : CallsOk Tryz.prog (Y108 I K) := (TabOk.calls mixed ⟨EntryOk.rd (s75 hI k75) hI, fun _ => callRd_quiet _ _, ⟨EntryOk.rd (s140 hI) hI, fun _ => callRd_quiet _ _, ⟨EntryOk.rd (s141 hI) hI, fun _ => callRd_quiet _ _, trivial⟩⟩⟩)
theorem st108_0 {w : World} {Xs : Nat → Prop} (plan : List NodeV) (list : List CountV) (i : Int) {r : RES} (h : (if i < (list.length : Int) then ((0 ≤ i ∧ i < (list.length : Int)) ∧ (if 0 ≤ (nth list i.toNat).place then (if (nth list i.toNat).place ≤ (IntKind.i64.wrap ((IntKind.i64.wrap (2 * (plan.length : Int))) - 1)) then (if 0 ≤ (nth list i.toNat).epoch then (if (nth list i.toNat).epoch ≤ 1000 then (if (-1000000000000) ≤ (nth list i.toNat).n then (if (nth list i.toNat).n ≤ 1000000000000 then (if (nth list i.toNat).n = 0 then r = (.one (.pv (.sc (.int .i64 3))), [], 0) else (if 0 < i then ((0 ≤ (IntKind.i64.wrap (i - 1)) ∧ (IntKind.i64.wrap (i - 1)) < (list.length : Int)) ∧ (if (nth list ((IntKind.i64.wrap (i - 1)).toNat)).place = (nth list i.toNat).place then (if (nth list ((IntKind.i64.wrap (i - 1)).toNat)).epoch < (nth list i.toNat).epoch then G108_0 w Xs plan list (IntKind.i64.wrap (i + 1)) r else r = (.one (.pv (.sc (.int .i64 1))), [], 0)) else (if (nth list ((IntKind.i64.wrap (i - 1)).toNat)).place < (nth list i.toNat).place then G108_0 w Xs plan list (IntKind.i64.wrap (i + 1)) r else r = (.one (.pv (.sc (.int .i64 1))), [], 0)))) else G108_0 w Xs plan list (IntKind.i64.wrap (i + 1)) r)) else r = (.one (.pv (.sc (.int .i64 3))), [], 0)) else r = (.one (.pv (.sc (.int .i64 3))), [], 0)) else r = (.one (.pv (.sc (.int .i64 3))), [], 0)) else r = (.one (.pv (.sc (.int .i64 3))), [], 0)) else r = (.one (.pv (.sc (.int .i64 3))), [], 0)) else r = (.one (.pv (.sc (.int .i64 3))), [], 0))) else r = (.one (.pv (.sc (.int .i64 0))), [], 0))) : G108_0 w Xs plan list i r := by
  obtain ⟨I, hI⟩ : ∃ I, I = real := ⟨_, rfl⟩; obtain ⟨K, k75⟩ : ∃ K : FuncId → En, K 75 = en75 := ⟨fun g => (lk g [(75, en75)]).getD default, rfl⟩
  unfold G108_0 WL
  obtain ⟨q0, hq0⟩ := eqv (tCount.encs list)
  try rw [← hq0]
  obtain ⟨q1, hq1⟩ := eqv (tNode.encs plan)
  try rw [← hq1]
  have hS := And.intro hI (And.intro k75 (And.intro hq0 hq1))
  refine W_go (Y := (Y108 I K)) xok (tY108 hI k75) Tryz.func108 rfl 2000 _ hI ?_; (conv => arg 4; cbv)
  exact fin
theorem go108 (plan : List NodeV) (list : List CountV) {r : RES} (h : ∀ (w : World) (Xs : Nat → Prop), ((plan.length < 4611686018427387904) ∧ (if planF plan = 0 then (if 200 < (list.length : Int) then r = (.one (.pv (.sc (.int .i64 2))), [], 0) else G108_0 w Xs plan list 0 r) else r = (.one (.pv (.sc (.int .i64 (planF plan)))), [], 0)))) : Ok0 Tryz.prog 108 [(pL tNode).enc plan, (pL tCount).enc list] r.1 r.2.1 r.2.2 := by
  obtain ⟨I, hI⟩ : ∃ I, I = real := ⟨_, rfl⟩; obtain ⟨K, k75⟩ : ∃ K : FuncId → En, K 75 = en75 := ⟨fun g => (lk g [(75, en75)]).getD default, rfl⟩
  show Ok0 Tryz.prog 108 [.one (.pv (.sl false 7 (tNode.encs plan))), .one (.pv (.sl false 3 (tCount.encs list)))] _ _ _
  obtain ⟨q0, hq0⟩ := eqv (tCount.encs list)
  try rw [← hq0]
  obtain ⟨q1, hq1⟩ := eqv (tNode.encs plan)
  try rw [← hq1]
  have hS := And.intro hI (And.intro k75 (And.intro hq0 hq1))
  refine Ok0_run (Y := (Y108 I K)) xok (tY108 hI k75) Tryz.func108 rfl rfl rfl 2000 hI fun w Xs => ?_; (conv => arg 4; cbv)
  replace h := h w Xs
  exact fin
theorem lm108 {w : World} {Xs : Nat → Prop} (plan : List NodeV) (list : List CountV) (hp : plan.length ≤ 8) (hl : list.length ≤ 200) : ∀ k i : Nat, k + i = list.length → G108_0 w Xs plan list i (rI (cntLp plan list k i)) := by
  have hw : IntKind.i64.wrap (IntKind.i64.wrap (2 * (plan.length : Int)) - 1) = 2 * (plan.length : Int) - 1 := by
    rw [show IntKind.i64.wrap (2 * (plan.length : Int)) = 2 * (plan.length : Int) by rw [IntKind.wrap_i64]; omega, IntKind.wrap_i64]; omega
  intro k
  induction k with
  | zero =>
    intro i hk
    apply st108_0
    rw [if_neg (by omega)]
    rfl
  | succ k ih =>
    intro i hk
    have nx : ∀ v, v = cntLp plan list k (i + 1) → G108_0 w Xs plan list ((i + 1 : Nat) : Int) (rI v) := fun v e => e ▸ ih (i + 1) (by omega)
    clear ih
    apply st108_0
    rw [if_pos (by omega), wsucc (by omega), Int.toNat_natCast, hw, cntLp]
    by_cases hi : 0 < i
    · rw [wprev hi (by omega), Int.toNat_natCast]
      skip
      (repeat' (first | (refine And.intro ?_ ?_) | (refine if_go (fun q => ?_) (fun q => ?_))))
      all_goals first
        | omega
        | (simp; done)
        | (refine nx _ ?_; unfold badC aheadC at *; (repeat' split) <;> first | rfl | omega)
        | (refine congrArg rI ?_; unfold badC aheadC at *; (repeat' split) <;> first | rfl | omega)
    · rw [if_neg (show ¬ 0 < (i : Int) by omega)]
      (repeat' (first | (refine And.intro ?_ ?_) | (refine if_go (fun q => ?_) (fun q => ?_))))
      all_goals first
        | omega
        | (refine nx _ ?_; unfold badC; (repeat' split) <;> first | rfl | omega)
        | (refine congrArg rI ?_; unfold badC; (repeat' split) <;> first | rfl | omega)
def sh108 : Shp := fun I i b l s => .ok (.one (.pv (.sc (.int .i64 (i 0)))), [], 0)
def an108 : An (List NodeV × List CountV × Unit) where
  pre t := decide (planF t.1 = 0)
  i _ t := cntF t.1 t.2.1
noncomputable def en108 : En := mkE (parsC (pL tNode) (parsC (pL tCount) pars0)) an108
attribute [simp] en108 an108
theorem ok108 (plan : List NodeV) (list : List CountV) (p0 : planF plan = 0) : Ok0 Tryz.prog 108 [(pL tNode).enc plan, (pL tCount).enc list] ((.one (.pv (.sc (.int .i64 (cntF plan list)))), [], 0) : RES).1 ((.one (.pv (.sc (.int .i64 (cntF plan list)))), [], 0) : RES).2.1 ((.one (.pv (.sc (.int .i64 (cntF plan list)))), [], 0) : RES).2.2 := by
  have h8 := (planF_wid p0).1
  refine go108 plan list fun w Xs => ?_
  refine ⟨by omega, ?_⟩
  rw [if_pos p0]
  refine if_go (fun h => ?_) (fun h => ?_)
  · unfold cntF; rw [if_pos (by omega)]
  · unfold cntF; rw [if_neg (by omega)]; exact lm108 plan list h8.2 (by omega) list.length 0 rfl
theorem s108 {I : Ops} (hI : I = real) {e : En} (he : e = en108) : Sound Tryz.prog 108 (callE I e sh108) := by
  refine Sound.mkE ent108 hI (fun _ => rfl) ?_ he
  rintro ⟨plan, list, ⟨⟩⟩ hp
  have hp : (decide (planF plan = 0)) = true := hp
  try simp only [Bool.and_eq_true, decide_eq_true_eq] at hp
  have p0 := hp
  exact ok108 plan list p0
theorem ent170 : Enters Tryz.prog 170 := ⟨Tryz.f170, Tryz.func170, by kernel_rfl, by kernel_rfl⟩
noncomputable def Y170 (I : Ops) : CallsA := (Tab.calls [(48, true, callRd I (inl X I (Tab.calls []) Tryz.f48)), (47, true, callRd I (inl X I (Tab.calls []) Tryz.f47))])
theorem tY170 {I : Ops} (hI : I = real)  : CallsOk Tryz.prog (Y170 I) := (TabOk.calls mixed ⟨EntryOk.rd (s48 hI) hI, fun _ => callRd_quiet _ _, ⟨EntryOk.rd (s47 hI) hI, fun _ => callRd_quiet _ _, trivial⟩⟩)
theorem s170 {I : Ops} (hI : I = real)  : Sound Tryz.prog 170 (inl X I (Y170 I) Tryz.f170) :=
  Sound.inl (Y := (Y170 I)) xok (tY170 hI) ent170 Tryz.func170 rfl rfl hI
theorem ent154 : Enters Tryz.prog 154 := ⟨Tryz.f154, Tryz.func154, by kernel_rfl, by kernel_rfl⟩
noncomputable def Y154 (I : Ops) : CallsA := (Tab.calls [(170, true, callRd I (inl X I (Y170 I) Tryz.f170)), (47, true, callRd I (inl X I (Tab.calls []) Tryz.f47)), (171, true, callRd I (inl X I (Y171 I) Tryz.f171))])
theorem tY154 {I : Ops} (hI : I = real)  : CallsOk Tryz.prog (Y154 I) := (TabOk.calls mixed ⟨EntryOk.rd (s170 hI) hI, fun _ => callRd_quiet _ _, ⟨EntryOk.rd (s47 hI) hI, fun _ => callRd_quiet _ _, ⟨EntryOk.rd (s171 hI) hI, fun _ => callRd_quiet _ _, trivial⟩⟩⟩)
theorem s154 {I : Ops} (hI : I = real)  : Sound Tryz.prog 154 (inl X I (Y154 I) Tryz.f154) :=
  Sound.inl (Y := (Y154 I)) xok (tY154 hI) ent154 Tryz.func154 rfl rfl hI
theorem ent123 : Enters Tryz.prog 123 := ⟨Tryz.f123, Tryz.func123, by kernel_rfl, by kernel_rfl⟩
abbrev G123_0 (w : World) (Xs : Nat → Prop) (plan : List NodeV) (list : List CountV) (x12 : Int) (r : RES) : Prop := WL [0, 1, 10, 11, 12] Tryz.prog 123 Tryz.f123 (Ent0 w Xs) (Back (Ent0 w Xs) r.1 r.2.1 r.2.2) (place (bodyOf Tryz.f123) [1,1,0,1,0,0] [])
  ⟨[(0, .one (.pv (.sl false 7 (tNode.encs plan)))), (1, .one (.pv (.sl false 3 (tCount.encs list)))), (10, .one (.pv (.sl false 3 (tCount.encs list)))), (11, .one (.pv (.sc (.int .i64 (list.length : Int))))), (12, .one (.pv (.sc (.int .i64 x12))))], [], 0⟩
noncomputable def Y123 (I : Ops) (K : FuncId → En) : CallsA := (Tab.calls [(154, true, callRd I (inl X I (Y154 I) Tryz.f154)), (155, true, callRd I (callE I (K 155) sh155))])
theorem tY123 {I : Ops} (hI : I = real) {K : FuncId → En} (k155 : K 155 = en155) : CallsOk Tryz.prog (Y123 I K) := (TabOk.calls mixed ⟨EntryOk.rd (s154 hI) hI, fun _ => callRd_quiet _ _, ⟨EntryOk.rd (s155 hI k155) hI, fun _ => callRd_quiet _ _, trivial⟩⟩)
theorem st123_0 {w : World} {Xs : Nat → Prop} (plan : List NodeV) (list : List CountV) (x12 : Int) {r : RES} (h : (if x12 < (list.length : Int) then ((0 ≤ x12 ∧ x12 < (list.length : Int)) ∧ (if 0 ≤ (nth list x12.toNat).place then (if (nth list x12.toNat).place ≤ (IntKind.i64.wrap ((IntKind.i64.wrap (2 * (plan.length : Int))) - 1)) then (if 0 ≤ (nth list x12.toNat).epoch then (if (nth list x12.toNat).epoch ≤ 1000 then (if (-1000000000000) ≤ (nth list x12.toNat).n then (if (nth list x12.toNat).n ≤ 1000000000000 then (if (nth list x12.toNat).n = 0 then r = (.one (.pv (.sc (.int .i64 3))), [], 0) else (if 0 < x12 then ((0 ≤ (IntKind.i64.wrap (x12 - 1)) ∧ (IntKind.i64.wrap (x12 - 1)) < (list.length : Int)) ∧ (if 0 ≤ orL [cmpI (nth list ((IntKind.i64.wrap (x12 - 1)).toNat)).place (nth list x12.toNat).place, cmpI (nth list ((IntKind.i64.wrap (x12 - 1)).toNat)).epoch (nth list x12.toNat).epoch] then r = (.one (.pv (.sc (.int .i64 1))), [], 0) else G123_0 w Xs plan list (IntKind.i64.wrap (x12 + 1)) r)) else G123_0 w Xs plan list (IntKind.i64.wrap (x12 + 1)) r)) else r = (.one (.pv (.sc (.int .i64 3))), [], 0)) else r = (.one (.pv (.sc (.int .i64 3))), [], 0)) else r = (.one (.pv (.sc (.int .i64 3))), [], 0)) else r = (.one (.pv (.sc (.int .i64 3))), [], 0)) else r = (.one (.pv (.sc (.int .i64 3))), [], 0)) else r = (.one (.pv (.sc (.int .i64 3))), [], 0))) else r = (.one (.pv (.sc (.int .i64 0))), [], 0))) : G123_0 w Xs plan list x12 r := by
  obtain ⟨I, hI⟩ : ∃ I, I = real := ⟨_, rfl⟩; obtain ⟨K, k155⟩ : ∃ K : FuncId → En, K 155 = en155 := ⟨fun g => (lk g [(155, en155)]).getD default, rfl⟩
  unfold G123_0 WL
  obtain ⟨q0, hq0⟩ := eqv (list.length : Int)
  try rw [← hq0]
  obtain ⟨q1, hq1⟩ := eqv (tCount.encs list)
  try rw [← hq1]
  obtain ⟨q2, hq2⟩ := eqv (tNode.encs plan)
  try rw [← hq2]
  have hS := And.intro hI (And.intro k155 (And.intro hq0 (And.intro hq1 hq2)))
  refine W_go (Y := (Y123 I K)) xok (tY123 hI k155) Tryz.func123 rfl 2000 _ hI ?_; (conv => arg 4; cbv)
  exact fin
theorem go123 (plan : List NodeV) (list : List CountV) {r : RES} (h : ∀ (w : World) (Xs : Nat → Prop), (if 200 < (list.length : Int) then r = (.one (.pv (.sc (.int .i64 2))), [], 0) else G123_0 w Xs plan list 0 r)) : Ok0 Tryz.prog 123 [(pL tNode).enc plan, (pL tCount).enc list] r.1 r.2.1 r.2.2 := by
  obtain ⟨I, hI⟩ : ∃ I, I = real := ⟨_, rfl⟩; obtain ⟨K, k155⟩ : ∃ K : FuncId → En, K 155 = en155 := ⟨fun g => (lk g [(155, en155)]).getD default, rfl⟩
  show Ok0 Tryz.prog 123 [.one (.pv (.sl false 7 (tNode.encs plan))), .one (.pv (.sl false 3 (tCount.encs list)))] _ _ _
  obtain ⟨q0, hq0⟩ := eqv (tCount.encs list)
  try rw [← hq0]
  obtain ⟨q1, hq1⟩ := eqv (tNode.encs plan)
  try rw [← hq1]
  have hS := And.intro hI (And.intro k155 (And.intro hq0 hq1))
  refine Ok0_run (Y := (Y123 I K)) xok (tY123 hI k155) Tryz.func123 rfl rfl rfl 2000 hI fun w Xs => ?_; (conv => arg 4; cbv)
  replace h := h w Xs
  exact fin
theorem lm123 {w : World} {Xs : Nat → Prop} (plan : List NodeV) (list : List CountV) (hp : plan.length ≤ 8) (hl : list.length ≤ 200) : ∀ k i : Nat, k + i = list.length → G123_0 w Xs plan list i (rI (cntLp plan list k i)) := by
  have hw : IntKind.i64.wrap (IntKind.i64.wrap (2 * (plan.length : Int)) - 1) = 2 * (plan.length : Int) - 1 := by
    rw [show IntKind.i64.wrap (2 * (plan.length : Int)) = 2 * (plan.length : Int) by rw [IntKind.wrap_i64]; omega, IntKind.wrap_i64]; omega
  intro k
  induction k with
  | zero =>
    intro i hk
    apply st123_0
    rw [if_neg (by omega)]
    rfl
  | succ k ih =>
    intro i hk
    have nx : ∀ v, v = cntLp plan list k (i + 1) → G123_0 w Xs plan list ((i + 1 : Nat) : Int) (rI v) := fun v e => e ▸ ih (i + 1) (by omega)
    clear ih
    apply st123_0
    rw [if_pos (by omega), wsucc (by omega), Int.toNat_natCast, hw, cntLp]
    by_cases hi : 0 < i
    · rw [wprev hi (by omega), Int.toNat_natCast]
      simp only [orL_ahead]
      (repeat' (first | (refine And.intro ?_ ?_) | (refine if_go (fun q => ?_) (fun q => ?_))))
      all_goals first
        | omega
        | (simp; done)
        | (refine nx _ ?_; unfold badC aheadC at *; (repeat' split) <;> first | rfl | omega)
        | (refine congrArg rI ?_; unfold badC aheadC at *; (repeat' split) <;> first | rfl | omega)
    · rw [if_neg (show ¬ 0 < (i : Int) by omega)]
      (repeat' (first | (refine And.intro ?_ ?_) | (refine if_go (fun q => ?_) (fun q => ?_))))
      all_goals first
        | omega
        | (refine nx _ ?_; unfold badC; (repeat' split) <;> first | rfl | omega)
        | (refine congrArg rI ?_; unfold badC; (repeat' split) <;> first | rfl | omega)
def sh123 : Shp := fun I i b l s => .ok (.one (.pv (.sc (.int .i64 (i 0)))), [], 0)
def an123 : An (List NodeV × List CountV × Unit) where
  pre t := decide (planF t.1 = 0)
  i _ t := cntF t.1 t.2.1
noncomputable def en123 : En := mkE (parsC (pL tNode) (parsC (pL tCount) pars0)) an123
attribute [simp] en123 an123
theorem ok123 (plan : List NodeV) (list : List CountV) (p0 : planF plan = 0) : Ok0 Tryz.prog 123 [(pL tNode).enc plan, (pL tCount).enc list] ((.one (.pv (.sc (.int .i64 (cntF plan list)))), [], 0) : RES).1 ((.one (.pv (.sc (.int .i64 (cntF plan list)))), [], 0) : RES).2.1 ((.one (.pv (.sc (.int .i64 (cntF plan list)))), [], 0) : RES).2.2 := by
  have h8 := (planF_wid p0).1
  refine go123 plan list fun w Xs => ?_
  refine if_go (fun h => ?_) (fun h => ?_)
  · unfold cntF; rw [if_pos (by omega)]
  · unfold cntF; rw [if_neg (by omega)]; exact lm123 plan list h8.2 (by omega) list.length 0 rfl
theorem s123 {I : Ops} (hI : I = real) {e : En} (he : e = en123) : Sound Tryz.prog 123 (callE I e sh123) := by
  refine Sound.mkE ent123 hI (fun _ => rfl) ?_ he
  rintro ⟨plan, list, ⟨⟩⟩ hp
  have hp : (decide (planF plan = 0)) = true := hp
  try simp only [Bool.and_eq_true, decide_eq_true_eq] at hp
  have p0 := hp
  exact ok123 plan list p0
end Go.Proofs.Tryz
