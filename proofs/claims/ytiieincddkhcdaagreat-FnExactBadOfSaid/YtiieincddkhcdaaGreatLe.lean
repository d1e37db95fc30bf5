/- Contracts. -/
import Derived.Test.YtiieincddkhcdaaGreatLd
set_option linter.unusedSimpArgs false
set_option linter.unusedVariables false
namespace Go.Proofs.Tryz
open Go Go.Aix
set_option maxRecDepth 100000
set_option maxHeartbeats 4000000
theorem ent137 : Enters Tryz.prog 137 := ⟨Tryz.f137, Tryz.func137, by kernel_rfl, by kernel_rfl⟩
theorem go137 (op : Int) {r : RES} (h : ∀ (w : World) (Xs : Nat → Prop), (if op = 1 then r = (.one (.pv (.sc (.int .i64 0))), [], 0) else (if op = 4 then r = (.one (.pv (.sc (.int .i64 2))), [], 0) else (if op = 6 then r = (.one (.pv (.sc (.int .i64 2))), [], 0) else r = (.one (.pv (.sc (.int .i64 1))), [], 0))))) : Ok0 Tryz.prog 137 [pI.enc op] r.1 r.2.1 r.2.2 := by
  obtain ⟨I, hI⟩ : ∃ I, I = real := ⟨_, rfl⟩
  show Ok0 Tryz.prog 137 [.one (.pv (.sc (.int .i64 op)))] _ _ _
  have hS := hI
  refine Ok0_run (Y := (Tab.calls [])) xok (TabOk.calls mixed trivial) Tryz.func137 rfl rfl rfl 2000 hI fun w Xs => ?_; (conv => arg 4; cbv)
  replace h := h w Xs
  exact fin
def sh137 : Shp := fun I i b l s => .ok (.one (.pv (.sc (.int .i64 (i 0)))), [], 0)
def an137 : An (Int × Unit) where
  i _ t := readsOf t.1
noncomputable def en137 : En := mkE (parsC pI pars0) an137
attribute [simp] en137 an137
theorem ok137 (op : Int)  : Ok0 Tryz.prog 137 [pI.enc op] ((.one (.pv (.sc (.int .i64 (readsOf op)))), [], 0) : RES).1 ((.one (.pv (.sc (.int .i64 (readsOf op)))), [], 0) : RES).2.1 ((.one (.pv (.sc (.int .i64 (readsOf op)))), [], 0) : RES).2.2 := by
  refine go137 op fun w Xs => ?_
  (repeat' (first | (refine And.intro ?_ ?_) | (refine if_go (fun q => ?_) (fun q => ?_)))); all_goals (first | omega | rfl | (simp [*, readsOf]; done) | (simp_all [readsOf]; done) | (simp_all [readsOf]; omega))
theorem s137 {I : Ops} (hI : I = real) {e : En} (he : e = en137) : Sound Tryz.prog 137 (callE I e sh137) := by
  refine Sound.mkE ent137 hI (fun _ => rfl) ?_ he
  rintro ⟨op, ⟨⟩⟩ hp
  exact ok137 op 
theorem ent136 : Enters Tryz.prog 136 := ⟨Tryz.f136, Tryz.func136, by kernel_rfl, by kernel_rfl⟩
noncomputable def Y136 (I : Ops) (K : FuncId → En) : CallsA := (Tab.calls [(137, true, callRd I (callE I (K 137) sh137))])
theorem tY136 {I : Ops} (hI : I = real) {K : FuncId → En} (k137 : K 137 = en137) : CallsOk Tryz.prog (Y136 I K) := (TabOk.calls mixed ⟨EntryOk.rd (s137 hI k137) hI, fun _ => callRd_quiet _ _, trivial⟩)
theorem go136 (n : NodeV) {r : RES} (h : ∀ (w : World) (Xs : Nat → Prop), (if readsOf n.op < 1 then (if n.a = 0 then (if readsOf n.op < 2 then (if n.b = 0 then (if n.op = 2 then (if 0 < (n.cells.length : Int) then r = (.one (.pv (.sc (.bool false))), [], 0) else r = (.one (.pv (.sc (.bool true))), [], 0)) else (if n.test = 0 then (if n.value = 0 then (if n.op = 3 then r = (.one (.pv (.sc (.bool (decide (n.col = 0))))), [], 0) else (if 0 < (n.cells.length : Int) then r = (.one (.pv (.sc (.bool false))), [], 0) else (if n.op = 4 then r = (.one (.pv (.sc (.bool (decide (n.col = 0))))), [], 0) else (if n.op = 5 then r = (.one (.pv (.sc (.bool (decide (n.col = 0))))), [], 0) else (if n.op = 11 then r = (.one (.pv (.sc (.bool (decide (n.col = 0))))), [], 0) else (if n.op = 12 then r = (.one (.pv (.sc (.bool (decide (n.col = 0))))), [], 0) else r = (.one (.pv (.sc (.bool true))), [], 0))))))) else r = (.one (.pv (.sc (.bool false))), [], 0)) else r = (.one (.pv (.sc (.bool false))), [], 0))) else r = (.one (.pv (.sc (.bool false))), [], 0)) else (if n.op = 2 then (if 0 < (n.cells.length : Int) then r = (.one (.pv (.sc (.bool false))), [], 0) else r = (.one (.pv (.sc (.bool true))), [], 0)) else (if n.test = 0 then (if n.value = 0 then (if n.op = 3 then r = (.one (.pv (.sc (.bool (decide (n.col = 0))))), [], 0) else (if 0 < (n.cells.length : Int) then r = (.one (.pv (.sc (.bool false))), [], 0) else (if n.op = 4 then r = (.one (.pv (.sc (.bool (decide (n.col = 0))))), [], 0) else (if n.op = 5 then r = (.one (.pv (.sc (.bool (decide (n.col = 0))))), [], 0) else (if n.op = 11 then r = (.one (.pv (.sc (.bool (decide (n.col = 0))))), [], 0) else (if n.op = 12 then r = (.one (.pv (.sc (.bool (decide (n.col = 0))))), [], 0) else r = (.one (.pv (.sc (.bool true))), [], 0))))))) else r = (.one (.pv (.sc (.bool false))), [], 0)) else r = (.one (.pv (.sc (.bool false))), [], 0)))) else r = (.one (.pv (.sc (.bool false))), [], 0)) else (if readsOf n.op < 2 then (if n.b = 0 then (if n.op = 2 then (if 0 < (n.cells.length : Int) then r = (.one (.pv (.sc (.bool false))), [], 0) else r = (.one (.pv (.sc (.bool true))), [], 0)) else (if n.test = 0 then (if n.value = 0 then (if n.op = 3 then r = (.one (.pv (.sc (.bool (decide (n.col = 0))))), [], 0) else (if 0 < (n.cells.length : Int) then r = (.one (.pv (.sc (.bool false))), [], 0) else (if n.op = 4 then r = (.one (.pv (.sc (.bool (decide (n.col = 0))))), [], 0) else (if n.op = 5 then r = (.one (.pv (.sc (.bool (decide (n.col = 0))))), [], 0) else (if n.op = 11 then r = (.one (.pv (.sc (.bool (decide (n.col = 0))))), [], 0) else (if n.op = 12 then r = (.one (.pv (.sc (.bool (decide (n.col = 0))))), [], 0) else r = (.one (.pv (.sc (.bool true))), [], 0))))))) else r = (.one (.pv (.sc (.bool false))), [], 0)) else r = (.one (.pv (.sc (.bool false))), [], 0))) else r = (.one (.pv (.sc (.bool false))), [], 0)) else (if n.op = 2 then (if 0 < (n.cells.length : Int) then r = (.one (.pv (.sc (.bool false))), [], 0) else r = (.one (.pv (.sc (.bool true))), [], 0)) else (if n.test = 0 then (if n.value = 0 then (if n.op = 3 then r = (.one (.pv (.sc (.bool (decide (n.col = 0))))), [], 0) else (if 0 < (n.cells.length : Int) then r = (.one (.pv (.sc (.bool false))), [], 0) else (if n.op = 4 then r = (.one (.pv (.sc (.bool (decide (n.col = 0))))), [], 0) else (if n.op = 5 then r = (.one (.pv (.sc (.bool (decide (n.col = 0))))), [], 0) else (if n.op = 11 then r = (.one (.pv (.sc (.bool (decide (n.col = 0))))), [], 0) else (if n.op = 12 then r = (.one (.pv (.sc (.bool (decide (n.col = 0))))), [], 0) else r = (.one (.pv (.sc (.bool true))), [], 0))))))) else r = (.one (.pv (.sc (.bool false))), [], 0)) else r = (.one (.pv (.sc (.bool false))), [], 0)))))) : Ok0 Tryz.prog 136 [(pS tNode).enc n] r.1 r.2.1 r.2.2 := by
  obtain ⟨I, hI⟩ : ∃ I, I = real := ⟨_, rfl⟩; obtain ⟨K, k137⟩ : ∃ K : FuncId → En, K 137 = en137 := ⟨fun g => (lk g [(137, en137)]).getD default, rfl⟩
  show Ok0 Tryz.prog 136 [.ag [.pv (.sc (.int .i64 n.op)), .pv (.sc (.int .i64 n.a)), .pv (.sc (.int .i64 n.b)), .pv (.sc (.int .i64 n.col)), .pv (.sc (.int .i64 n.test)), .pv (.sc (.int .i64 n.value)), .pv (.sl false 1 (tI64.encs n.cells))]] _ _ _
  obtain ⟨q0, hq0⟩ := eqv (tI64.encs n.cells)
  try rw [← hq0]
  obtain ⟨q1, hq1⟩ := eqv n.value
  try rw [← hq1]
  obtain ⟨q2, hq2⟩ := eqv n.test
  try rw [← hq2]
  obtain ⟨q3, hq3⟩ := eqv n.col
  try rw [← hq3]
  obtain ⟨q4, hq4⟩ := eqv n.op
  try rw [← hq4]
  obtain ⟨q5, hq5⟩ := eqv n.a
  try rw [← hq5]
  obtain ⟨q6, hq6⟩ := eqv n.b
  try rw [← hq6]
  have hS := And.intro hI (And.intro k137 (And.intro hq0 (And.intro hq1 (And.intro hq2 (And.intro hq3 (And.intro hq4 (And.intro hq5 hq6)))))))
  refine Ok0_run (Y := (Y136 I K)) xok (tY136 hI k137) Tryz.func136 rfl rfl rfl 2000 hI fun w Xs => ?_; (conv => arg 4; cbv)
  replace h := h w Xs
  exact fin
def sh136 : Shp := fun I i b l s => .ok (.one (.pv (.sc (.bool (b 0)))), [], 0)
def an136 : An (NodeV × Unit) where
  b _ t := named t.1
noncomputable def en136 : En := mkE (parsC (pS tNode) pars0) an136
attribute [simp] en136 an136
theorem ok136 (n : NodeV)  : Ok0 Tryz.prog 136 [(pS tNode).enc n] ((.one (.pv (.sc (.bool (named n)))), [], 0) : RES).1 ((.one (.pv (.sc (.bool (named n)))), [], 0) : RES).2.1 ((.one (.pv (.sc (.bool (named n)))), [], 0) : RES).2.2 := by
  refine go136 n fun w Xs => ?_
  have hr := readsOf_cases n.op
  (repeat' (first | (refine And.intro ?_ ?_) | (refine if_go (fun q => ?_) (fun q => ?_))))
  all_goals (refine congrArg rB ?_; rcases hr with ⟨h, e⟩ | ⟨h, e⟩ | ⟨h, e⟩ <;> first | (exfalso; omega) | (simp only [named, e]; (repeat' (refine ite_go (fun q => ?_) (fun q => ?_))) <;> first | rfl | (exfalso; omega) | (simp; done) | (simp [*]; done)))
theorem s136 {I : Ops} (hI : I = real) {e : En} (he : e = en136) : Sound Tryz.prog 136 (callE I e sh136) := by
  refine Sound.mkE ent136 hI (fun _ => rfl) ?_ he
  rintro ⟨n, ⟨⟩⟩ hp
  exact ok136 n 
theorem ent138 : Enters Tryz.prog 138 := ⟨Tryz.f138, Tryz.func138, by kernel_rfl, by kernel_rfl⟩
def sh138 : Shp := fun I i b l s => .ok (.one (.pv (.sc (.int .i64 (i 0)))), [], 0)
def an138 (bd : Nat) : An (List NodeV × Int × Unit) where
  pre t := decide (0 ≤ t.2.1 ∧ t.2.1 < bd) && decide (t.2.1 < t.1.length) && decide (t.1.length < 4611686018427387904) && ((wid t.1 t.2.1.toNat).isSome)
  i _ t := (wid t.1 t.2.1.toNat).getD 0
noncomputable def en138 (bd : Nat) : En := mkE (parsC (pL tNode) (parsC pI pars0)) (an138 bd)
theorem go138 {bd : Nat} (s138 : ∀ {I : Ops}, I = real → ∀ {e : En}, e = en138 bd → Sound Tryz.prog 138 (callE I e sh138)) (plan : List NodeV) (i : Int) {r : RES} (h : ∀ (w : World) (Xs : Nat → Prop), ((0 ≤ i ∧ i < (plan.length : Int)) ∧ (if (nth plan i.toNat).op = 1 then r = (.one (.pv (.sc (.int .i64 ((nth plan i.toNat).col)))), [], 0) else (if (nth plan i.toNat).op = 3 then r = (.one (.pv (.sc (.int .i64 (((nth plan i.toNat).cells).length : Int)))), [], 0) else (if (nth plan i.toNat).op = 6 then ((0 ≤ ((nth plan i.toNat).a) ∧ ((nth plan i.toNat).a) < bd) ∧ ((((nth plan i.toNat).a) < plan.length) ∧ ((plan.length < 4611686018427387904) ∧ ((((wid plan ((nth plan i.toNat).a).toNat).isSome) = true) ∧ ((0 ≤ ((nth plan i.toNat).b) ∧ ((nth plan i.toNat).b) < bd) ∧ ((((nth plan i.toNat).b) < plan.length) ∧ ((((wid plan ((nth plan i.toNat).b).toNat).isSome) = true) ∧ r = (.one (.pv (.sc (.int .i64 (IntKind.i64.wrap ((IntKind.i64.wrap ((wid plan ((nth plan i.toNat).a).toNat).getD 0 + (wid plan ((nth plan i.toNat).b).toNat).getD 0)) - (nth plan i.toNat).col))))), [], 0)))))))) else (if (nth plan i.toNat).op = 7 then r = (.one (.pv (.sc (.int .i64 (IntKind.i64.wrap ((nth plan i.toNat).col + 1))))), [], 0) else (if (nth plan i.toNat).op = 8 then r = (.one (.pv (.sc (.int .i64 (IntKind.i64.wrap ((nth plan i.toNat).col + 1))))), [], 0) else (if (nth plan i.toNat).op = 9 then r = (.one (.pv (.sc (.int .i64 (IntKind.i64.wrap ((nth plan i.toNat).col + 1))))), [], 0) else (if (nth plan i.toNat).op = 10 then r = (.one (.pv (.sc (.int .i64 (IntKind.i64.wrap ((nth plan i.toNat).col + 1))))), [], 0) else ((0 ≤ ((nth plan i.toNat).a) ∧ ((nth plan i.toNat).a) < bd) ∧ ((((nth plan i.toNat).a) < plan.length) ∧ ((plan.length < 4611686018427387904) ∧ ((((wid plan ((nth plan i.toNat).a).toNat).isSome) = true) ∧ r = (.one (.pv (.sc (.int .i64 ((wid plan ((nth plan i.toNat).a).toNat).getD 0)))), [], 0)))))))))))))) : Ok0 Tryz.prog 138 [(pL tNode).enc plan, pI.enc i] r.1 r.2.1 r.2.2 := by
  obtain ⟨I, hI⟩ : ∃ I, I = real := ⟨_, rfl⟩; obtain ⟨K, k138⟩ : ∃ K : FuncId → En, K 138 = (en138 bd) := ⟨fun g => (lk g [(138, (en138 bd))]).getD default, rfl⟩
  show Ok0 Tryz.prog 138 [.one (.pv (.sl false 7 (tNode.encs plan))), .one (.pv (.sc (.int .i64 i)))] _ _ _
  obtain ⟨q0, hq0⟩ := eqv (tNode.encs plan)
  try rw [← hq0]
  refine Ok0_run (Y := (Tab.calls [(138, true, callRd I (callE I (K 138) sh138))])) xok (TabOk.calls mixed ⟨EntryOk.rd (s138 hI k138) hI, fun _ => callRd_quiet _ _, trivial⟩) Tryz.func138 rfl rfl rfl 2000 hI fun w Xs => ?_; (conv => arg 4; cbv)
  replace h := h w Xs
  repeat' (first | (have hd := And.left h; replace h := And.right h) | ((first | ((with_reducible refine on_eqs ?_ ?_); (focus (with_reducible rfl))) | (with_reducible refine on_both ?_ ?_) | (with_reducible refine on_true (by assumption) ?_) | (with_reducible refine on_false (by assumption) ?_) | (with_reducible refine on_ask (fun g => ?_) (fun g => ?_) <;> (have hc := g) <;> (try simp (disch := omega) [hI, k138, en138, an138, hq0, -List.length_eq_zero_iff] at hc) <;> (try (exfalso; omega)) <;> (try (first | (revert h; (refine imp_l ?_ (fun h => ?_)); focus (first | exact hc | assumption | omega | (simpa using hc; done) | (simp (disch := omega) only [wrap_id]; omega))) | (revert h; (refine imp_r ?_ (fun h => ?_)); focus (first | exact hc | assumption | omega | (simpa using hc; done) | (simp (disch := omega) only [wrap_id]; omega)))))) | ((with_reducible refine on_must ?_ ?_); (focus ((simp (disch := omega) [hI, k138, en138, an138, hq0]) <;> (first | omega | assumption | ((repeat' (refine And.intro ?_ ?_)) <;> (first | omega | assumption))))))) <;> (conv => arg 4; cbv)))
  all_goals (first | ((subst h); (with_reducible refine on_ret ?_); refine Ended_of rfl ?_))
  all_goals ((conv => lhs; cbv); (try (first | rfl | ((try simp (disch := omega) [hI, k138, en138, an138, hq0, mapE_append, Ty.encs_append, encs1_I64, encs1_U8, encs1, mapE1]) <;> (first | rfl | omega | (simp; done))))))
theorem mks138 {bd : Nat} (ok : ∀ (plan : List NodeV) (i : Int) (p0 : 0 ≤ i ∧ i < bd) (p1 : i < plan.length) (p2 : plan.length < 4611686018427387904) (p3 : (wid plan i.toNat).isSome = true), Ok0 Tryz.prog 138 [(pL tNode).enc plan, pI.enc i] ((.one (.pv (.sc (.int .i64 ((wid plan i.toNat).getD 0)))), [], 0) : RES).1 ((.one (.pv (.sc (.int .i64 ((wid plan i.toNat).getD 0)))), [], 0) : RES).2.1 ((.one (.pv (.sc (.int .i64 ((wid plan i.toNat).getD 0)))), [], 0) : RES).2.2) : ∀ {I : Ops}, I = real → ∀ {e : En}, e = en138 bd → Sound Tryz.prog 138 (callE I e sh138) := by
  intro I hI e he
  refine Sound.mkR ent138 hI ?_ he
  rintro ⟨plan, i, ⟨⟩⟩ hp r σ n e
  have hp : (decide (0 ≤ i ∧ i < bd) && decide (i < plan.length) && decide (plan.length < 4611686018427387904) && ((wid plan i.toNat).isSome)) = true := hp
  try simp only [Bool.and_eq_true, decide_eq_true_eq] at hp
  obtain ⟨⟨⟨p0, p1⟩, p2⟩, p3⟩ := hp
  have e : (R.ok ((.one (.pv (.sc (.int .i64 ((wid plan i.toNat).getD 0)))), [], 0) : RES) : R RES).val = some (r, σ, n) := by
    rw [← e]
    simp [sh138, an138]
  have k := ok plan i p0 p1 p2 p3
  rw [Option.some.inj e] at k
  exact k
theorem okr138 {bd : Nat} (s138 : ∀ {I : Ops}, I = real → ∀ {e : En}, e = en138 bd → Sound Tryz.prog 138 (callE I e sh138)) (plan : List NodeV) (i : Int) (p0 : 0 ≤ i ∧ i < (bd + 1)) (p1 : i < plan.length) (p2 : plan.length < 4611686018427387904) (p3 : (wid plan i.toNat).isSome = true) : Ok0 Tryz.prog 138 [(pL tNode).enc plan, pI.enc i] ((.one (.pv (.sc (.int .i64 ((wid plan i.toNat).getD 0)))), [], 0) : RES).1 ((.one (.pv (.sc (.int .i64 ((wid plan i.toNat).getD 0)))), [], 0) : RES).2.1 ((.one (.pv (.sc (.int .i64 ((wid plan i.toNat).getD 0)))), [], 0) : RES).2.2 := by
  refine go138 s138 plan i fun w Xs => ?_
  obtain ⟨j, rfl⟩ : ∃ j : Nat, i = j := ⟨i.toNat, by omega⟩
  simp only [Int.toNat_natCast] at *
  obtain ⟨v, hv⟩ := Option.isSome_iff_exists.1 p3
  refine ⟨by omega, ?_⟩
  rcases wid_cases hv with ⟨h0, h1⟩ | ⟨h0, h1⟩ | ⟨h0, y, z, h1, h2, h3, h4, h5⟩ | ⟨h0, h1⟩ | ⟨⟨h0, h1, h2, h3⟩, h4, h5⟩ <;> rw [hv]
  all_goals ((repeat' (first | (refine And.intro ?_ ?_) | (refine if_go (fun q => ?_) (fun q => ?_))))
             all_goals first | omega | (simp [*]; done) | (exfalso; omega) | (simp_all; omega) | (simp_all; done) | trace_state)
theorem ok138 : ∀ (bd : Nat) (plan : List NodeV) (i : Int) (p0 : 0 ≤ i ∧ i < bd) (p1 : i < plan.length) (p2 : plan.length < 4611686018427387904) (p3 : (wid plan i.toNat).isSome = true), Ok0 Tryz.prog 138 [(pL tNode).enc plan, pI.enc i] ((.one (.pv (.sc (.int .i64 ((wid plan i.toNat).getD 0)))), [], 0) : RES).1 ((.one (.pv (.sc (.int .i64 ((wid plan i.toNat).getD 0)))), [], 0) : RES).2.1 ((.one (.pv (.sc (.int .i64 ((wid plan i.toNat).getD 0)))), [], 0) : RES).2.2 := by
  intro bd
  induction bd with
  | zero =>
    intro plan i p0 p1 p2 p3
    exfalso
    omega
  | succ bd ih => exact okr138 (mks138 ih)
theorem s138 {I : Ops} (hI : I = real) {e : En} {bd : Nat} (he : e = en138 bd) : Sound Tryz.prog 138 (callE I e sh138) := mks138 (ok138 bd) hI he
end Go.Proofs.Tryz
