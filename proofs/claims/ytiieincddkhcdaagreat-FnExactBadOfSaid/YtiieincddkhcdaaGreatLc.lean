/- Contracts. -/
import Derived.Test.YtiieincddkhcdaaGreatLb
set_option linter.unusedSimpArgs false
set_option linter.unusedVariables false
namespace Go.Proofs.Tryz
open Go Go.Aix
set_option maxRecDepth 100000
set_option maxHeartbeats 4000000
theorem ent120 : Enters Tryz.prog 120 := ⟨Tryz.f120, Tryz.func120, by kernel_rfl, by kernel_rfl⟩
abbrev G120_0 (w : World) (Xs : Nat → Prop) (n : NodeV) (ahead : List Int) (x49 : Int) (r : RES) : Prop := WL [1, 2, 47, 48, 49] Tryz.prog 120 Tryz.f120 (Ent0 w Xs) (Back (Ent0 w Xs) r.1 r.2.1 r.2.2) (place (bodyOf Tryz.f120) [1,0,1,0,1,1,1,1,1,0,1,1,0,0] [])
  ⟨[(1, .one (.pv (.sl false 1 (tI64.encs ahead)))), (2, .one (.ptr 0 0 0)), (47, .one (.pv (.sl false 1 (tI64.encs n.cells)))), (48, .one (.pv (.sc (.int .i64 (n.cells.length : Int))))), (49, .one (.pv (.sc (.int .i64 x49))))], [(0, .box [.pv (.sc (.int .i64 n.op)), .pv (.sc (.int .i64 n.a)), .pv (.sc (.int .i64 n.b)), .pv (.sc (.int .i64 n.col)), .pv (.sc (.int .i64 n.test)), .pv (.sc (.int .i64 n.value)), .pv (.sl false 1 (tI64.encs n.cells))])], 1⟩
noncomputable def Y120 (I : Ops) (K : FuncId → En) : CallsA := (Tab.calls [(47, true, callRd I (inl X I (Tab.calls []) Tryz.f47)), (152, true, callRd I (inl X I (Tab.calls []) Tryz.f152)), (121, true, callRd I (callE I (K 121) sh121))])
theorem tY120 {I : Ops} (hI : I = real) {K : FuncId → En} (k121 : K 121 = en121) : CallsOk Tryz.prog (Y120 I K) := (TabOk.calls mixed ⟨EntryOk.rd (s47 hI) hI, fun _ => callRd_quiet _ _, ⟨EntryOk.rd (s152 hI) hI, fun _ => callRd_quiet _ _, ⟨EntryOk.rd (s121 hI k121) hI, fun _ => callRd_quiet _ _, trivial⟩⟩⟩)
theorem st120_0 {w : World} {Xs : Nat → Prop} (n : NodeV) (ahead : List Int) (x49 : Int) {r : RES} (h : (if x49 < (n.cells.length : Int) then ((0 ≤ x49 ∧ x49 < (n.cells.length : Int)) ∧ ((0 ≤ n.a ∧ n.a < (ahead.length : Int)) ∧ (if 0 ≤ (nth n.cells x49.toNat) then (if (nth n.cells x49.toNat) ≤ (IntKind.i64.wrap ((nth ahead n.a.toNat) - 1)) then G120_0 w Xs n ahead (IntKind.i64.wrap (x49 + 1)) r else r = (.one (.pv (.sc (.int .i64 3))), [], 0)) else r = (.one (.pv (.sc (.int .i64 3))), [], 0)))) else r = (.one (.pv (.sc (.int .i64 0))), [], 0))) : G120_0 w Xs n ahead x49 r := by
  obtain ⟨I, hI⟩ : ∃ I, I = real := ⟨_, rfl⟩; obtain ⟨K, k121⟩ : ∃ K : FuncId → En, K 121 = en121 := ⟨fun g => (lk g [(121, en121)]).getD default, rfl⟩
  unfold G120_0 WL
  obtain ⟨q0, hq0⟩ := eqv (n.cells.length : Int)
  try rw [← hq0]
  obtain ⟨q1, hq1⟩ := eqv (tI64.encs n.cells)
  try rw [← hq1]
  obtain ⟨q2, hq2⟩ := eqv (tI64.encs ahead)
  try rw [← hq2]
  obtain ⟨q3, hq3⟩ := eqv n.value
  try rw [← hq3]
  obtain ⟨q4, hq4⟩ := eqv n.test
  try rw [← hq4]
  obtain ⟨q5, hq5⟩ := eqv n.col
  try rw [← hq5]
  obtain ⟨q6, hq6⟩ := eqv n.op
  try rw [← hq6]
  obtain ⟨q7, hq7⟩ := eqv n.a
  try rw [← hq7]
  obtain ⟨q8, hq8⟩ := eqv n.b
  try rw [← hq8]
  have hS := And.intro hI (And.intro k121 (And.intro hq0 (And.intro hq1 (And.intro hq2 (And.intro hq3 (And.intro hq4 (And.intro hq5 (And.intro hq6 (And.intro hq7 hq8)))))))))
  refine W_go (Y := (Y120 I K)) xok (tY120 hI k121) Tryz.func120 rfl 2000 _ hI ?_; (conv => arg 4; cbv)
  exact fin
theorem go120 (n : NodeV) (ahead : List Int) {r : RES} (h : ∀ (w : World) (Xs : Nat → Prop), (if n.op = 1 then (if 1 ≤ n.col then (if n.col ≤ 3 then r = (.one (.pv (.sc (.int .i64 0))), [], 0) else r = (.one (.pv (.sc (.int .i64 3))), [], 0)) else r = (.one (.pv (.sc (.int .i64 3))), [], 0)) else (if n.op = 2 then ((0 ≤ n.a ∧ n.a < (ahead.length : Int)) ∧ (if 0 ≤ n.col then (if n.col ≤ (IntKind.i64.wrap ((nth ahead n.a.toNat) - 1)) then (if 0 ≤ n.test then (if n.test ≤ 2 then (if (-1000000000) ≤ n.value then (if n.value ≤ 1000000000 then r = (.one (.pv (.sc (.int .i64 0))), [], 0) else r = (.one (.pv (.sc (.int .i64 3))), [], 0)) else r = (.one (.pv (.sc (.int .i64 3))), [], 0)) else r = (.one (.pv (.sc (.int .i64 3))), [], 0)) else r = (.one (.pv (.sc (.int .i64 3))), [], 0)) else r = (.one (.pv (.sc (.int .i64 3))), [], 0)) else r = (.one (.pv (.sc (.int .i64 3))), [], 0))) else (if n.op = 3 then (if 1 ≤ (n.cells.length : Int) then (if (n.cells.length : Int) ≤ 4 then G120_0 w Xs n ahead 0 r else r = (.one (.pv (.sc (.int .i64 2))), [], 0)) else r = (.one (.pv (.sc (.int .i64 2))), [], 0)) else (if n.op = 4 then ((0 ≤ n.a ∧ n.a < (ahead.length : Int)) ∧ ((0 ≤ n.b ∧ n.b < (ahead.length : Int)) ∧ (if (nth ahead n.a.toNat) = (nth ahead n.b.toNat) then r = (.one (.pv (.sc (.int .i64 0))), [], 0) else r = (.one (.pv (.sc (.int .i64 1))), [], 0)))) else (if n.op = 6 then ((0 ≤ n.a ∧ n.a < (ahead.length : Int)) ∧ ((0 ≤ n.b ∧ n.b < (ahead.length : Int)) ∧ (if 1 ≤ n.col then (if n.col ≤ (min (nth ahead n.a.toNat) (nth ahead n.b.toNat)) then ((n.op ≠ 1 → n.op ≠ 3 → ¬ (7 ≤ n.op ∧ n.op ≤ 10) → 0 ≤ n.a ∧ n.a.toNat < ahead.length) ∧ ((n.op = 6 → 0 ≤ n.b ∧ n.b.toNat < ahead.length) ∧ (if 4 < widF n ahead then r = (.one (.pv (.sc (.int .i64 2))), [], 0) else r = (.one (.pv (.sc (.int .i64 0))), [], 0)))) else r = (.one (.pv (.sc (.int .i64 3))), [], 0)) else r = (.one (.pv (.sc (.int .i64 3))), [], 0)))) else (if n.op = 7 then ((0 ≤ n.a ∧ n.a < (ahead.length : Int)) ∧ (if 0 ≤ n.col then (if n.col ≤ (min (nth ahead n.a.toNat) 3) then r = (.one (.pv (.sc (.int .i64 0))), [], 0) else r = (.one (.pv (.sc (.int .i64 3))), [], 0)) else r = (.one (.pv (.sc (.int .i64 3))), [], 0))) else (if n.op = 8 then ((0 ≤ n.a ∧ n.a < (ahead.length : Int)) ∧ (if 0 ≤ n.col then (if n.col ≤ (IntKind.i64.wrap ((nth ahead n.a.toNat) - 1)) then r = (.one (.pv (.sc (.int .i64 0))), [], 0) else r = (.one (.pv (.sc (.int .i64 3))), [], 0)) else r = (.one (.pv (.sc (.int .i64 3))), [], 0))) else (if n.op = 9 then ((0 ≤ n.a ∧ n.a < (ahead.length : Int)) ∧ (if 0 ≤ n.col then (if n.col ≤ (IntKind.i64.wrap ((nth ahead n.a.toNat) - 1)) then r = (.one (.pv (.sc (.int .i64 0))), [], 0) else r = (.one (.pv (.sc (.int .i64 3))), [], 0)) else r = (.one (.pv (.sc (.int .i64 3))), [], 0))) else (if n.op = 10 then ((0 ≤ n.a ∧ n.a < (ahead.length : Int)) ∧ (if 0 ≤ n.col then (if n.col ≤ (IntKind.i64.wrap ((nth ahead n.a.toNat) - 1)) then r = (.one (.pv (.sc (.int .i64 0))), [], 0) else r = (.one (.pv (.sc (.int .i64 3))), [], 0)) else r = (.one (.pv (.sc (.int .i64 3))), [], 0))) else r = (.one (.pv (.sc (.int .i64 0))), [], 0))))))))))) : Ok0 Tryz.prog 120 [(pS tNode).enc n, (pL tI64).enc ahead] r.1 r.2.1 r.2.2 := by
  obtain ⟨I, hI⟩ : ∃ I, I = real := ⟨_, rfl⟩; obtain ⟨K, k121⟩ : ∃ K : FuncId → En, K 121 = en121 := ⟨fun g => (lk g [(121, en121)]).getD default, rfl⟩
  show Ok0 Tryz.prog 120 [.ag [.pv (.sc (.int .i64 n.op)), .pv (.sc (.int .i64 n.a)), .pv (.sc (.int .i64 n.b)), .pv (.sc (.int .i64 n.col)), .pv (.sc (.int .i64 n.test)), .pv (.sc (.int .i64 n.value)), .pv (.sl false 1 (tI64.encs n.cells))], .one (.pv (.sl false 1 (tI64.encs ahead)))] _ _ _
  obtain ⟨q0, hq0⟩ := eqv (tI64.encs n.cells)
  try rw [← hq0]
  obtain ⟨q1, hq1⟩ := eqv (tI64.encs ahead)
  try rw [← hq1]
  obtain ⟨q2, hq2⟩ := eqv n.value
  try rw [← hq2]
  obtain ⟨q3, hq3⟩ := eqv n.test
  try rw [← hq3]
  obtain ⟨q4, hq4⟩ := eqv n.col
  try rw [← hq4]
  obtain ⟨q5, hq5⟩ := eqv n.op
  try rw [← hq5]
  obtain ⟨q6, hq6⟩ := eqv n.a
  try rw [← hq6]
  obtain ⟨q7, hq7⟩ := eqv n.b
  try rw [← hq7]
  have hS := And.intro hI (And.intro k121 (And.intro hq0 (And.intro hq1 (And.intro hq2 (And.intro hq3 (And.intro hq4 (And.intro hq5 (And.intro hq6 hq7))))))))
  refine Ok0_run (Y := (Y120 I K)) xok (tY120 hI k121) Tryz.func120 rfl rfl rfl 2000 hI fun w Xs => ?_; (conv => arg 4; cbv)
  replace h := h w Xs
  exact fin
theorem lm_fault {w : World} {Xs : Nat → Prop} (n : NodeV) (ahead : List Int) (hl : n.cells.length ≤ 4) (ha : 0 ≤ n.a ∧ n.a.toNat < ahead.length) : ∀ k i : Nat, k + i = n.cells.length → G120_0 w Xs n ahead i (rI (cellsF (n.cells.drop i) (IntKind.i64.wrap (nth ahead n.a.toNat - 1)))) := by
  intro k
  induction k with
  | zero =>
    intro i hk
    apply st120_0
    rw [if_neg (by omega), drop_nil (l := n.cells) (by omega)]
    rfl
  | succ k ih =>
    intro i hk
    apply st120_0
    have := ih (i + 1) (by omega)
    rw [if_pos (by omega), nth_drop (l := n.cells) (i := i) (by omega), wsucc (by omega), Int.toNat_natCast, cellsF]
    refine ⟨by omega, by omega, ?_⟩
    split
    · split
      · rw [if_pos (by omega)]; exact this
      · rw [if_neg (by omega)]
    · rw [if_neg (by omega)]
def sh120 : Shp := fun I i b l s => .ok (.one (.pv (.sc (.int .i64 (i 0)))), [], 0)
def an120 : An (NodeV × List Int × Unit) where
  pre t := decide (1 ≤ t.1.op ∧ t.1.op ≤ 12) && decide (t.1.op ≠ 1 → 0 ≤ t.1.a ∧ t.1.a.toNat < t.2.1.length) && decide (t.1.op = 4 ∨ t.1.op = 6 → 0 ≤ t.1.b ∧ t.1.b.toNat < t.2.1.length)
  i _ t := fieldF t.1 (nth t.2.1 t.1.a.toNat) (nth t.2.1 t.1.b.toNat)
noncomputable def en120 : En := mkE (parsC (pS tNode) (parsC (pL tI64) pars0)) an120
attribute [simp] en120 an120
theorem ok120 (n : NodeV) (ahead : List Int) (p0 : 1 ≤ n.op ∧ n.op ≤ 12) (p1 : n.op ≠ 1 → 0 ≤ n.a ∧ n.a.toNat < ahead.length) (p2 : n.op = 4 ∨ n.op = 6 → 0 ≤ n.b ∧ n.b.toNat < ahead.length) : Ok0 Tryz.prog 120 [(pS tNode).enc n, (pL tI64).enc ahead] ((.one (.pv (.sc (.int .i64 (fieldF n (nth ahead n.a.toNat) (nth ahead n.b.toNat))))), [], 0) : RES).1 ((.one (.pv (.sc (.int .i64 (fieldF n (nth ahead n.a.toNat) (nth ahead n.b.toNat))))), [], 0) : RES).2.1 ((.one (.pv (.sc (.int .i64 (fieldF n (nth ahead n.a.toNat) (nth ahead n.b.toNat))))), [], 0) : RES).2.2 := by
  refine go120 n ahead fun w Xs => ?_
  have hw : n.op = 6 → widF n ahead = IntKind.i64.wrap (IntKind.i64.wrap (nth ahead n.a.toNat + nth ahead n.b.toNat) - n.col) := fun h => by simp [widF, h]
  (repeat' (first | (refine And.intro ?_ ?_) | (refine if_go (fun q => ?_) (fun q => ?_))))
  all_goals first
    | omega
    | (exact fun _ _ _ => p1 (by omega))
    | (exact fun _ => p2 (by omega))
    | (simp only [fieldF]; (repeat' split) <;> first | rfl | (exfalso; omega))
    | (simp only [fieldF, hw (by assumption)]; (repeat' split) <;> first | rfl | (exfalso; omega))
    | (refine Eq.subst (motive := fun z => G120_0 w Xs n ahead 0 (rI z)) ?_ (lm_fault n ahead (by omega) (p1 (by omega)) n.cells.length 0 rfl)
       refine Eq.symm ?_; simp only [fieldF]; (repeat' (refine ite_go (fun q => ?_) (fun q => ?_))) <;> first | rfl | (exfalso; omega))
theorem s120 {I : Ops} (hI : I = real) {e : En} (he : e = en120) : Sound Tryz.prog 120 (callE I e sh120) := by
  refine Sound.mkE ent120 hI (fun _ => rfl) ?_ he
  rintro ⟨n, ahead, ⟨⟩⟩ hp
  have hp : (decide (1 ≤ n.op ∧ n.op ≤ 12) && decide (n.op ≠ 1 → 0 ≤ n.a ∧ n.a.toNat < ahead.length) && decide (n.op = 4 ∨ n.op = 6 → 0 ≤ n.b ∧ n.b.toNat < ahead.length)) = true := hp
  try simp only [Bool.and_eq_true, decide_eq_true_eq] at hp
  obtain ⟨⟨p0, p1⟩, p2⟩ := hp
  exact ok120 n ahead p0 p1 p2
end Go.Proofs.Tryz
