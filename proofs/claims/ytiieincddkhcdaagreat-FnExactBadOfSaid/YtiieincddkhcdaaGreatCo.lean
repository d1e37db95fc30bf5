/- Contracts. -/
import Derived.Test.YtiieincddkhcdaaGreatCm
set_option linter.unusedSimpArgs false
set_option linter.unusedVariables false
namespace Go.Proofs.Tryz
open Go Go.Aix
set_option maxRecDepth 100000
set_option maxHeartbeats 4000000
def idxP {α : Type} (q : α → Bool) : List α → Nat → List Int
  | [], _ => []
  | x :: r, i => if q x = true then (i : Int) :: idxP q r (i + 1) else idxP q r (i + 1)
theorem idxP_len {α : Type} (q : α → Bool) : ∀ (l : List α) (i : Nat), (idxP q l i).length ≤ l.length
  | [], i => Nat.le_refl _
  | x :: r, i => by
    have := idxP_len q r (i + 1)
    unfold idxP
    split <;> simp <;> omega
def resL (c : Int) (l : List Int) : RES := (.ag [.pv (.sc (.int .i64 c)), .arr 0 0 l.length], [(0, .row 1 (tI64.encs l))], 1)
def resN (c : Int) : RES := (.ag [.pv (.sc (.int .i64 c)), .pv .nl], [], 0)
def fullP (most : Int) (l : LinkV) : Bool := decide (most < (l.frames.length : Int))
def fullC (c : CluV) (most : Int) : Int := if cluF c = 0 then (if 0 ≤ most ∧ most ≤ 60 then 0 else 3) else cluF c
def fullL (c : CluV) (most : Int) : List Int := idxP (fullP most) c.links 0
def badP (w : WorkerV) : Bool := w.bad
def badL (c : CluV) : List Int := idxP badP c.workers 0
def emB (v : Int) (l : List Int) : Bool := decide (v ≠ 0) || decide (l = [])
def an31 : An (CluV × Int × Unit) where
  pre t := (bClu t.1)
  i _ t := fullC t.1 t.2.1
  b _ t := (emB (fullC t.1 t.2.1) (fullL t.1 t.2.1))
  l _ t := (tI64.encs (fullL t.1 t.2.1))
noncomputable def en31 : En := mkE (parsC (pS tClu) (parsC pI pars0)) an31
attribute [simp] en31 an31
def an32 : An (CluV × Int × Unit) where
  pre t := (bClu t.1)
  i _ t := fullC t.1 t.2.1
  b _ t := (decide (fullC t.1 t.2.1 ≠ 0))
  l _ t := (tI64.encs (fullL t.1 t.2.1))
noncomputable def en32 : En := mkE (parsC (pS tClu) (parsC pI pars0)) an32
attribute [simp] en32 an32
theorem ent20 : Enters Tryz.prog 20 := ⟨Tryz.f20, Tryz.func20, by kernel_rfl, by kernel_rfl⟩
abbrev G20_0 (w : World) (Xs : Nat → Prop) (b0_0 : List NodeV) (b0_1 : List WorkerV) (b0_2 : List LinkV) (b1_0 : Int) (b2_0 : Int) (i : Int) (r : RES) : Prop := WL [1, 2, 4, 5] Tryz.prog 20 Tryz.f20 (Ent0 w Xs) (Back (Ent0 w Xs) r.1 r.2.1 r.2.2) (place (bodyOf Tryz.f20) [1,1,1,0,1,0,0] [])
  ⟨[(1, .one (.ptr 0 0 0)), (2, .one (.ptr 1 0 0)), (4, .one (.ptr 2 0 0)), (5, .one (.pv (.sc (.int .i64 i))))], [(0, .box [.pv (.sl false 7 (tNode.encs b0_0)), .pv (.sl false 7 (tWorker.encs b0_1)), .pv (.sl false 1 (tLink.encs b0_2))]), (1, .box [.pv (.sc (.int .i64 b1_0)), .pv .nl]), (2, .box [.pv (.sc (.int .i64 b2_0)), .pv .nl])], 3⟩
abbrev G20_1 (w : World) (Xs : Nat → Prop) (r3 : List Int) (b0_0' : List NodeV) (b0_1' : List WorkerV) (b0_2' : List LinkV) (b1_0' : Int) (b2_0' : Int) (i' : Int) (r : RES) : Prop := WL [1, 2, 4, 5] Tryz.prog 20 Tryz.f20 (Ent0 w Xs) (Back (Ent0 w Xs) r.1 r.2.1 r.2.2) (place (bodyOf Tryz.f20) [1,1,1,0,1,0,0] [])
  ⟨[(1, .one (.ptr 0 0 0)), (2, .one (.ptr 1 0 0)), (4, .one (.ptr 2 0 0)), (5, .one (.pv (.sc (.int .i64 i'))))], [(0, .box [.pv (.sl false 7 (tNode.encs b0_0')), .pv (.sl false 7 (tWorker.encs b0_1')), .pv (.sl false 1 (tLink.encs b0_2'))]), (1, .box [.pv (.sc (.int .i64 b1_0')), .pv .nl]), (2, .box [.pv (.sc (.int .i64 b2_0')), .arr 3 0 r3.length]), (3, .row 1 (tI64.encs r3))], 4⟩
noncomputable def Y20 (I : Ops) (K : FuncId → En) : CallsA := (Tab.calls [(41, true, callRd I (callE I (K 41) sh41))])
theorem tY20 {I : Ops} (hI : I = real) {K : FuncId → En} (k41 : K 41 = en41) : CallsOk Tryz.prog (Y20 I K) := (TabOk.calls mixed ⟨EntryOk.rd (s41 hI k41) hI, fun _ => callRd_quiet _ _, trivial⟩)
theorem st20_0 {w : World} {Xs : Nat → Prop} (b0_0 : List NodeV) (b0_1 : List WorkerV) (b0_2 : List LinkV) (b1_0 : Int) (b2_0 : Int) (i : Int) {r : RES} (h : (if i < (b0_1.length : Int) then ((0 ≤ i ∧ i < (b0_1.length : Int)) ∧ (if (nth b0_1 i.toNat).bad = true then G20_1 w Xs ([i]) b0_0 b0_1 b0_2 b1_0 b2_0 (IntKind.i64.wrap (i + 1)) r else G20_0 w Xs b0_0 b0_1 b0_2 b1_0 b2_0 (IntKind.i64.wrap (i + 1)) r)) else r = (.ag [.pv (.sc (.int .i64 b2_0)), .pv .nl], [], 0))) : G20_0 w Xs b0_0 b0_1 b0_2 b1_0 b2_0 i r := by
  obtain ⟨I, hI⟩ : ∃ I, I = real := ⟨_, rfl⟩; obtain ⟨K, k41⟩ : ∃ K : FuncId → En, K 41 = en41 := ⟨fun g => (lk g [(41, en41)]).getD default, rfl⟩
  unfold G20_0 WL
  obtain ⟨q0, hq0⟩ := eqv (tWorker.encs b0_1)
  try rw [← hq0]
  obtain ⟨q1, hq1⟩ := eqv (tNode.encs b0_0)
  try rw [← hq1]
  obtain ⟨q2, hq2⟩ := eqv (tLink.encs b0_2)
  try rw [← hq2]
  have hS := And.intro hI (And.intro k41 (And.intro hq0 (And.intro hq1 hq2)))
  refine W_go (Y := (Y20 I K)) xok (tY20 hI k41) Tryz.func20 rfl 2000 _ hI ?_; (conv => arg 4; cbv)
  exact fin
theorem st20_1 {w : World} {Xs : Nat → Prop} (r3 : List Int) (b0_0' : List NodeV) (b0_1' : List WorkerV) (b0_2' : List LinkV) (b1_0' : Int) (b2_0' : Int) (i' : Int) {r : RES} (h : (if i' < (b0_1'.length : Int) then ((0 ≤ i' ∧ i' < (b0_1'.length : Int)) ∧ (if (nth b0_1' i'.toNat).bad = true then (((r3.length + 1) ≤ 17592186044416) ∧ G20_1 w Xs (r3 ++ [i']) b0_0' b0_1' b0_2' b1_0' b2_0' (IntKind.i64.wrap (i' + 1)) r) else G20_1 w Xs r3 b0_0' b0_1' b0_2' b1_0' b2_0' (IntKind.i64.wrap (i' + 1)) r)) else r = (.ag [.pv (.sc (.int .i64 b2_0')), .arr 0 0 r3.length], [(0, .row 1 (tI64.encs r3))], 1))) : G20_1 w Xs r3 b0_0' b0_1' b0_2' b1_0' b2_0' i' r := by
  obtain ⟨I, hI⟩ : ∃ I, I = real := ⟨_, rfl⟩; obtain ⟨K, k41⟩ : ∃ K : FuncId → En, K 41 = en41 := ⟨fun g => (lk g [(41, en41)]).getD default, rfl⟩
  unfold G20_1 WL
  obtain ⟨q0, hq0⟩ := eqv (tWorker.encs b0_1')
  try rw [← hq0]
  obtain ⟨q1, hq1⟩ := eqv (tNode.encs b0_0')
  try rw [← hq1]
  obtain ⟨q2, hq2⟩ := eqv (tLink.encs b0_2')
  try rw [← hq2]
  obtain ⟨q3, hq3⟩ := eqv (tI64.encs r3)
  try rw [← hq3]
  obtain ⟨q4, hq4⟩ := eqv r3.length
  try rw [← hq4]
  have hS := And.intro hI (And.intro k41 (And.intro hq0 (And.intro hq1 (And.intro hq2 (And.intro hq3 hq4)))))
  refine W_go (Y := (Y20 I K)) xok (tY20 hI k41) Tryz.func20 rfl 2000 _ hI ?_; (conv => arg 4; cbv)
  exact fin
theorem go20 (c : CluV) {r : RES} (h : ∀ (w : World) (Xs : Nat → Prop), (((bClu c) = true) ∧ (if cluF c = 0 then G20_0 w Xs c.plan c.workers c.links 0 0 0 r else r = (.ag [.pv (.sc (.int .i64 (cluF c))), .pv .nl], [], 0)))) : Ok0 Tryz.prog 20 [(pS tClu).enc c] r.1 r.2.1 r.2.2 := by
  obtain ⟨I, hI⟩ : ∃ I, I = real := ⟨_, rfl⟩; obtain ⟨K, k41⟩ : ∃ K : FuncId → En, K 41 = en41 := ⟨fun g => (lk g [(41, en41)]).getD default, rfl⟩
  show Ok0 Tryz.prog 20 [.ag [.pv (.sl false 7 (tNode.encs c.plan)), .pv (.sl false 7 (tWorker.encs c.workers)), .pv (.sl false 1 (tLink.encs c.links))]] _ _ _
  obtain ⟨q0, hq0⟩ := eqv (tWorker.encs c.workers)
  try rw [← hq0]
  obtain ⟨q1, hq1⟩ := eqv (tLink.encs c.links)
  try rw [← hq1]
  obtain ⟨q2, hq2⟩ := eqv (tNode.encs c.plan)
  try rw [← hq2]
  have hS := And.intro hI (And.intro k41 (And.intro hq0 (And.intro hq1 hq2)))
  refine Ok0_run (Y := (Y20 I K)) xok (tY20 hI k41) Tryz.func20 rfl rfl rfl 2000 hI fun w Xs => ?_; (conv => arg 4; cbv)
  replace h := h w Xs
  exact fin
theorem lb20 {w : World} {Xs : Nat → Prop} (b0_0' : List NodeV) (b0_1' : List WorkerV) (b0_2' : List LinkV) (b1_0' : Int) (b2_0' : Int) (hl : b0_1'.length ≤ 1000) : ∀ (k i : Nat) (acc : List Int), k + i = b0_1'.length → acc.length ≤ i → G20_1 w Xs (acc) b0_0' b0_1' b0_2' b1_0' b2_0' i (resL b2_0' (acc ++ idxP (badP) (b0_1'.drop i) i)) := by
  intro k
  induction k with
  | zero =>
    intro i acc hk ha
    apply st20_1
    rw [if_neg (by omega), drop_nil (l := b0_1') (by omega)]
    simp [idxP, resL]
  | succ k ih =>
    intro i acc hk ha
    apply st20_1
    rw [if_pos (by omega), wsucc (by omega), Int.toNat_natCast, nth_drop (l := b0_1') (i := i) (by omega), idxP]
    refine ⟨by omega, if_go (fun q => ?_) (fun q => ?_)⟩
    · rw [if_pos (by simpa [badP] using q)]
      have := ih (i + 1) (acc ++ [(i : Int)]) (by omega) (by simp; omega)
      rw [List.append_assoc] at this
      exact ⟨by omega, this⟩
    · rw [if_neg (by simpa [badP] using q)]
      exact ih (i + 1) acc (by omega) (by omega)
theorem la20 {w : World} {Xs : Nat → Prop} (b0_0 : List NodeV) (b0_1 : List WorkerV) (b0_2 : List LinkV) (b1_0 : Int) (b2_0 : Int) (hl : b0_1.length ≤ 1000) : ∀ k i : Nat, k + i = b0_1.length → G20_0 w Xs b0_0 b0_1 b0_2 b1_0 b2_0 i (if idxP (badP) (b0_1.drop i) i = [] then resN b2_0 else resL b2_0 (idxP (badP) (b0_1.drop i) i)) := by
  intro k
  induction k with
  | zero =>
    intro i hk
    apply st20_0
    rw [if_neg (by omega), drop_nil (l := b0_1) (by omega)]
    rfl
  | succ k ih =>
    intro i hk
    apply st20_0
    rw [if_pos (by omega), wsucc (by omega), Int.toNat_natCast, nth_drop (l := b0_1) (i := i) (by omega)]
    refine ⟨by omega, if_go (fun q => ?_) (fun q => ?_)⟩
    · have hq : (badP) (nth b0_1 i) = true := by simpa [badP] using q
      have e : idxP (badP) (nth b0_1 i :: b0_1.drop (i + 1)) i = (i : Int) :: idxP (badP) (b0_1.drop (i + 1)) (i + 1) := by rw [idxP, if_pos hq]
      rw [e, if_neg (by simp)]
      have := lb20 (w := w) (Xs := Xs) b0_0 b0_1 b0_2 b1_0 b2_0 hl k (i + 1) [(i : Int)] (by omega) (by simp)
      exact this
    · have hq : ¬ (badP) (nth b0_1 i) = true := by simpa [badP] using q
      have e : idxP (badP) (nth b0_1 i :: b0_1.drop (i + 1)) i = idxP (badP) (b0_1.drop (i + 1)) (i + 1) := by rw [idxP, if_neg hq]
      rw [e]
      exact ih (i + 1) (by omega)
def sh20 : Shp := fun I i b l s => .ask (b 0) fun t => match t with | true => .ok (.ag [.pv (.sc (.int .i64 (i 0))), .pv .nl], [], 0) | false => .ok (.ag [.pv (.sc (.int .i64 0)), .arr 0 0 (I.len (l 0))], [(0, .row 1 (l 0))], 1)
def an20 : An (CluV × Unit) where
  pre t := (bClu t.1)
  i _ t := cluF t.1
  b _ t := (emB (cluF t.1) (badL t.1))
  l _ t := (tI64.encs (badL t.1))
noncomputable def en20 : En := mkE (parsC (pS tClu) pars0) an20
attribute [simp] en20 an20
theorem ok20 (c : CluV) (p0 : bClu c = true) : Ok0 Tryz.prog 20 [(pS tClu).enc c] (if (emB (cluF c) (badL c)) = true then ((.ag [.pv (.sc (.int .i64 (cluF c))), .pv .nl], [], 0) : RES) else ((.ag [.pv (.sc (.int .i64 0)), .arr 0 0 (badL c).length], [(0, .row 1 (tI64.encs (badL c)))], 1) : RES) : RES).1 (if (emB (cluF c) (badL c)) = true then ((.ag [.pv (.sc (.int .i64 (cluF c))), .pv .nl], [], 0) : RES) else ((.ag [.pv (.sc (.int .i64 0)), .arr 0 0 (badL c).length], [(0, .row 1 (tI64.encs (badL c)))], 1) : RES) : RES).2.1 (if (emB (cluF c) (badL c)) = true then ((.ag [.pv (.sc (.int .i64 (cluF c))), .pv .nl], [], 0) : RES) else ((.ag [.pv (.sc (.int .i64 0)), .arr 0 0 (badL c).length], [(0, .row 1 (tI64.encs (badL c)))], 1) : RES) : RES).2.2 := by
  by_cases hq : cluF c = 0
  · obtain ⟨_, h3, h9, _, _⟩ := cluF_ok hq
    have hgo : ∀ r : RES, r = (if badL c = [] then resN 0 else resL 0 (badL c)) → Ok0 Tryz.prog 20 [(pS tClu).enc c] r.1 r.2.1 r.2.2 := by
      intro r hr
      refine go20 c fun w Xs => ⟨p0, ?_⟩
      rw [if_pos hq, hr]
      have := la20 (w := w) (Xs := Xs) c.plan c.workers c.links 0 0 (by omega) c.workers.length 0 rfl
      exact this
    by_cases hL : badL c = []
    · rw [if_pos (by simp [emB, hL]), hq]; exact hgo _ (by rw [if_pos hL]; rfl)
    · rw [if_neg (by simp [emB, hL, hq])]; exact hgo _ (by rw [if_neg hL]; rfl)
  · rw [if_pos (by simp [emB, hq])]
    refine go20 c fun w Xs => ⟨p0, ?_⟩
    rw [if_neg hq]
theorem s20 {I : Ops} (hI : I = real) {e : En} (he : e = en20) : Sound Tryz.prog 20 (callE I e sh20) := by
  refine Sound.mkR ent20 hI ?_ he
  rintro ⟨c, ⟨⟩⟩ hp r σ n e
  have hp : ((bClu c)) = true := hp
  try simp only [Bool.and_eq_true, decide_eq_true_eq] at hp
  have p0 := hp
  have e : (R.ok (if (emB (cluF c) (badL c)) = true then ((.ag [.pv (.sc (.int .i64 (cluF c))), .pv .nl], [], 0) : RES) else ((.ag [.pv (.sc (.int .i64 0)), .arr 0 0 (badL c).length], [(0, .row 1 (tI64.encs (badL c)))], 1) : RES) : RES) : R RES).val = some (r, σ, n) := by
    rw [← e]
    cases hb : ((emB (cluF c) (badL c)) : Bool) <;> (try simp at hb) <;> simp [sh20, an20, hb, val_ask]
  have k := ok20 c p0
  rw [Option.some.inj e] at k
  exact k
theorem ent21 : Enters Tryz.prog 21 := ⟨Tryz.f21, Tryz.func21, by kernel_rfl, by kernel_rfl⟩
abbrev G21_0 (w : World) (Xs : Nat → Prop) (c : CluV) (r1 : List Int) (b0_0 : Int) (x17 : Int) (r : RES) : Prop := WL [2, 4, 15, 16, 17] Tryz.prog 21 Tryz.f21 (Ent0 w Xs) (Back (Ent0 w Xs) r.1 r.2.1 r.2.2) (place (bodyOf Tryz.f21) [1,1,1,0,1,0,0] [])
  ⟨[(2, .one (.ptr 0 0 0)), (4, .one (.arr 1 0 r1.length)), (15, .one (.pv (.sl false 7 (tWorker.encs c.workers)))), (16, .one (.pv (.sc (.int .i64 (c.workers.length : Int))))), (17, .one (.pv (.sc (.int .i64 x17))))], [(0, .box [.pv (.sc (.int .i64 b0_0)), .pv .nl]), (1, .row 1 (tI64.encs r1))], 2⟩
noncomputable def Y21 (I : Ops) (K : FuncId → En) : CallsA := (Tab.calls [(46, true, callRd I (callE I (K 46) sh46))])
theorem tY21 {I : Ops} (hI : I = real) {K : FuncId → En} (k46 : K 46 = en46) : CallsOk Tryz.prog (Y21 I K) := (TabOk.calls mixed ⟨EntryOk.rd (s46 hI k46) hI, fun _ => callRd_quiet _ _, trivial⟩)
theorem st21_0 {w : World} {Xs : Nat → Prop} (c : CluV) (r1 : List Int) (b0_0 : Int) (x17 : Int) {r : RES} (h : (if x17 < (c.workers.length : Int) then ((0 ≤ x17 ∧ x17 < (c.workers.length : Int)) ∧ (if (nth c.workers x17.toNat).bad = true then (((r1.length + 1) ≤ 17592186044416) ∧ G21_0 w Xs c (r1 ++ [x17]) b0_0 (IntKind.i64.wrap (x17 + 1)) r) else G21_0 w Xs c r1 b0_0 (IntKind.i64.wrap (x17 + 1)) r)) else r = (.ag [.pv (.sc (.int .i64 0)), .arr 0 0 r1.length], [(0, .row 1 (tI64.encs r1))], 1))) : G21_0 w Xs c r1 b0_0 x17 r := by
  obtain ⟨I, hI⟩ : ∃ I, I = real := ⟨_, rfl⟩; obtain ⟨K, k46⟩ : ∃ K : FuncId → En, K 46 = en46 := ⟨fun g => (lk g [(46, en46)]).getD default, rfl⟩
  unfold G21_0 WL
  obtain ⟨q0, hq0⟩ := eqv (tWorker.encs c.workers)
  try rw [← hq0]
  obtain ⟨q1, hq1⟩ := eqv (c.workers.length : Int)
  try rw [← hq1]
  obtain ⟨q2, hq2⟩ := eqv (tI64.encs r1)
  try rw [← hq2]
  obtain ⟨q3, hq3⟩ := eqv r1.length
  try rw [← hq3]
  have hS := And.intro hI (And.intro k46 (And.intro hq0 (And.intro hq1 (And.intro hq2 hq3))))
  refine W_go (Y := (Y21 I K)) xok (tY21 hI k46) Tryz.func21 rfl 2000 _ hI ?_; (conv => arg 4; cbv)
  exact fin
theorem go21 (c : CluV) {r : RES} (h : ∀ (w : World) (Xs : Nat → Prop), (((bClu c) = true) ∧ (if cluF c = 0 then G21_0 w Xs c ([]) 0 0 r else r = (.ag [.pv (.sc (.int .i64 (cluF c))), .pv .nl], [], 0)))) : Ok0 Tryz.prog 21 [(pS tClu).enc c] r.1 r.2.1 r.2.2 := by
  obtain ⟨I, hI⟩ : ∃ I, I = real := ⟨_, rfl⟩; obtain ⟨K, k46⟩ : ∃ K : FuncId → En, K 46 = en46 := ⟨fun g => (lk g [(46, en46)]).getD default, rfl⟩
  show Ok0 Tryz.prog 21 [.ag [.pv (.sl false 7 (tNode.encs c.plan)), .pv (.sl false 7 (tWorker.encs c.workers)), .pv (.sl false 1 (tLink.encs c.links))]] _ _ _
  obtain ⟨q0, hq0⟩ := eqv (tWorker.encs c.workers)
  try rw [← hq0]
  obtain ⟨q1, hq1⟩ := eqv (tLink.encs c.links)
  try rw [← hq1]
  obtain ⟨q2, hq2⟩ := eqv (tNode.encs c.plan)
  try rw [← hq2]
  have hS := And.intro hI (And.intro k46 (And.intro hq0 (And.intro hq1 hq2)))
  refine Ok0_run (Y := (Y21 I K)) xok (tY21 hI k46) Tryz.func21 rfl rfl rfl 2000 hI fun w Xs => ?_; (conv => arg 4; cbv)
  replace h := h w Xs
  exact fin
theorem lm21 {w : World} {Xs : Nat → Prop} (c : CluV) (b0_0 : Int) (hl : c.workers.length ≤ 1000) : ∀ (k i : Nat) (acc : List Int), k + i = c.workers.length → acc.length ≤ i → G21_0 w Xs c (acc) b0_0 i (resL 0 (acc ++ idxP (badP) (c.workers.drop i) i)) := by
  intro k
  induction k with
  | zero =>
    intro i acc hk ha
    apply st21_0
    rw [if_neg (by omega), drop_nil (l := c.workers) (by omega)]
    simp [idxP, resL]
  | succ k ih =>
    intro i acc hk ha
    apply st21_0
    rw [if_pos (by omega), wsucc (by omega), Int.toNat_natCast, nth_drop (l := c.workers) (i := i) (by omega), idxP]
    refine ⟨by omega, if_go (fun q => ?_) (fun q => ?_)⟩
    · rw [if_pos (by simpa [badP] using q)]
      have := ih (i + 1) (acc ++ [(i : Int)]) (by omega) (by simp; omega)
      rw [List.append_assoc] at this
      exact ⟨by omega, this⟩
    · rw [if_neg (by simpa [badP] using q)]
      exact ih (i + 1) acc (by omega) (by omega)
def sh21 : Shp := fun I i b l s => .ask (b 0) fun t => match t with | true => .ok (.ag [.pv (.sc (.int .i64 (i 0))), .pv .nl], [], 0) | false => .ok (.ag [.pv (.sc (.int .i64 0)), .arr 0 0 (I.len (l 0))], [(0, .row 1 (l 0))], 1)
def an21 : An (CluV × Unit) where
  pre t := (bClu t.1)
  i _ t := cluF t.1
  b _ t := (decide (cluF t.1 ≠ 0))
  l _ t := (tI64.encs (badL t.1))
noncomputable def en21 : En := mkE (parsC (pS tClu) pars0) an21
attribute [simp] en21 an21
theorem ok21 (c : CluV) (p0 : bClu c = true) : Ok0 Tryz.prog 21 [(pS tClu).enc c] (if (decide (cluF c ≠ 0)) = true then ((.ag [.pv (.sc (.int .i64 (cluF c))), .pv .nl], [], 0) : RES) else ((.ag [.pv (.sc (.int .i64 0)), .arr 0 0 (badL c).length], [(0, .row 1 (tI64.encs (badL c)))], 1) : RES) : RES).1 (if (decide (cluF c ≠ 0)) = true then ((.ag [.pv (.sc (.int .i64 (cluF c))), .pv .nl], [], 0) : RES) else ((.ag [.pv (.sc (.int .i64 0)), .arr 0 0 (badL c).length], [(0, .row 1 (tI64.encs (badL c)))], 1) : RES) : RES).2.1 (if (decide (cluF c ≠ 0)) = true then ((.ag [.pv (.sc (.int .i64 (cluF c))), .pv .nl], [], 0) : RES) else ((.ag [.pv (.sc (.int .i64 0)), .arr 0 0 (badL c).length], [(0, .row 1 (tI64.encs (badL c)))], 1) : RES) : RES).2.2 := by
  by_cases hq : cluF c = 0
  · obtain ⟨_, h3, h9, _, _⟩ := cluF_ok hq
    have hgo : ∀ r : RES, r = resL 0 (badL c) → Ok0 Tryz.prog 21 [(pS tClu).enc c] r.1 r.2.1 r.2.2 := by
      intro r hr
      refine go21 c fun w Xs => ⟨p0, ?_⟩
      rw [if_pos hq, hr]
      have := lm21 (w := w) (Xs := Xs) c 0 (by omega) c.workers.length 0 [] rfl (by simp)
      exact this
    skip
    rw [if_neg (by simp [hq])]; exact hgo _ rfl
    skip
  · rw [if_pos (by simp [emB, hq])]
    refine go21 c fun w Xs => ⟨p0, ?_⟩
    rw [if_neg hq]
theorem s21 {I : Ops} (hI : I = real) {e : En} (he : e = en21) : Sound Tryz.prog 21 (callE I e sh21) := by
  refine Sound.mkR ent21 hI ?_ he
  rintro ⟨c, ⟨⟩⟩ hp r σ n e
  have hp : ((bClu c)) = true := hp
  try simp only [Bool.and_eq_true, decide_eq_true_eq] at hp
  have p0 := hp
  have e : (R.ok (if (decide (cluF c ≠ 0)) = true then ((.ag [.pv (.sc (.int .i64 (cluF c))), .pv .nl], [], 0) : RES) else ((.ag [.pv (.sc (.int .i64 0)), .arr 0 0 (badL c).length], [(0, .row 1 (tI64.encs (badL c)))], 1) : RES) : RES) : R RES).val = some (r, σ, n) := by
    rw [← e]
    cases hb : ((decide (cluF c ≠ 0)) : Bool) <;> (try simp at hb) <;> simp [sh21, an21, hb, val_ask]
  have k := ok21 c p0
  rw [Option.some.inj e] at k
  exact k
end Go.Proofs.Tryz
