/- Contracts. -/
import Derived.Test.YtiieincddkhcdaaGreatCm
set_option linter.unusedSimpArgs false
set_option linter.unusedVariables false
namespace Go.Proofs.Tryz
open Go Go.Aix
set_option maxRecDepth 100000
set_option maxHeartbeats 4000000
def idxP {α : Type} (q : α → Bool) : List α → Nat → List Int
  | [], _ => []
  | x :: r, i => if q x = true then (i : Int) :: idxP q r (i + 1) else idxP q r (i + 1)
theorem idxP_len {α : Type} (q : α → Bool) : ∀ (l : List α) (i : Nat), (idxP q l i).length ≤ l.length
  | [], i => Nat.le_refl _
  | x :: r, i => by
    have := idxP_len q r (i + 1)
    unfold idxP
    split <;> simp <;> omega
def resL (c : Int) (l : List Int) : RES := (.ag [.pv (.sc (.int .i64 c)), .arr 0 0 l.length], [(0, .row 1 (tI64.encs l))], 1)
def resN (c : Int) : RES := (.ag [.pv (.sc (.int .i64 c)), .pv .nl], [], 0)
def fullP (most : Int) (l : LinkV) : Bool := decide (most < (l.frames.length : Int))
def fullC (c : CluV) (most : Int) : Int := if cluF c = 0 then (if 0 ≤ most ∧ most ≤ 60 then 0 else 3) else cluF c
def fullL (c : CluV) (most : Int) : List Int := idxP (fullP most) c.links 0
def badP (w : WorkerV) : Bool := w.bad
def badL (c : CluV) : List Int := idxP badP c.workers 0
def emB (v : Int) (l : List Int) : Bool := decide (v ≠ 0) || decide (l = [])
theorem ent31 : Enters Tryz.prog 31 := ⟨Tryz.f31, Tryz.func31, by kernel_rfl, by kernel_rfl⟩
abbrev G31_0 (w : World) (Xs : Nat → Prop) (most : Int) (b0_0 : List NodeV) (b0_1 : List WorkerV) (b0_2 : List LinkV) (b1_0 : Int) (b2_0 : Int) (i : Int) (r : RES) : Prop := WL [1, 2, 4, 6, 7] Tryz.prog 31 Tryz.f31 (Ent0 w Xs) (Back (Ent0 w Xs) r.1 r.2.1 r.2.2) (place (bodyOf Tryz.f31) [1,1,1,1,0,1,0,0] [])
  ⟨[(1, .one (.pv (.sc (.int .i64 most)))), (2, .one (.ptr 0 0 0)), (4, .one (.ptr 1 0 0)), (6, .one (.ptr 2 0 0)), (7, .one (.pv (.sc (.int .i64 i))))], [(0, .box [.pv (.sl false 7 (tNode.encs b0_0)), .pv (.sl false 7 (tWorker.encs b0_1)), .pv (.sl false 1 (tLink.encs b0_2))]), (1, .box [.pv (.sc (.int .i64 b1_0)), .pv .nl]), (2, .box [.pv (.sc (.int .i64 b2_0)), .pv .nl])], 3⟩
abbrev G31_1 (w : World) (Xs : Nat → Prop) (most : Int) (r3 : List Int) (b0_0' : List NodeV) (b0_1' : List WorkerV) (b0_2' : List LinkV) (b1_0' : Int) (b2_0' : Int) (i' : Int) (r : RES) : Prop := WL [1, 2, 4, 6, 7] Tryz.prog 31 Tryz.f31 (Ent0 w Xs) (Back (Ent0 w Xs) r.1 r.2.1 r.2.2) (place (bodyOf Tryz.f31) [1,1,1,1,0,1,0,0] [])
  ⟨[(1, .one (.pv (.sc (.int .i64 most)))), (2, .one (.ptr 0 0 0)), (4, .one (.ptr 1 0 0)), (6, .one (.ptr 2 0 0)), (7, .one (.pv (.sc (.int .i64 i'))))], [(0, .box [.pv (.sl false 7 (tNode.encs b0_0')), .pv (.sl false 7 (tWorker.encs b0_1')), .pv (.sl false 1 (tLink.encs b0_2'))]), (1, .box [.pv (.sc (.int .i64 b1_0')), .pv .nl]), (2, .box [.pv (.sc (.int .i64 b2_0')), .arr 3 0 r3.length]), (3, .row 1 (tI64.encs r3))], 4⟩
noncomputable def Y31 (I : Ops) (K : FuncId → En) : CallsA := (Tab.calls [(41, true, callRd I (callE I (K 41) sh41)), (42, true, callRd I (inl X I (Tab.calls []) Tryz.f42))])
theorem tY31 {I : Ops} (hI : I = real) {K : FuncId → En} (k41 : K 41 = en41) : CallsOk Tryz.prog (Y31 I K) := (TabOk.calls mixed ⟨EntryOk.rd (s41 hI k41) hI, fun _ => callRd_quiet _ _, ⟨EntryOk.rd (s42 hI) hI, fun _ => callRd_quiet _ _, trivial⟩⟩)
theorem st31_0 {w : World} {Xs : Nat → Prop} (most : Int) (b0_0 : List NodeV) (b0_1 : List WorkerV) (b0_2 : List LinkV) (b1_0 : Int) (b2_0 : Int) (i : Int) {r : RES} (h : (if i < (b0_2.length : Int) then ((0 ≤ i ∧ i < (b0_2.length : Int)) ∧ (if most < (((nth b0_2 i.toNat).frames).length : Int) then G31_1 w Xs most ([i]) b0_0 b0_1 b0_2 b1_0 b2_0 (IntKind.i64.wrap (i + 1)) r else G31_0 w Xs most b0_0 b0_1 b0_2 b1_0 b2_0 (IntKind.i64.wrap (i + 1)) r)) else r = (.ag [.pv (.sc (.int .i64 b2_0)), .pv .nl], [], 0))) : G31_0 w Xs most b0_0 b0_1 b0_2 b1_0 b2_0 i r := by
  obtain ⟨I, hI⟩ : ∃ I, I = real := ⟨_, rfl⟩; obtain ⟨K, k41⟩ : ∃ K : FuncId → En, K 41 = en41 := ⟨fun g => (lk g [(41, en41)]).getD default, rfl⟩
  unfold G31_0 WL
  obtain ⟨q0, hq0⟩ := eqv (tWorker.encs b0_1)
  try rw [← hq0]
  obtain ⟨q1, hq1⟩ := eqv (tNode.encs b0_0)
  try rw [← hq1]
  obtain ⟨q2, hq2⟩ := eqv (tLink.encs b0_2)
  try rw [← hq2]
  have hS := And.intro hI (And.intro k41 (And.intro hq0 (And.intro hq1 hq2)))
  refine W_go (Y := (Y31 I K)) xok (tY31 hI k41) Tryz.func31 rfl 2000 _ hI ?_; (conv => arg 4; cbv)
  exact fin
theorem st31_1 {w : World} {Xs : Nat → Prop} (most : Int) (r3 : List Int) (b0_0' : List NodeV) (b0_1' : List WorkerV) (b0_2' : List LinkV) (b1_0' : Int) (b2_0' : Int) (i' : Int) {r : RES} (h : (if i' < (b0_2'.length : Int) then ((0 ≤ i' ∧ i' < (b0_2'.length : Int)) ∧ (if most < (((nth b0_2' i'.toNat).frames).length : Int) then (((r3.length + 1) ≤ 17592186044416) ∧ G31_1 w Xs most (r3 ++ [i']) b0_0' b0_1' b0_2' b1_0' b2_0' (IntKind.i64.wrap (i' + 1)) r) else G31_1 w Xs most r3 b0_0' b0_1' b0_2' b1_0' b2_0' (IntKind.i64.wrap (i' + 1)) r)) else r = (.ag [.pv (.sc (.int .i64 b2_0')), .arr 0 0 r3.length], [(0, .row 1 (tI64.encs r3))], 1))) : G31_1 w Xs most r3 b0_0' b0_1' b0_2' b1_0' b2_0' i' r := by
  obtain ⟨I, hI⟩ : ∃ I, I = real := ⟨_, rfl⟩; obtain ⟨K, k41⟩ : ∃ K : FuncId → En, K 41 = en41 := ⟨fun g => (lk g [(41, en41)]).getD default, rfl⟩
  unfold G31_1 WL
  obtain ⟨q0, hq0⟩ := eqv (tWorker.encs b0_1')
  try rw [← hq0]
  obtain ⟨q1, hq1⟩ := eqv (tNode.encs b0_0')
  try rw [← hq1]
  obtain ⟨q2, hq2⟩ := eqv (tLink.encs b0_2')
  try rw [← hq2]
  obtain ⟨q3, hq3⟩ := eqv (tI64.encs r3)
  try rw [← hq3]
  obtain ⟨q4, hq4⟩ := eqv r3.length
  try rw [← hq4]
  have hS := And.intro hI (And.intro k41 (And.intro hq0 (And.intro hq1 (And.intro hq2 (And.intro hq3 hq4)))))
  refine W_go (Y := (Y31 I K)) xok (tY31 hI k41) Tryz.func31 rfl 2000 _ hI ?_; (conv => arg 4; cbv)
  exact fin
theorem go31 (c : CluV) (most : Int) {r : RES} (h : ∀ (w : World) (Xs : Nat → Prop), (((bClu c) = true) ∧ (if cluF c = 0 then (if 0 ≤ most then (if most ≤ 60 then G31_0 w Xs most c.plan c.workers c.links 0 0 0 r else r = (.ag [.pv (.sc (.int .i64 3)), .pv .nl], [], 0)) else r = (.ag [.pv (.sc (.int .i64 3)), .pv .nl], [], 0)) else r = (.ag [.pv (.sc (.int .i64 (cluF c))), .pv .nl], [], 0)))) : Ok0 Tryz.prog 31 [(pS tClu).enc c, pI.enc most] r.1 r.2.1 r.2.2 := by
  obtain ⟨I, hI⟩ : ∃ I, I = real := ⟨_, rfl⟩; obtain ⟨K, k41⟩ : ∃ K : FuncId → En, K 41 = en41 := ⟨fun g => (lk g [(41, en41)]).getD default, rfl⟩
  show Ok0 Tryz.prog 31 [.ag [.pv (.sl false 7 (tNode.encs c.plan)), .pv (.sl false 7 (tWorker.encs c.workers)), .pv (.sl false 1 (tLink.encs c.links))], .one (.pv (.sc (.int .i64 most)))] _ _ _
  obtain ⟨q0, hq0⟩ := eqv (tWorker.encs c.workers)
  try rw [← hq0]
  obtain ⟨q1, hq1⟩ := eqv (tLink.encs c.links)
  try rw [← hq1]
  obtain ⟨q2, hq2⟩ := eqv (tNode.encs c.plan)
  try rw [← hq2]
  have hS := And.intro hI (And.intro k41 (And.intro hq0 (And.intro hq1 hq2)))
  refine Ok0_run (Y := (Y31 I K)) xok (tY31 hI k41) Tryz.func31 rfl rfl rfl 2000 hI fun w Xs => ?_; (conv => arg 4; cbv)
  replace h := h w Xs
  exact fin
theorem lb31 {w : World} {Xs : Nat → Prop} (most : Int) (b0_0' : List NodeV) (b0_1' : List WorkerV) (b0_2' : List LinkV) (b1_0' : Int) (b2_0' : Int) (hl : b0_2'.length ≤ 1000) : ∀ (k i : Nat) (acc : List Int), k + i = b0_2'.length → acc.length ≤ i → G31_1 w Xs most (acc) b0_0' b0_1' b0_2' b1_0' b2_0' i (resL b2_0' (acc ++ idxP (fullP most) (b0_2'.drop i) i)) := by
  intro k
  induction k with
  | zero =>
    intro i acc hk ha
    apply st31_1
    rw [if_neg (by omega), drop_nil (l := b0_2') (by omega)]
    simp [idxP, resL]
  | succ k ih =>
    intro i acc hk ha
    apply st31_1
    rw [if_pos (by omega), wsucc (by omega), Int.toNat_natCast, nth_drop (l := b0_2') (i := i) (by omega), idxP]
    refine ⟨by omega, if_go (fun q => ?_) (fun q => ?_)⟩
    · rw [if_pos (by simpa [fullP] using q)]
      have := ih (i + 1) (acc ++ [(i : Int)]) (by omega) (by simp; omega)
      rw [List.append_assoc] at this
      exact ⟨by omega, this⟩
    · rw [if_neg (by simpa [fullP] using q)]
      exact ih (i + 1) acc (by omega) (by omega)
theorem la31 {w : World} {Xs : Nat → Prop} (most : Int) (b0_0 : List NodeV) (b0_1 : List WorkerV) (b0_2 : List LinkV) (b1_0 : Int) (b2_0 : Int) (hl : b0_2.length ≤ 1000) : ∀ k i : Nat, k + i = b0_2.length → G31_0 w Xs most b0_0 b0_1 b0_2 b1_0 b2_0 i (if idxP (fullP most) (b0_2.drop i) i = [] then resN b2_0 else resL b2_0 (idxP (fullP most) (b0_2.drop i) i)) := by
  intro k
  induction k with
  | zero =>
    intro i hk
    apply st31_0
    rw [if_neg (by omega), drop_nil (l := b0_2) (by omega)]
    rfl
  | succ k ih =>
    intro i hk
    apply st31_0
    rw [if_pos (by omega), wsucc (by omega), Int.toNat_natCast, nth_drop (l := b0_2) (i := i) (by omega)]
    refine ⟨by omega, if_go (fun q => ?_) (fun q => ?_)⟩
    · have hq : (fullP most) (nth b0_2 i) = true := by simpa [fullP] using q
      have e : idxP (fullP most) (nth b0_2 i :: b0_2.drop (i + 1)) i = (i : Int) :: idxP (fullP most) (b0_2.drop (i + 1)) (i + 1) := by rw [idxP, if_pos hq]
      rw [e, if_neg (by simp)]
      have := lb31 (w := w) (Xs := Xs) most b0_0 b0_1 b0_2 b1_0 b2_0 hl k (i + 1) [(i : Int)] (by omega) (by simp)
      exact this
    · have hq : ¬ (fullP most) (nth b0_2 i) = true := by simpa [fullP] using q
      have e : idxP (fullP most) (nth b0_2 i :: b0_2.drop (i + 1)) i = idxP (fullP most) (b0_2.drop (i + 1)) (i + 1) := by rw [idxP, if_neg hq]
      rw [e]
      exact ih (i + 1) (by omega)
def sh31 : Shp := fun I i b l s => .ask (b 0) fun t => match t with | true => .ok (.ag [.pv (.sc (.int .i64 (i 0))), .pv .nl], [], 0) | false => .ok (.ag [.pv (.sc (.int .i64 0)), .arr 0 0 (I.len (l 0))], [(0, .row 1 (l 0))], 1)
def an31 : An (CluV × Int × Unit) where
  pre t := (bClu t.1)
  i _ t := fullC t.1 t.2.1
  b _ t := (emB (fullC t.1 t.2.1) (fullL t.1 t.2.1))
  l _ t := (tI64.encs (fullL t.1 t.2.1))
noncomputable def en31 : En := mkE (parsC (pS tClu) (parsC pI pars0)) an31
attribute [simp] en31 an31
theorem ok31 (c : CluV) (most : Int) (p0 : bClu c = true) : Ok0 Tryz.prog 31 [(pS tClu).enc c, pI.enc most] (if (emB (fullC c most) (fullL c most)) = true then ((.ag [.pv (.sc (.int .i64 (fullC c most))), .pv .nl], [], 0) : RES) else ((.ag [.pv (.sc (.int .i64 0)), .arr 0 0 (fullL c most).length], [(0, .row 1 (tI64.encs (fullL c most)))], 1) : RES) : RES).1 (if (emB (fullC c most) (fullL c most)) = true then ((.ag [.pv (.sc (.int .i64 (fullC c most))), .pv .nl], [], 0) : RES) else ((.ag [.pv (.sc (.int .i64 0)), .arr 0 0 (fullL c most).length], [(0, .row 1 (tI64.encs (fullL c most)))], 1) : RES) : RES).2.1 (if (emB (fullC c most) (fullL c most)) = true then ((.ag [.pv (.sc (.int .i64 (fullC c most))), .pv .nl], [], 0) : RES) else ((.ag [.pv (.sc (.int .i64 0)), .arr 0 0 (fullL c most).length], [(0, .row 1 (tI64.encs (fullL c most)))], 1) : RES) : RES).2.2 := by
  by_cases hq : cluF c = 0
  · obtain ⟨_, h3, h9, _, _⟩ := cluF_ok hq
    by_cases hm : 0 ≤ most ∧ most ≤ 60
    · have hC : fullC c most = 0 := by unfold fullC; rw [if_pos hq, if_pos hm]
      have hgo : ∀ r : RES, r = (if fullL c most = [] then resN 0 else resL 0 (fullL c most)) → Ok0 Tryz.prog 31 [(pS tClu).enc c, pI.enc most] r.1 r.2.1 r.2.2 := by
        intro r hr
        refine go31 c most fun w Xs => ⟨p0, ?_⟩
        rw [if_pos hq, if_pos hm.1, if_pos hm.2, hr]
        have := la31 (w := w) (Xs := Xs) most c.plan c.workers c.links 0 0 (by omega) c.links.length 0 rfl
        exact this
      by_cases hL : fullL c most = []
      · rw [if_pos (by simp [emB, hL]), hC]; exact hgo _ (by rw [if_pos hL]; rfl)
      · rw [if_neg (by simp [emB, hL, hC])]; exact hgo _ (by rw [if_neg hL]; rfl)
    · have hC : fullC c most = 3 := by unfold fullC; rw [if_pos hq, if_neg hm]
      rw [if_pos (by simp [emB, hC]), hC]
      refine go31 c most fun w Xs => ⟨p0, ?_⟩
      rw [if_pos hq]
      (repeat' (first | (refine And.intro ?_ ?_) | (refine if_go (fun q => ?_) (fun q => ?_))))
      all_goals first
        | omega
        | rfl
  · have hC : fullC c most = cluF c := by unfold fullC; rw [if_neg hq]
    rw [if_pos (by simp [emB, hC, hq]), hC]
    refine go31 c most fun w Xs => ⟨p0, ?_⟩
    rw [if_neg hq]
theorem s31 {I : Ops} (hI : I = real) {e : En} (he : e = en31) : Sound Tryz.prog 31 (callE I e sh31) := by
  refine Sound.mkR ent31 hI ?_ he
  rintro ⟨c, most, ⟨⟩⟩ hp r σ n e
  have hp : ((bClu c)) = true := hp
  try simp only [Bool.and_eq_true, decide_eq_true_eq] at hp
  have p0 := hp
  have e : (R.ok (if (emB (fullC c most) (fullL c most)) = true then ((.ag [.pv (.sc (.int .i64 (fullC c most))), .pv .nl], [], 0) : RES) else ((.ag [.pv (.sc (.int .i64 0)), .arr 0 0 (fullL c most).length], [(0, .row 1 (tI64.encs (fullL c most)))], 1) : RES) : RES) : R RES).val = some (r, σ, n) := by
    rw [← e]
    cases hb : ((emB (fullC c most) (fullL c most)) : Bool) <;> (try simp at hb) <;> simp [sh31, an31, hb, val_ask]
  have k := ok31 c most p0
  rw [Option.some.inj e] at k
  exact k
theorem ent66 : Enters Tryz.prog 66 := ⟨Tryz.f66, Tryz.func66, by kernel_rfl, by kernel_rfl⟩
theorem s66 {I : Ops} (hI : I = real)  : Sound Tryz.prog 66 (inl X I (Tab.calls []) Tryz.f66) :=
  Sound.inl (Y := (Tab.calls [])) xok (TabOk.calls mixed trivial) ent66 Tryz.func66 rfl rfl hI
theorem ent32 : Enters Tryz.prog 32 := ⟨Tryz.f32, Tryz.func32, by kernel_rfl, by kernel_rfl⟩
abbrev G32_0 (w : World) (Xs : Nat → Prop) (c : CluV) (most : Int) (r1 : List Int) (b0_0 : Int) (x23 : Int) (r : RES) : Prop := WL [1, 4, 6, 21, 22, 23] Tryz.prog 32 Tryz.f32 (Ent0 w Xs) (Back (Ent0 w Xs) r.1 r.2.1 r.2.2) (place (bodyOf Tryz.f32) [1,1,1,1,0,1,0,0] [])
  ⟨[(1, .one (.pv (.sc (.int .i64 most)))), (4, .one (.ptr 0 0 0)), (6, .one (.arr 1 0 r1.length)), (21, .one (.pv (.sl false 1 (tLink.encs c.links)))), (22, .one (.pv (.sc (.int .i64 (c.links.length : Int))))), (23, .one (.pv (.sc (.int .i64 x23))))], [(0, .box [.pv (.sc (.int .i64 b0_0)), .pv .nl]), (1, .row 1 (tI64.encs r1))], 2⟩
noncomputable def Y32 (I : Ops) (K : FuncId → En) : CallsA := (Tab.calls [(46, true, callRd I (callE I (K 46) sh46)), (47, true, callRd I (inl X I (Tab.calls []) Tryz.f47)), (66, true, callRd I (inl X I (Tab.calls []) Tryz.f66))])
theorem tY32 {I : Ops} (hI : I = real) {K : FuncId → En} (k46 : K 46 = en46) : CallsOk Tryz.prog (Y32 I K) := (TabOk.calls mixed ⟨EntryOk.rd (s46 hI k46) hI, fun _ => callRd_quiet _ _, ⟨EntryOk.rd (s47 hI) hI, fun _ => callRd_quiet _ _, ⟨EntryOk.rd (s66 hI) hI, fun _ => callRd_quiet _ _, trivial⟩⟩⟩)
theorem st32_0 {w : World} {Xs : Nat → Prop} (c : CluV) (most : Int) (r1 : List Int) (b0_0 : Int) (x23 : Int) {r : RES} (h : (if x23 < (c.links.length : Int) then ((0 ≤ x23 ∧ x23 < (c.links.length : Int)) ∧ (if most < (((nth c.links x23.toNat).frames).length : Int) then (((r1.length + 1) ≤ 17592186044416) ∧ G32_0 w Xs c most (r1 ++ [x23]) b0_0 (IntKind.i64.wrap (x23 + 1)) r) else G32_0 w Xs c most r1 b0_0 (IntKind.i64.wrap (x23 + 1)) r)) else r = (.ag [.pv (.sc (.int .i64 0)), .arr 0 0 r1.length], [(0, .row 1 (tI64.encs r1))], 1))) : G32_0 w Xs c most r1 b0_0 x23 r := by
  obtain ⟨I, hI⟩ : ∃ I, I = real := ⟨_, rfl⟩; obtain ⟨K, k46⟩ : ∃ K : FuncId → En, K 46 = en46 := ⟨fun g => (lk g [(46, en46)]).getD default, rfl⟩
  unfold G32_0 WL
  obtain ⟨q0, hq0⟩ := eqv (c.links.length : Int)
  try rw [← hq0]
  obtain ⟨q1, hq1⟩ := eqv (tLink.encs c.links)
  try rw [← hq1]
  obtain ⟨q2, hq2⟩ := eqv (tI64.encs r1)
  try rw [← hq2]
  obtain ⟨q3, hq3⟩ := eqv r1.length
  try rw [← hq3]
  have hS := And.intro hI (And.intro k46 (And.intro hq0 (And.intro hq1 (And.intro hq2 hq3))))
  refine W_go (Y := (Y32 I K)) xok (tY32 hI k46) Tryz.func32 rfl 2000 _ hI ?_; (conv => arg 4; cbv)
  exact fin
theorem go32 (c : CluV) (most : Int) {r : RES} (h : ∀ (w : World) (Xs : Nat → Prop), (((bClu c) = true) ∧ (if cluF c = 0 then (if 0 ≤ most then (if most ≤ 60 then G32_0 w Xs c most ([]) 0 0 r else r = (.ag [.pv (.sc (.int .i64 3)), .pv .nl], [], 0)) else r = (.ag [.pv (.sc (.int .i64 3)), .pv .nl], [], 0)) else r = (.ag [.pv (.sc (.int .i64 (cluF c))), .pv .nl], [], 0)))) : Ok0 Tryz.prog 32 [(pS tClu).enc c, pI.enc most] r.1 r.2.1 r.2.2 := by
  obtain ⟨I, hI⟩ : ∃ I, I = real := ⟨_, rfl⟩; obtain ⟨K, k46⟩ : ∃ K : FuncId → En, K 46 = en46 := ⟨fun g => (lk g [(46, en46)]).getD default, rfl⟩
  show Ok0 Tryz.prog 32 [.ag [.pv (.sl false 7 (tNode.encs c.plan)), .pv (.sl false 7 (tWorker.encs c.workers)), .pv (.sl false 1 (tLink.encs c.links))], .one (.pv (.sc (.int .i64 most)))] _ _ _
  obtain ⟨q0, hq0⟩ := eqv (tWorker.encs c.workers)
  try rw [← hq0]
  obtain ⟨q1, hq1⟩ := eqv (tLink.encs c.links)
  try rw [← hq1]
  obtain ⟨q2, hq2⟩ := eqv (tNode.encs c.plan)
  try rw [← hq2]
  have hS := And.intro hI (And.intro k46 (And.intro hq0 (And.intro hq1 hq2)))
  refine Ok0_run (Y := (Y32 I K)) xok (tY32 hI k46) Tryz.func32 rfl rfl rfl 2000 hI fun w Xs => ?_; (conv => arg 4; cbv)
  replace h := h w Xs
  exact fin
theorem lm32 {w : World} {Xs : Nat → Prop} (c : CluV) (most : Int) (b0_0 : Int) (hl : c.links.length ≤ 1000) : ∀ (k i : Nat) (acc : List Int), k + i = c.links.length → acc.length ≤ i → G32_0 w Xs c most (acc) b0_0 i (resL 0 (acc ++ idxP (fullP most) (c.links.drop i) i)) := by
  intro k
  induction k with
  | zero =>
    intro i acc hk ha
    apply st32_0
    rw [if_neg (by omega), drop_nil (l := c.links) (by omega)]
    simp [idxP, resL]
  | succ k ih =>
    intro i acc hk ha
    apply st32_0
    rw [if_pos (by omega), wsucc (by omega), Int.toNat_natCast, nth_drop (l := c.links) (i := i) (by omega), idxP]
    refine ⟨by omega, if_go (fun q => ?_) (fun q => ?_)⟩
    · rw [if_pos (by simpa [fullP] using q)]
      have := ih (i + 1) (acc ++ [(i : Int)]) (by omega) (by simp; omega)
      rw [List.append_assoc] at this
      exact ⟨by omega, this⟩
    · rw [if_neg (by simpa [fullP] using q)]
      exact ih (i + 1) acc (by omega) (by omega)
def sh32 : Shp := fun I i b l s => .ask (b 0) fun t => match t with | true => .ok (.ag [.pv (.sc (.int .i64 (i 0))), .pv .nl], [], 0) | false => .ok (.ag [.pv (.sc (.int .i64 0)), .arr 0 0 (I.len (l 0))], [(0, .row 1 (l 0))], 1)
def an32 : An (CluV × Int × Unit) where
  pre t := (bClu t.1)
  i _ t := fullC t.1 t.2.1
  b _ t := (decide (fullC t.1 t.2.1 ≠ 0))
  l _ t := (tI64.encs (fullL t.1 t.2.1))
noncomputable def en32 : En := mkE (parsC (pS tClu) (parsC pI pars0)) an32
attribute [simp] en32 an32
theorem ok32 (c : CluV) (most : Int) (p0 : bClu c = true) : Ok0 Tryz.prog 32 [(pS tClu).enc c, pI.enc most] (if (decide (fullC c most ≠ 0)) = true then ((.ag [.pv (.sc (.int .i64 (fullC c most))), .pv .nl], [], 0) : RES) else ((.ag [.pv (.sc (.int .i64 0)), .arr 0 0 (fullL c most).length], [(0, .row 1 (tI64.encs (fullL c most)))], 1) : RES) : RES).1 (if (decide (fullC c most ≠ 0)) = true then ((.ag [.pv (.sc (.int .i64 (fullC c most))), .pv .nl], [], 0) : RES) else ((.ag [.pv (.sc (.int .i64 0)), .arr 0 0 (fullL c most).length], [(0, .row 1 (tI64.encs (fullL c most)))], 1) : RES) : RES).2.1 (if (decide (fullC c most ≠ 0)) = true then ((.ag [.pv (.sc (.int .i64 (fullC c most))), .pv .nl], [], 0) : RES) else ((.ag [.pv (.sc (.int .i64 0)), .arr 0 0 (fullL c most).length], [(0, .row 1 (tI64.encs (fullL c most)))], 1) : RES) : RES).2.2 := by
  by_cases hq : cluF c = 0
  · obtain ⟨_, h3, h9, _, _⟩ := cluF_ok hq
    by_cases hm : 0 ≤ most ∧ most ≤ 60
    · have hC : fullC c most = 0 := by unfold fullC; rw [if_pos hq, if_pos hm]
      have hgo : ∀ r : RES, r = resL 0 (fullL c most) → Ok0 Tryz.prog 32 [(pS tClu).enc c, pI.enc most] r.1 r.2.1 r.2.2 := by
        intro r hr
        refine go32 c most fun w Xs => ⟨p0, ?_⟩
        rw [if_pos hq, if_pos hm.1, if_pos hm.2, hr]
        have := lm32 (w := w) (Xs := Xs) c most 0 (by omega) c.links.length 0 [] rfl (by simp)
        exact this
      skip
      rw [if_neg (by simp [hC])]; exact hgo _ rfl
      skip
    · have hC : fullC c most = 3 := by unfold fullC; rw [if_pos hq, if_neg hm]
      rw [if_pos (by simp [emB, hC]), hC]
      refine go32 c most fun w Xs => ⟨p0, ?_⟩
      rw [if_pos hq]
      (repeat' (first | (refine And.intro ?_ ?_) | (refine if_go (fun q => ?_) (fun q => ?_))))
      all_goals first
        | omega
        | rfl
  · have hC : fullC c most = cluF c := by unfold fullC; rw [if_neg hq]
    rw [if_pos (by simp [emB, hC, hq]), hC]
    refine go32 c most fun w Xs => ⟨p0, ?_⟩
    rw [if_neg hq]
theorem s32 {I : Ops} (hI : I = real) {e : En} (he : e = en32) : Sound Tryz.prog 32 (callE I e sh32) := by
  refine Sound.mkR ent32 hI ?_ he
  rintro ⟨c, most, ⟨⟩⟩ hp r σ n e
  have hp : ((bClu c)) = true := hp
  try simp only [Bool.and_eq_true, decide_eq_true_eq] at hp
  have p0 := hp
  have e : (R.ok (if (decide (fullC c most ≠ 0)) = true then ((.ag [.pv (.sc (.int .i64 (fullC c most))), .pv .nl], [], 0) : RES) else ((.ag [.pv (.sc (.int .i64 0)), .arr 0 0 (fullL c most).length], [(0, .row 1 (tI64.encs (fullL c most)))], 1) : RES) : RES) : R RES).val = some (r, σ, n) := by
    rw [← e]
    cases hb : ((decide (fullC c most ≠ 0)) : Bool) <;> (try simp at hb) <;> simp [sh32, an32, hb, val_ask]
  have k := ok32 c most p0
  rw [Option.some.inj e] at k
  exact k
abbrev G20_0 (w : World) (Xs : Nat → Prop) (b0_0 : List NodeV) (b0_1 : List WorkerV) (b0_2 : List LinkV) (b1_0 : Int) (b2_0 : Int) (i : Int) (r : RES) : Prop := WL [1, 2, 4, 5] Tryz.prog 20 Tryz.f20 (Ent0 w Xs) (Back (Ent0 w Xs) r.1 r.2.1 r.2.2) (place (bodyOf Tryz.f20) [1,1,1,0,1,0,0] [])
  ⟨[(1, .one (.ptr 0 0 0)), (2, .one (.ptr 1 0 0)), (4, .one (.ptr 2 0 0)), (5, .one (.pv (.sc (.int .i64 i))))], [(0, .box [.pv (.sl false 7 (tNode.encs b0_0)), .pv (.sl false 7 (tWorker.encs b0_1)), .pv (.sl false 1 (tLink.encs b0_2))]), (1, .box [.pv (.sc (.int .i64 b1_0)), .pv .nl]), (2, .box [.pv (.sc (.int .i64 b2_0)), .pv .nl])], 3⟩
abbrev G20_1 (w : World) (Xs : Nat → Prop) (r3 : List Int) (b0_0' : List NodeV) (b0_1' : List WorkerV) (b0_2' : List LinkV) (b1_0' : Int) (b2_0' : Int) (i' : Int) (r : RES) : Prop := WL [1, 2, 4, 5] Tryz.prog 20 Tryz.f20 (Ent0 w Xs) (Back (Ent0 w Xs) r.1 r.2.1 r.2.2) (place (bodyOf Tryz.f20) [1,1,1,0,1,0,0] [])
  ⟨[(1, .one (.ptr 0 0 0)), (2, .one (.ptr 1 0 0)), (4, .one (.ptr 2 0 0)), (5, .one (.pv (.sc (.int .i64 i'))))], [(0, .box [.pv (.sl false 7 (tNode.encs b0_0')), .pv (.sl false 7 (tWorker.encs b0_1')), .pv (.sl false 1 (tLink.encs b0_2'))]), (1, .box [.pv (.sc (.int .i64 b1_0')), .pv .nl]), (2, .box [.pv (.sc (.int .i64 b2_0')), .arr 3 0 r3.length]), (3, .row 1 (tI64.encs r3))], 4⟩
noncomputable def Y20 (I : Ops) (K : FuncId → En) : CallsA := (Tab.calls [(41, true, callRd I (callE I (K 41) sh41))])
def sh20 : Shp := fun I i b l s => .ask (b 0) fun t => match t with | true => .ok (.ag [.pv (.sc (.int .i64 (i 0))), .pv .nl], [], 0) | false => .ok (.ag [.pv (.sc (.int .i64 0)), .arr 0 0 (I.len (l 0))], [(0, .row 1 (l 0))], 1)
def an20 : An (CluV × Unit) where
  pre t := (bClu t.1)
  i _ t := cluF t.1
  b _ t := (emB (cluF t.1) (badL t.1))
  l _ t := (tI64.encs (badL t.1))
noncomputable def en20 : En := mkE (parsC (pS tClu) pars0) an20
attribute [simp] en20 an20
abbrev G21_0 (w : World) (Xs : Nat → Prop) (c : CluV) (r1 : List Int) (b0_0 : Int) (x17 : Int) (r : RES) : Prop := WL [2, 4, 15, 16, 17] Tryz.prog 21 Tryz.f21 (Ent0 w Xs) (Back (Ent0 w Xs) r.1 r.2.1 r.2.2) (place (bodyOf Tryz.f21) [1,1,1,0,1,0,0] [])
  ⟨[(2, .one (.ptr 0 0 0)), (4, .one (.arr 1 0 r1.length)), (15, .one (.pv (.sl false 7 (tWorker.encs c.workers)))), (16, .one (.pv (.sc (.int .i64 (c.workers.length : Int))))), (17, .one (.pv (.sc (.int .i64 x17))))], [(0, .box [.pv (.sc (.int .i64 b0_0)), .pv .nl]), (1, .row 1 (tI64.encs r1))], 2⟩
noncomputable def Y21 (I : Ops) (K : FuncId → En) : CallsA := (Tab.calls [(46, true, callRd I (callE I (K 46) sh46))])
def sh21 : Shp := fun I i b l s => .ask (b 0) fun t => match t with | true => .ok (.ag [.pv (.sc (.int .i64 (i 0))), .pv .nl], [], 0) | false => .ok (.ag [.pv (.sc (.int .i64 0)), .arr 0 0 (I.len (l 0))], [(0, .row 1 (l 0))], 1)
def an21 : An (CluV × Unit) where
  pre t := (bClu t.1)
  i _ t := cluF t.1
  b _ t := (decide (cluF t.1 ≠ 0))
  l _ t := (tI64.encs (badL t.1))
noncomputable def en21 : En := mkE (parsC (pS tClu) pars0) an21
attribute [simp] en21 an21
end Go.Proofs.Tryz
