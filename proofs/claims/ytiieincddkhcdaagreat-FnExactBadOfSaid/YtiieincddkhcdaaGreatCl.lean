/- Contracts. -/
import Derived.Test.YtiieincddkhcdaaGreatCk
set_option linter.unusedSimpArgs false
set_option linter.unusedVariables false
namespace Go.Proofs.Tryz
open Go Go.Aix
set_option maxRecDepth 100000
set_option maxHeartbeats 4000000
def bClu (c : CluV) : Bool := bNodeS c.plan && bWorkerS c.workers && bLinkS c.links
theorem bClu_p {c : CluV} (h : bClu c = true) : bNodeS c.plan = true ∧ bWorkerS c.workers = true ∧ bLinkS c.links = true := by
  unfold bClu at h
  simpa only [Bool.and_eq_true, and_assoc] using h
theorem bClu_ok {c : CluV} (h : bClu c = true) : okPlan c.plan = true := by
  have h := (bClu_p h).1
  have hl := bNodeS_len h
  unfold okPlan
  simp only [Bool.and_eq_true, decide_eq_true_eq, List.all_eq_true]
  refine ⟨by omega, fun e he => ?_⟩
  unfold bNodeS at h
  simp only [Bool.and_eq_true, List.all_eq_true] at h
  have := bI_len (bNode_p (h.2 e he))
  omega
def wtlF (c : CluV) (l : List WorkerV) : Int := if fstF (wkrF c.plan) l = 0 then fstF (frmF c.plan) (catF c.links) else fstF (wkrF c.plan) l
def cluF (c : CluV) : Int :=
  if planF c.plan = 0 then
    (if 1 ≤ c.workers.length ∧ c.workers.length ≤ 3 ∧ c.links.length = c.workers.length * c.workers.length ∧ okL c.links = true then wtlF c c.workers else 2)
  else planF c.plan
theorem wtl_pos {c : CluV} {x : WorkerV} {r : List WorkerV} (h : wkrF c.plan x = 0) : wtlF c (x :: r) = wtlF c r := by unfold wtlF; rw [fst_pos h]
theorem wtl_neg {c : CluV} {x : WorkerV} {r : List WorkerV} (h : ¬ wkrF c.plan x = 0) : wtlF c (x :: r) = wkrF c.plan x := by unfold wtlF; rw [fst_neg h, if_neg h]
theorem okL_cons (x : LinkV) (r : List LinkV) : okL (x :: r) = true ↔ x.frames.length ≤ 60 ∧ okL r = true := by
  unfold okL; rw [List.all_cons, Bool.and_eq_true, decide_eq_true_eq]
theorem sqr {n m : Nat} (h : n ≤ 3) (e : m = n * n) : m ≤ 9 := by
  have : n = 0 ∨ n = 1 ∨ n = 2 ∨ n = 3 := by omega
  rcases this with rfl | rfl | rfl | rfl <;> omega
theorem wsqr {n : Nat} (h : n ≤ 3) : IntKind.i64.wrap ((n : Int) * (n : Int)) = ((n * n : Nat) : Int) := by
  rw [IntKind.wrap_i64]
  have : n = 0 ∨ n = 1 ∨ n = 2 ∨ n = 3 := by omega
  rcases this with rfl | rfl | rfl | rfl <;> omega
theorem ent41 : Enters Tryz.prog 41 := ⟨Tryz.f41, Tryz.func41, by kernel_rfl, by kernel_rfl⟩
abbrev G41_0 (w : World) (Xs : Nat → Prop) (c : CluV) (i : Int) (r : RES) : Prop := WL [1, 4, 5] Tryz.prog 41 Tryz.f41 (Ent0 w Xs) (Back (Ent0 w Xs) r.1 r.2.1 r.2.2) (place (bodyOf Tryz.f41) [1,1,1,1,0,1,0,0] [])
  ⟨[(1, .one (.ptr 0 0 0)), (4, .one (.pv (.sc (.int .i64 (c.workers.length : Int))))), (5, .one (.pv (.sc (.int .i64 i))))], [(0, .box [.pv (.sl false 7 (tNode.encs c.plan)), .pv (.sl false 7 (tWorker.encs c.workers)), .pv (.sl false 1 (tLink.encs c.links))])], 1⟩
abbrev G41_1 (w : World) (Xs : Nat → Prop) (c : CluV) (i' : Int) (r : RES) : Prop := WL [1, 4, 6] Tryz.prog 41 Tryz.f41 (Ent0 w Xs) (Back (Ent0 w Xs) r.1 r.2.1 r.2.2) (place (bodyOf Tryz.f41) [1,1,1,1,1,0,1,0,0] [])
  ⟨[(1, .one (.ptr 0 0 0)), (4, .one (.pv (.sc (.int .i64 (c.workers.length : Int))))), (6, .one (.pv (.sc (.int .i64 i'))))], [(0, .box [.pv (.sl false 7 (tNode.encs c.plan)), .pv (.sl false 7 (tWorker.encs c.workers)), .pv (.sl false 1 (tLink.encs c.links))])], 1⟩
abbrev G41_2 (w : World) (Xs : Nat → Prop) (c : CluV) (i'' : Int) (r : RES) : Prop := WL [1, 8] Tryz.prog 41 Tryz.f41 (Ent0 w Xs) (Back (Ent0 w Xs) r.1 r.2.1 r.2.2) (place (bodyOf Tryz.f41) [1,1,1,1,1,1,0,1,0,0] [])
  ⟨[(1, .one (.ptr 0 0 0)), (8, .one (.pv (.sc (.int .i64 i''))))], [(0, .box [.pv (.sl false 7 (tNode.encs c.plan)), .pv (.sl false 7 (tWorker.encs c.workers)), .pv (.sl false 1 (tLink.encs c.links))])], 1⟩
abbrev G41_3 (w : World) (Xs : Nat → Prop) (c : CluV) (i'' : Int) (k : Int) (r : RES) : Prop := WL [1, 8, 9] Tryz.prog 41 Tryz.f41 (Ent0 w Xs) (Back (Ent0 w Xs) r.1 r.2.1 r.2.2) (place (bodyOf Tryz.f41) [1,1,1,1,1,1,0,1,0,0,1,0,0,1,0,0] [])
  ⟨[(1, .one (.ptr 0 0 0)), (8, .one (.pv (.sc (.int .i64 i'')))), (9, .one (.pv (.sc (.int .i64 k))))], [(0, .box [.pv (.sl false 7 (tNode.encs c.plan)), .pv (.sl false 7 (tWorker.encs c.workers)), .pv (.sl false 1 (tLink.encs c.links))])], 1⟩
noncomputable def Y41 (I : Ops) (K : FuncId → En) : CallsA := (Tab.calls [(75, true, callRd I (callE I (K 75) sh75)), (76, true, callRd I (callE I (K 76) sh76)), (77, true, callRd I (callE I (K 77) sh77))])
theorem tY41 {I : Ops} (hI : I = real) {K : FuncId → En} (k75 : K 75 = en75) (k76 : K 76 = en76) (k77 : K 77 = en77) : CallsOk Tryz.prog (Y41 I K) := (TabOk.calls mixed ⟨EntryOk.rd (s75 hI k75) hI, fun _ => callRd_quiet _ _, ⟨EntryOk.rd (s76 hI k76) hI, fun _ => callRd_quiet _ _, ⟨EntryOk.rd (s77 hI k77) hI, fun _ => callRd_quiet _ _, trivial⟩⟩⟩)
theorem st41_0 {w : World} {Xs : Nat → Prop} (c : CluV) (i : Int) {r : RES} (h : (if i < (c.links.length : Int) then ((0 ≤ i ∧ i < (c.links.length : Int)) ∧ (if 60 < (((nth c.links i.toNat).frames).length : Int) then r = (.one (.pv (.sc (.int .i64 2))), [], 0) else G41_0 w Xs c (IntKind.i64.wrap (i + 1)) r)) else G41_1 w Xs c 0 r)) : G41_0 w Xs c i r := by
  obtain ⟨I, hI⟩ : ∃ I, I = real := ⟨_, rfl⟩; obtain ⟨K, k75, k76, k77⟩ : ∃ K : FuncId → En, K 75 = en75 ∧ K 76 = en76 ∧ K 77 = en77 := ⟨fun g => (lk g [(75, en75), (76, en76), (77, en77)]).getD default, rfl, rfl, rfl⟩
  unfold G41_0 WL
  obtain ⟨q0, hq0⟩ := eqv (c.workers.length : Int)
  try rw [← hq0]
  obtain ⟨q1, hq1⟩ := eqv (tWorker.encs c.workers)
  try rw [← hq1]
  obtain ⟨q2, hq2⟩ := eqv (tLink.encs c.links)
  try rw [← hq2]
  obtain ⟨q3, hq3⟩ := eqv (tNode.encs c.plan)
  try rw [← hq3]
  have hS := And.intro hI (And.intro k75 (And.intro k76 (And.intro k77 (And.intro hq0 (And.intro hq1 (And.intro hq2 hq3))))))
  refine W_go (Y := (Y41 I K)) xok (tY41 hI k75 k76 k77) Tryz.func41 rfl 2000 _ hI ?_; (conv => arg 4; cbv)
  exact fin
theorem st41_1 {w : World} {Xs : Nat → Prop} (c : CluV) (i' : Int) {r : RES} (h : (if i' < (c.workers.length : Int) then ((0 ≤ i' ∧ i' < (c.workers.length : Int)) ∧ ((planF c.plan = 0) ∧ (if wkrF c.plan (nth c.workers i'.toNat) = 0 then G41_1 w Xs c (IntKind.i64.wrap (i' + 1)) r else r = (.one (.pv (.sc (.int .i64 (wkrF c.plan (nth c.workers i'.toNat))))), [], 0)))) else G41_2 w Xs c 0 r)) : G41_1 w Xs c i' r := by
  obtain ⟨I, hI⟩ : ∃ I, I = real := ⟨_, rfl⟩; obtain ⟨K, k75, k76, k77⟩ : ∃ K : FuncId → En, K 75 = en75 ∧ K 76 = en76 ∧ K 77 = en77 := ⟨fun g => (lk g [(75, en75), (76, en76), (77, en77)]).getD default, rfl, rfl, rfl⟩
  unfold G41_1 WL
  obtain ⟨q0, hq0⟩ := eqv (c.workers.length : Int)
  try rw [← hq0]
  obtain ⟨q1, hq1⟩ := eqv (tWorker.encs c.workers)
  try rw [← hq1]
  obtain ⟨q2, hq2⟩ := eqv (tLink.encs c.links)
  try rw [← hq2]
  obtain ⟨q3, hq3⟩ := eqv (tNode.encs c.plan)
  try rw [← hq3]
  have hS := And.intro hI (And.intro k75 (And.intro k76 (And.intro k77 (And.intro hq0 (And.intro hq1 (And.intro hq2 hq3))))))
  refine W_go (Y := (Y41 I K)) xok (tY41 hI k75 k76 k77) Tryz.func41 rfl 2000 _ hI ?_; (conv => arg 4; cbv)
  exact fin
theorem st41_2 {w : World} {Xs : Nat → Prop} (c : CluV) (i'' : Int) {r : RES} (h : (if i'' < (c.links.length : Int) then G41_3 w Xs c i'' 0 r else r = (.one (.pv (.sc (.int .i64 0))), [], 0))) : G41_2 w Xs c i'' r := by
  obtain ⟨I, hI⟩ : ∃ I, I = real := ⟨_, rfl⟩; obtain ⟨K, k75, k76, k77⟩ : ∃ K : FuncId → En, K 75 = en75 ∧ K 76 = en76 ∧ K 77 = en77 := ⟨fun g => (lk g [(75, en75), (76, en76), (77, en77)]).getD default, rfl, rfl, rfl⟩
  unfold G41_2 WL
  obtain ⟨q0, hq0⟩ := eqv (tWorker.encs c.workers)
  try rw [← hq0]
  obtain ⟨q1, hq1⟩ := eqv (tLink.encs c.links)
  try rw [← hq1]
  obtain ⟨q2, hq2⟩ := eqv (tNode.encs c.plan)
  try rw [← hq2]
  have hS := And.intro hI (And.intro k75 (And.intro k76 (And.intro k77 (And.intro hq0 (And.intro hq1 hq2)))))
  refine W_go (Y := (Y41 I K)) xok (tY41 hI k75 k76 k77) Tryz.func41 rfl 2000 _ hI ?_; (conv => arg 4; cbv)
  exact fin
theorem st41_3 {w : World} {Xs : Nat → Prop} (c : CluV) (i'' : Int) (k : Int) {r : RES} (h : ((0 ≤ i'' ∧ i'' < (c.links.length : Int)) ∧ (if k < (((nth c.links i''.toNat).frames).length : Int) then ((0 ≤ k ∧ k < (((nth c.links i''.toNat).frames).length : Int)) ∧ ((planF c.plan = 0) ∧ (if frmF c.plan (nth ((nth c.links i''.toNat).frames) k.toNat) = 0 then G41_3 w Xs c i'' (IntKind.i64.wrap (k + 1)) r else r = (.one (.pv (.sc (.int .i64 (frmF c.plan (nth ((nth c.links i''.toNat).frames) k.toNat))))), [], 0)))) else G41_2 w Xs c (IntKind.i64.wrap (i'' + 1)) r))) : G41_3 w Xs c i'' k r := by
  obtain ⟨I, hI⟩ : ∃ I, I = real := ⟨_, rfl⟩; obtain ⟨K, k75, k76, k77⟩ : ∃ K : FuncId → En, K 75 = en75 ∧ K 76 = en76 ∧ K 77 = en77 := ⟨fun g => (lk g [(75, en75), (76, en76), (77, en77)]).getD default, rfl, rfl, rfl⟩
  unfold G41_3 WL
  obtain ⟨q0, hq0⟩ := eqv (tWorker.encs c.workers)
  try rw [← hq0]
  obtain ⟨q1, hq1⟩ := eqv (tLink.encs c.links)
  try rw [← hq1]
  obtain ⟨q2, hq2⟩ := eqv (tNode.encs c.plan)
  try rw [← hq2]
  have hS := And.intro hI (And.intro k75 (And.intro k76 (And.intro k77 (And.intro hq0 (And.intro hq1 hq2)))))
  refine W_go (Y := (Y41 I K)) xok (tY41 hI k75 k76 k77) Tryz.func41 rfl 2000 _ hI ?_; (conv => arg 4; cbv)
  exact fin
theorem go41 (c : CluV) {r : RES} (h : ∀ (w : World) (Xs : Nat → Prop), ((c.plan.length < 4611686018427387904) ∧ (if planF c.plan = 0 then (if (c.workers.length : Int) < 1 then r = (.one (.pv (.sc (.int .i64 2))), [], 0) else (if 3 < (c.workers.length : Int) then r = (.one (.pv (.sc (.int .i64 2))), [], 0) else (if (c.links.length : Int) = (IntKind.i64.wrap ((c.workers.length : Int) * (c.workers.length : Int))) then G41_0 w Xs c 0 r else r = (.one (.pv (.sc (.int .i64 2))), [], 0)))) else r = (.one (.pv (.sc (.int .i64 (planF c.plan)))), [], 0)))) : Ok0 Tryz.prog 41 [(pS tClu).enc c] r.1 r.2.1 r.2.2 := by
  obtain ⟨I, hI⟩ : ∃ I, I = real := ⟨_, rfl⟩; obtain ⟨K, k75, k76, k77⟩ : ∃ K : FuncId → En, K 75 = en75 ∧ K 76 = en76 ∧ K 77 = en77 := ⟨fun g => (lk g [(75, en75), (76, en76), (77, en77)]).getD default, rfl, rfl, rfl⟩
  show Ok0 Tryz.prog 41 [.ag [.pv (.sl false 7 (tNode.encs c.plan)), .pv (.sl false 7 (tWorker.encs c.workers)), .pv (.sl false 1 (tLink.encs c.links))]] _ _ _
  obtain ⟨q0, hq0⟩ := eqv (tWorker.encs c.workers)
  try rw [← hq0]
  obtain ⟨q1, hq1⟩ := eqv (tLink.encs c.links)
  try rw [← hq1]
  obtain ⟨q2, hq2⟩ := eqv (tNode.encs c.plan)
  try rw [← hq2]
  have hS := And.intro hI (And.intro k75 (And.intro k76 (And.intro k77 (And.intro hq0 (And.intro hq1 hq2)))))
  refine Ok0_run (Y := (Y41 I K)) xok (tY41 hI k75 k76 k77) Tryz.func41 rfl rfl rfl 2000 hI fun w Xs => ?_; (conv => arg 4; cbv)
  replace h := h w Xs
  exact fin
theorem ld41 {w : World} {Xs : Nat → Prop} (c : CluV) (p0 : planF c.plan = 0) {i : Nat} (hi : i < c.links.length) (hf : (nth c.links i).frames.length ≤ 60) (nx : G41_2 w Xs c ((i + 1 : Nat) : Int) (rI (fstF (frmF c.plan) (catF (c.links.drop (i + 1)))))) (h9 : c.links.length ≤ 9) : ∀ k j : Nat, k + j = (nth c.links i).frames.length → G41_3 w Xs c i j (rI (fstF (frmF c.plan) ((nth c.links i).frames.drop j ++ catF (c.links.drop (i + 1))))) := by
  intro k
  induction k with
  | zero =>
    intro j hk
    apply st41_3
    rw [Int.toNat_natCast, if_neg (by omega), drop_nil (l := (nth c.links i).frames) (by omega), wsucc (by omega), List.nil_append]
    exact ⟨by omega, nx⟩
  | succ k ih =>
    intro j hk
    apply st41_3
    rw [Int.toNat_natCast, if_pos (by omega), wsucc (by omega), Int.toNat_natCast, nth_drop (l := (nth c.links i).frames) (i := j) (by omega), List.cons_append]
    refine ⟨by omega, by omega, p0, if_go (fun q => ?_) (fun q => ?_)⟩
    · rw [fst_pos q]; exact ih (j + 1) (by omega)
    · rw [fst_neg q]
theorem lc41 {w : World} {Xs : Nat → Prop} (c : CluV) (p0 : planF c.plan = 0) (ho : okL c.links = true) (h9 : c.links.length ≤ 9) : ∀ k i : Nat, k + i = c.links.length → G41_2 w Xs c i (rI (fstF (frmF c.plan) (catF (c.links.drop i)))) := by
  intro k
  induction k with
  | zero =>
    intro i hk
    apply st41_2
    rw [if_neg (by omega), drop_nil (l := c.links) (by omega)]
    rfl
  | succ k ih =>
    intro i hk
    apply st41_2
    rw [if_pos (by omega), nth_drop (l := c.links) (i := i) (by omega), catF]
    have := ld41 (w := w) (Xs := Xs) c p0 (i := i) (by omega) (okL_nth ho (by omega)) (ih (i + 1) (by omega)) h9 (nth c.links i).frames.length 0 rfl
    exact this
theorem lb41 {w : World} {Xs : Nat → Prop} (c : CluV) (p0 : planF c.plan = 0) (ho : okL c.links = true) (h9 : c.links.length ≤ 9) (h3 : c.workers.length ≤ 3) : ∀ k i : Nat, k + i = c.workers.length → G41_1 w Xs c i (rI (wtlF c (c.workers.drop i))) := by
  intro k
  induction k with
  | zero =>
    intro i hk
    apply st41_1
    rw [if_neg (by omega), drop_nil (l := c.workers) (by omega)]
    have := lc41 (w := w) (Xs := Xs) c p0 ho h9 c.links.length 0 rfl
    simpa [wtlF, fstF] using this
  | succ k ih =>
    intro i hk
    apply st41_1
    rw [if_pos (by omega), wsucc (by omega), Int.toNat_natCast, nth_drop (l := c.workers) (i := i) (by omega)]
    refine ⟨by omega, p0, if_go (fun q => ?_) (fun q => ?_)⟩
    · rw [wtl_pos q]; exact ih (i + 1) (by omega)
    · rw [wtl_neg q]
theorem la41 {w : World} {Xs : Nat → Prop} (c : CluV) (p0 : planF c.plan = 0) (h9 : c.links.length ≤ 9) (h3 : c.workers.length ≤ 3) : ∀ k i : Nat, k + i = c.links.length → (okL c.links = true ↔ okL (c.links.drop i) = true) → G41_0 w Xs c i (rI (if okL c.links = true then wtlF c c.workers else 2)) := by
  intro k
  induction k with
  | zero =>
    intro i hk ho
    apply st41_0
    rw [if_neg (by omega)]
    have ho : okL c.links = true := ho.2 (by rw [drop_nil (l := c.links) (by omega)]; rfl)
    rw [if_pos ho]
    exact lb41 c p0 ho h9 h3 c.workers.length 0 rfl
  | succ k ih =>
    intro i hk ho
    apply st41_0
    rw [nth_drop (l := c.links) (i := i) (by omega), okL_cons] at ho
    rw [if_pos (by omega), wsucc (by omega), Int.toNat_natCast]
    refine ⟨by omega, if_go (fun q => ?_) (fun q => ?_)⟩
    · rw [if_neg (fun z => by have := (ho.1 z).1; omega)]
    · exact ih (i + 1) (by omega) (ho.trans ⟨fun z => z.2, fun z => ⟨by omega, z⟩⟩)
def sh41 : Shp := fun I i b l s => .ok (.one (.pv (.sc (.int .i64 (i 0)))), [], 0)
def an41 : An (CluV × Unit) where
  pre t := (bClu t.1)
  i _ t := cluF t.1
noncomputable def en41 : En := mkE (parsC (pS tClu) pars0) an41
attribute [simp] en41 an41
theorem ok41 (c : CluV) (p0 : bClu c = true) : Ok0 Tryz.prog 41 [(pS tClu).enc c] ((.one (.pv (.sc (.int .i64 (cluF c)))), [], 0) : RES).1 ((.one (.pv (.sc (.int .i64 (cluF c)))), [], 0) : RES).2.1 ((.one (.pv (.sc (.int .i64 (cluF c)))), [], 0) : RES).2.2 := by
  have hl := bNodeS_len (bClu_p p0).1
  refine go41 c fun w Xs => ⟨by omega, ?_⟩
  unfold cluF
  refine if_go (fun q => ?_) (fun q => ?_)
  · rw [if_pos q]
    refine if_go (fun q1 => ?_) (fun q1 => if_go (fun q2 => ?_) (fun q2 => ?_))
    · rw [if_neg (fun z => by have := z.1; omega)]
    · rw [if_neg (fun z => by have := z.2.1; omega)]
    · rw [wsqr (by omega)]
      refine if_go (fun q3 => ?_) (fun q3 => ?_)
      · have q4 : c.links.length = c.workers.length * c.workers.length := by omega
        have := la41 (w := w) (Xs := Xs) c q (sqr (by omega) q4) (by omega) c.links.length 0 rfl Iff.rfl
        by_cases ho : okL c.links = true
        · rw [if_pos ho] at this
          rw [if_pos ⟨by omega, by omega, q4, ho⟩]; exact this
        · rw [if_neg ho] at this
          rw [if_neg (fun z => ho z.2.2.2)]; exact this
      · rw [if_neg (fun z => q3 (by rw [z.2.2.1]))]
  · rw [if_neg q]
theorem s41 {I : Ops} (hI : I = real) {e : En} (he : e = en41) : Sound Tryz.prog 41 (callE I e sh41) := by
  refine Sound.mkE ent41 hI (fun _ => rfl) ?_ he
  rintro ⟨c, ⟨⟩⟩ hp
  have hp : ((bClu c)) = true := hp
  try simp only [Bool.and_eq_true, decide_eq_true_eq] at hp
  have p0 := hp
  exact ok41 c p0
theorem ent82 : Enters Tryz.prog 82 := ⟨Tryz.f82, Tryz.func82, by kernel_rfl, by kernel_rfl⟩
noncomputable def Y82 (I : Ops) (K : FuncId → En) : CallsA := (Tab.calls [(122, true, callRd I (callE I (K 122) sh122))])
theorem tY82 {I : Ops} (hI : I = real) {K : FuncId → En} (k122 : K 122 = en122) : CallsOk Tryz.prog (Y82 I K) := (TabOk.calls mixed ⟨EntryOk.rd (s122 hI k122) hI, fun _ => callRd_quiet _ _, trivial⟩)
theorem s82 {I : Ops} (hI : I = real) {K : FuncId → En} (k122 : K 122 = en122) : Sound Tryz.prog 82 (inl X I (Y82 I K) Tryz.f82) :=
  Sound.inl (Y := (Y82 I K)) xok (tY82 hI k122) ent82 Tryz.func82 rfl rfl hI
theorem ent46 : Enters Tryz.prog 46 := ⟨Tryz.f46, Tryz.func46, by kernel_rfl, by kernel_rfl⟩
abbrev G46_0 (w : World) (Xs : Nat → Prop) (c : CluV) (b0_0 : List NodeV) (b0_1 : List WorkerV) (b0_2 : List LinkV) (x44 : Int) (r : RES) : Prop := WL [1, 3, 42, 43, 44] Tryz.prog 46 Tryz.f46 (Ent0 w Xs) (Back (Ent0 w Xs) r.1 r.2.1 r.2.2) (place (bodyOf Tryz.f46) [1,1,1,1,1,0,1,0,0] [])
  ⟨[(1, .one (.ptr 0 0 0)), (3, .one (.pv (.sl false 1 (tI64.encs (lookL c.plan (planF c.plan)))))), (42, .one (.pv (.sl false 7 (tWorker.encs c.workers)))), (43, .one (.pv (.sc (.int .i64 (c.workers.length : Int))))), (44, .one (.pv (.sc (.int .i64 x44))))], [(0, .box [.pv (.sl false 7 (tNode.encs b0_0)), .pv (.sl false 7 (tWorker.encs b0_1)), .pv (.sl false 1 (tLink.encs b0_2))])], 1⟩
abbrev G46_1 (w : World) (Xs : Nat → Prop) (c : CluV) (b0_0' : List NodeV) (b0_1' : List WorkerV) (b0_2' : List LinkV) (x61 : Int) (r : RES) : Prop := WL [1, 3, 59, 60, 61] Tryz.prog 46 Tryz.f46 (Ent0 w Xs) (Back (Ent0 w Xs) r.1 r.2.1 r.2.2) (place (bodyOf Tryz.f46) [1,1,1,1,1,1,0,1,0,0] [])
  ⟨[(1, .one (.ptr 0 0 0)), (3, .one (.pv (.sl false 1 (tI64.encs (lookL c.plan (planF c.plan)))))), (59, .one (.pv .nl)), (60, .one (.pv (.sc (.int .i64 0)))), (61, .one (.pv (.sc (.int .i64 x61))))], [(0, .box [.pv (.sl false 7 (tNode.encs b0_0')), .pv (.sl false 7 (tWorker.encs b0_1')), .pv (.sl false 1 (tLink.encs b0_2'))])], 1⟩
abbrev G46_2 (w : World) (Xs : Nat → Prop) (c : CluV) (b0_2 : List LinkV) (r1 : List FrameV) (b0_0'' : List NodeV) (b0_1'' : List WorkerV) (b0_2'' : List LinkV) (x61' : Int) (r : RES) : Prop := WL [1, 3, 59, 60, 61] Tryz.prog 46 Tryz.f46 (Ent0 w Xs) (Back (Ent0 w Xs) r.1 r.2.1 r.2.2) (place (bodyOf Tryz.f46) [1,1,1,1,1,1,0,1,0,0] [])
  ⟨[(1, .one (.ptr 0 0 0)), (3, .one (.pv (.sl false 1 (tI64.encs (lookL c.plan (planF c.plan)))))), (59, .one (.arr 1 0 r1.length)), (60, .one (.pv (.sc (.int .i64 ((catF b0_2).length : Int))))), (61, .one (.pv (.sc (.int .i64 x61'))))], [(0, .box [.pv (.sl false 7 (tNode.encs b0_0'')), .pv (.sl false 7 (tWorker.encs b0_1'')), .pv (.sl false 1 (tLink.encs b0_2''))]), (1, .row 6 (tFrame.encs r1))], 2⟩
noncomputable def Y46 (I : Ops) (K : FuncId → En) : CallsA := (Tab.calls [(81, false, callIce I (callE I (K 81) sh81)), (47, true, callRd I (inl X I (Tab.calls []) Tryz.f47)), (82, true, callRd I (inl X I (Y82 I K) Tryz.f82)), (83, true, callRd I (inl X I (Tab.calls []) Tryz.f83)), (84, true, callRd I (callE I (K 84) sh84)), (85, false, callIce I (callE I (K 85) sh85)), (86, true, callRd I (callE I (K 86) sh86))])
theorem tY46 {I : Ops} (hI : I = real) {K : FuncId → En} (k81 : K 81 = en81) (k122 : K 122 = en122) (k84 : K 84 = en84) (k85 : K 85 = en85) (k86 : K 86 = en86) : CallsOk Tryz.prog (Y46 I K) := (TabOk.calls mixed ⟨EntryOk.own (s81 hI k81) hI, notQuiet, ⟨EntryOk.rd (s47 hI) hI, fun _ => callRd_quiet _ _, ⟨EntryOk.rd (s82 hI k122) hI, fun _ => callRd_quiet _ _, ⟨EntryOk.rd (s83 hI) hI, fun _ => callRd_quiet _ _, ⟨EntryOk.rd (s84 hI k84) hI, fun _ => callRd_quiet _ _, ⟨EntryOk.own (s85 hI k85) hI, notQuiet, ⟨EntryOk.rd (s86 hI k86) hI, fun _ => callRd_quiet _ _, trivial⟩⟩⟩⟩⟩⟩⟩)
theorem st46_0 {w : World} {Xs : Nat → Prop} (c : CluV) (b0_0 : List NodeV) (b0_1 : List WorkerV) (b0_2 : List LinkV) (x44 : Int) {r : RES} (h : (if x44 < (c.workers.length : Int) then ((0 ≤ x44 ∧ x44 < (c.workers.length : Int)) ∧ ((planF b0_0 = 0) ∧ (((lookL c.plan (planF c.plan)) = wsOf b0_0 b0_0.length) ∧ (((bHeldS (nth c.workers x44.toNat).nodes) = true) ∧ (if wkrF b0_0 (nth c.workers x44.toNat) = 0 then G46_0 w Xs c b0_0 b0_1 b0_2 (IntKind.i64.wrap (x44 + 1)) r else r = (.one (.pv (.sc (.int .i64 (wkrF b0_0 (nth c.workers x44.toNat))))), [], 0)))))) else ((b0_2.length ≤ 9) ∧ (((okL b0_2) = true) ∧ (if (decide ((catF b0_2).length = 0)) = true then G46_1 w Xs c b0_0 b0_1 b0_2 0 r else G46_2 w Xs c b0_2 (catF b0_2) b0_0 b0_1 b0_2 0 r))))) : G46_0 w Xs c b0_0 b0_1 b0_2 x44 r := by
  obtain ⟨I, hI⟩ : ∃ I, I = real := ⟨_, rfl⟩; obtain ⟨K, k81, k122, k84, k85, k86⟩ : ∃ K : FuncId → En, K 81 = en81 ∧ K 122 = en122 ∧ K 84 = en84 ∧ K 85 = en85 ∧ K 86 = en86 := ⟨fun g => (lk g [(81, en81), (122, en122), (84, en84), (85, en85), (86, en86)]).getD default, rfl, rfl, rfl, rfl, rfl⟩
  unfold G46_0 WL
  obtain ⟨q0, hq0⟩ := eqv (tI64.encs (lookL c.plan (planF c.plan)))
  try rw [← hq0]
  obtain ⟨q1, hq1⟩ := eqv (tWorker.encs c.workers)
  try rw [← hq1]
  obtain ⟨q2, hq2⟩ := eqv (c.workers.length : Int)
  try rw [← hq2]
  obtain ⟨q3, hq3⟩ := eqv (tWorker.encs b0_1)
  try rw [← hq3]
  obtain ⟨q4, hq4⟩ := eqv (tNode.encs b0_0)
  try rw [← hq4]
  obtain ⟨q5, hq5⟩ := eqv (tLink.encs b0_2)
  try rw [← hq5]
  have hS := And.intro hI (And.intro k81 (And.intro k122 (And.intro k84 (And.intro k85 (And.intro k86 (And.intro hq0 (And.intro hq1 (And.intro hq2 (And.intro hq3 (And.intro hq4 hq5))))))))))
  refine W_go (Y := (Y46 I K)) xok (tY46 hI k81 k122 k84 k85 k86) Tryz.func46 rfl 2000 _ hI ?_; (conv => arg 4; cbv)
  exact fin
theorem st46_1 {w : World} {Xs : Nat → Prop} (c : CluV) (b0_0' : List NodeV) (b0_1' : List WorkerV) (b0_2' : List LinkV) (x61 : Int) {r : RES} (h : (if x61 < 0 then False else r = (.one (.pv (.sc (.int .i64 0))), [], 0))) : G46_1 w Xs c b0_0' b0_1' b0_2' x61 r := by
  obtain ⟨I, hI⟩ : ∃ I, I = real := ⟨_, rfl⟩; obtain ⟨K, k81, k122, k84, k85, k86⟩ : ∃ K : FuncId → En, K 81 = en81 ∧ K 122 = en122 ∧ K 84 = en84 ∧ K 85 = en85 ∧ K 86 = en86 := ⟨fun g => (lk g [(81, en81), (122, en122), (84, en84), (85, en85), (86, en86)]).getD default, rfl, rfl, rfl, rfl, rfl⟩
  unfold G46_1 WL
  obtain ⟨q0, hq0⟩ := eqv (tI64.encs (lookL c.plan (planF c.plan)))
  try rw [← hq0]
  obtain ⟨q1, hq1⟩ := eqv (tWorker.encs b0_1')
  try rw [← hq1]
  obtain ⟨q2, hq2⟩ := eqv (tNode.encs b0_0')
  try rw [← hq2]
  obtain ⟨q3, hq3⟩ := eqv (tLink.encs b0_2')
  try rw [← hq3]
  have hS := And.intro hI (And.intro k81 (And.intro k122 (And.intro k84 (And.intro k85 (And.intro k86 (And.intro hq0 (And.intro hq1 (And.intro hq2 hq3))))))))
  refine W_go (Y := (Y46 I K)) xok (tY46 hI k81 k122 k84 k85 k86) Tryz.func46 rfl 2000 _ hI ?_; (conv => arg 4; cbv)
  exact fin
theorem st46_2 {w : World} {Xs : Nat → Prop} (c : CluV) (b0_2 : List LinkV) (r1 : List FrameV) (b0_0'' : List NodeV) (b0_1'' : List WorkerV) (b0_2'' : List LinkV) (x61' : Int) {r : RES} (h : (if x61' < ((catF b0_2).length : Int) then ((0 ≤ x61' ∧ x61' < (r1.length : Int)) ∧ ((planF b0_0'' = 0) ∧ (((lookL c.plan (planF c.plan)) = wsOf b0_0'' b0_0''.length) ∧ (if frmF b0_0'' (nth r1 x61'.toNat) = 0 then G46_2 w Xs c b0_2 r1 b0_0'' b0_1'' b0_2'' (IntKind.i64.wrap (x61' + 1)) r else r = (.one (.pv (.sc (.int .i64 (frmF b0_0'' (nth r1 x61'.toNat))))), [], 0))))) else r = (.one (.pv (.sc (.int .i64 0))), [], 0))) : G46_2 w Xs c b0_2 r1 b0_0'' b0_1'' b0_2'' x61' r := by
  obtain ⟨I, hI⟩ : ∃ I, I = real := ⟨_, rfl⟩; obtain ⟨K, k81, k122, k84, k85, k86⟩ : ∃ K : FuncId → En, K 81 = en81 ∧ K 122 = en122 ∧ K 84 = en84 ∧ K 85 = en85 ∧ K 86 = en86 := ⟨fun g => (lk g [(81, en81), (122, en122), (84, en84), (85, en85), (86, en86)]).getD default, rfl, rfl, rfl, rfl, rfl⟩
  unfold G46_2 WL
  obtain ⟨q0, hq0⟩ := eqv (tI64.encs (lookL c.plan (planF c.plan)))
  try rw [← hq0]
  obtain ⟨q1, hq1⟩ := eqv ((catF b0_2).length : Int)
  try rw [← hq1]
  obtain ⟨q2, hq2⟩ := eqv (tWorker.encs b0_1'')
  try rw [← hq2]
  obtain ⟨q3, hq3⟩ := eqv (tNode.encs b0_0'')
  try rw [← hq3]
  obtain ⟨q4, hq4⟩ := eqv (tLink.encs b0_2'')
  try rw [← hq4]
  obtain ⟨q5, hq5⟩ := eqv (tFrame.encs r1)
  try rw [← hq5]
  obtain ⟨q6, hq6⟩ := eqv r1.length
  try rw [← hq6]
  have hS := And.intro hI (And.intro k81 (And.intro k122 (And.intro k84 (And.intro k85 (And.intro k86 (And.intro hq0 (And.intro hq1 (And.intro hq2 (And.intro hq3 (And.intro hq4 (And.intro hq5 hq6)))))))))))
  refine W_go (Y := (Y46 I K)) xok (tY46 hI k81 k122 k84 k85 k86) Tryz.func46 rfl 2000 _ hI ?_; (conv => arg 4; cbv)
  exact fin
theorem go46 (c : CluV) {r : RES} (h : ∀ (w : World) (Xs : Nat → Prop), (((okPlan c.plan) = true) ∧ (if planF c.plan = 0 then (if 1 ≤ (c.workers.length : Int) then (if (c.workers.length : Int) ≤ 3 then (if (c.links.length : Int) = (IntKind.i64.wrap ((c.workers.length : Int) * (c.workers.length : Int))) then ((c.links.length ≤ 1048576) ∧ (if 0 ≤ bigI c.links 0 then r = (.one (.pv (.sc (.int .i64 2))), [], 0) else G46_0 w Xs c c.plan c.workers c.links 0 r)) else r = (.one (.pv (.sc (.int .i64 2))), [], 0)) else r = (.one (.pv (.sc (.int .i64 2))), [], 0)) else r = (.one (.pv (.sc (.int .i64 2))), [], 0)) else r = (.one (.pv (.sc (.int .i64 (planF c.plan)))), [], 0)))) : Ok0 Tryz.prog 46 [(pS tClu).enc c] r.1 r.2.1 r.2.2 := by
  obtain ⟨I, hI⟩ : ∃ I, I = real := ⟨_, rfl⟩; obtain ⟨K, k81, k122, k84, k85, k86⟩ : ∃ K : FuncId → En, K 81 = en81 ∧ K 122 = en122 ∧ K 84 = en84 ∧ K 85 = en85 ∧ K 86 = en86 := ⟨fun g => (lk g [(81, en81), (122, en122), (84, en84), (85, en85), (86, en86)]).getD default, rfl, rfl, rfl, rfl, rfl⟩
  show Ok0 Tryz.prog 46 [.ag [.pv (.sl false 7 (tNode.encs c.plan)), .pv (.sl false 7 (tWorker.encs c.workers)), .pv (.sl false 1 (tLink.encs c.links))]] _ _ _
  obtain ⟨q0, hq0⟩ := eqv (tWorker.encs c.workers)
  try rw [← hq0]
  obtain ⟨q1, hq1⟩ := eqv (tLink.encs c.links)
  try rw [← hq1]
  obtain ⟨q2, hq2⟩ := eqv (tNode.encs c.plan)
  try rw [← hq2]
  have hS := And.intro hI (And.intro k81 (And.intro k122 (And.intro k84 (And.intro k85 (And.intro k86 (And.intro hq0 (And.intro hq1 hq2)))))))
  refine Ok0_run (Y := (Y46 I K)) xok (tY46 hI k81 k122 k84 k85 k86) Tryz.func46 rfl rfl rfl 2000 hI fun w Xs => ?_; (conv => arg 4; cbv)
  replace h := h w Xs
  exact fin
theorem lb46 {w : World} {Xs : Nat → Prop} (c : CluV) (pl : List NodeV) (ws : List WorkerV) (ls : List LinkV) (p0 : planF c.plan = 0) (e : c.plan = pl) (hc : (catF ls).length ≤ 540) : ∀ k i : Nat, k + i = (catF ls).length → G46_2 w Xs c ls (catF ls) pl ws ls i (rI (fstF (frmF c.plan) ((catF ls).drop i))) := by
  subst e
  have hk0 : lookL c.plan (planF c.plan) = wsOf c.plan c.plan.length := by unfold lookL; rw [if_pos p0]
  intro k
  induction k with
  | zero =>
    intro i hk
    apply st46_2
    rw [if_neg (by omega), drop_nil (l := catF ls) (by omega)]
    rfl
  | succ k ih =>
    intro i hk
    apply st46_2
    rw [if_pos (by omega), wsucc (by omega), Int.toNat_natCast, nth_drop (l := catF ls) (i := i) (by omega)]
    refine ⟨by omega, p0, hk0, if_go (fun q => ?_) (fun q => ?_)⟩
    · rw [fst_pos q]; exact ih (i + 1) (by omega)
    · rw [fst_neg q]
theorem la46 {w : World} {Xs : Nat → Prop} (c : CluV) (p0 : planF c.plan = 0) (hb : bWorkerS c.workers = true) (ho : okL c.links = true) (h9 : c.links.length ≤ 9) (h3 : c.workers.length ≤ 3) : ∀ k i : Nat, k + i = c.workers.length → G46_0 w Xs c c.plan c.workers c.links i (rI (wtlF c (c.workers.drop i))) := by
  have hk0 : lookL c.plan (planF c.plan) = wsOf c.plan c.plan.length := by unfold lookL; rw [if_pos p0]
  have hc := catF_le c.links ho
  intro k
  induction k with
  | zero =>
    intro i hk
    apply st46_0
    rw [if_neg (by omega), drop_nil (l := c.workers) (by omega)]
    have e : wtlF c [] = fstF (frmF c.plan) (catF c.links) := by simp [wtlF, fstF]
    rw [e]
    refine ⟨h9, ho, if_go (fun q => ?_) (fun q => ?_)⟩
    · have q : catF c.links = [] := List.length_eq_zero_iff.1 (by simpa using q)
      rw [q]
      apply st46_1
      rw [if_neg (by decide)]
      rfl
    · exact lb46 c c.plan c.workers c.links p0 rfl (by omega) (catF c.links).length 0 rfl
  | succ k ih =>
    intro i hk
    have hx := bWorkerS_nth hb (i := i) (by omega)
    obtain ⟨x0, x1, x2, x3⟩ := bWorker_p hx
    apply st46_0
    rw [if_pos (by omega), wsucc (by omega), Int.toNat_natCast, nth_drop (l := c.workers) (i := i) (by omega)]
    refine ⟨by omega, p0, hk0, x2, if_go (fun q => ?_) (fun q => ?_)⟩
    · rw [wtl_pos q]; exact ih (i + 1) (by omega)
    · rw [wtl_neg q]
def sh46 : Shp := fun I i b l s => .ok (.one (.pv (.sc (.int .i64 (i 0)))), [], 0)
def an46 : An (CluV × Unit) where
  pre t := (bClu t.1)
  i _ t := cluF t.1
noncomputable def en46 : En := mkE (parsC (pS tClu) pars0) an46
attribute [simp] en46 an46
theorem ok46 (c : CluV) (p0 : bClu c = true) : Ok0 Tryz.prog 46 [(pS tClu).enc c] ((.one (.pv (.sc (.int .i64 (cluF c)))), [], 0) : RES).1 ((.one (.pv (.sc (.int .i64 (cluF c)))), [], 0) : RES).2.1 ((.one (.pv (.sc (.int .i64 (cluF c)))), [], 0) : RES).2.2 := by
  have hp := bClu_p p0
  have hl := bLinkS_len hp.2.2
  refine go46 c fun w Xs => ⟨bClu_ok p0, ?_⟩
  unfold cluF
  refine if_go (fun q => ?_) (fun q => ?_)
  · rw [if_pos q]
    refine if_go (fun q1 => if_go (fun q2 => ?_) (fun q2 => ?_)) (fun q1 => ?_)
    · rw [wsqr (by omega)]
      refine if_go (fun q3 => ?_) (fun q3 => ?_)
      · have q4 : c.links.length = c.workers.length * c.workers.length := by omega
        have hb := bigI_neg c.links 0
        refine ⟨hl, if_go (fun q5 => ?_) (fun q5 => ?_)⟩
        · rw [if_neg (fun z => by have := hb.2 z.2.2.2; omega)]
        · have ho : okL c.links = true := hb.1 (by omega)
          rw [if_pos ⟨by omega, by omega, q4, ho⟩]
          exact la46 c q hp.2.1 ho (sqr (by omega) q4) (by omega) c.workers.length 0 rfl
      · rw [if_neg (fun z => q3 (by rw [z.2.2.1]))]
    · rw [if_neg (fun z => q2 (by have := z.2.1; omega))]
    · rw [if_neg (fun z => q1 (by have := z.1; omega))]
  · rw [if_neg q]
theorem s46 {I : Ops} (hI : I = real) {e : En} (he : e = en46) : Sound Tryz.prog 46 (callE I e sh46) := by
  refine Sound.mkE ent46 hI (fun _ => rfl) ?_ he
  rintro ⟨c, ⟨⟩⟩ hp
  have hp : ((bClu c)) = true := hp
  try simp only [Bool.and_eq_true, decide_eq_true_eq] at hp
  have p0 := hp
  exact ok46 c p0
end Go.Proofs.Tryz
