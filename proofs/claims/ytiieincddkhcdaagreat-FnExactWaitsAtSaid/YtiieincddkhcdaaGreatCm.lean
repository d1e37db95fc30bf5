/- Contracts. -/
import Derived.Test.YtiieincddkhcdaaGreatCl
set_option linter.unusedSimpArgs false
set_option linter.unusedVariables false
namespace Go.Proofs.Tryz
open Go Go.Aix
set_option maxRecDepth 100000
set_option maxHeartbeats 4000000
set_option linter.unusedSimpArgs false
set_option linter.unusedVariables false
noncomputable def Y54 (I : Ops) (K : FuncId → En) : CallsA := (Tab.calls [(46, true, callRd I (callE I (K 46) sh46)), (48, true, callRd I (inl X I (Tab.calls []) Tryz.f48)), (47, true, callRd I (inl X I (Tab.calls []) Tryz.f47))])
theorem fst_zero {α : Type} [Inhabited α] {f : α → Int} : ∀ {l : List α}, fstF f l = 0 → ∀ i, i < l.length → f (nth l i) = 0
  | [], _, i, hi => by simp at hi
  | x :: r, h, i, hi => by
    rw [fstF] at h
    split at h
    · rename_i hx
      match i, hi with
      | 0, _ => simpa [nth] using hx
      | i + 1, hi =>
        have := fst_zero h i (by simpa using hi)
        simpa [nth] using this
    · rename_i hx; exact absurd h hx
theorem wkrF_nodes {plan : List NodeV} {w : WorkerV} (h : wkrF plan w = 0) : w.nodes.length = plan.length := by
  unfold wkrF inbW cntsW at h
  (repeat' split at h) <;> first | assumption | omega | (simp_all; done)
theorem cluF_ok {c : CluV} (h : cluF c = 0) : planF c.plan = 0 ∧ c.workers.length ≤ 3 ∧ c.links.length ≤ 9 ∧ okL c.links = true ∧ ∀ i, i < c.workers.length → (nth c.workers i).nodes.length = c.plan.length := by
  unfold cluF at h
  split at h
  · rename_i h0
    split at h
    · rename_i h1
      refine ⟨h0, h1.2.1, sqr h1.2.1 h1.2.2.1, h1.2.2.2, fun i hi => ?_⟩
      unfold wtlF at h
      split at h
      · rename_i h2; exact wkrF_nodes (fst_zero h2 i hi)
      · rename_i h2; exact absurd h h2
    · omega
  · rename_i h0; exact absurd h h0
abbrev rII (a b : Int) : RES := (.ag [.pv (.sc (.int .i64 a)), .pv (.sc (.int .i64 b))], [], 0)
def wtB : List BatchV → Int → Int
  | [], n => n
  | b :: r, n => wtB r (IntKind.i64.wrap (n + (b.set.length : Int)))
def wtW (node : Int) : List WorkerV → Int → Int
  | [], n => n
  | w :: r, n => wtW node r (wtB (nth w.nodes node.toNat).waits n)
def inP (c : CluV) (k : Int) : Prop := 0 ≤ k ∧ k ≤ (c.plan.length : Int) - 1
instance (c : CluV) (k : Int) : Decidable (inP c k) := by unfold inP; infer_instance
def wtC (c : CluV) (node : Int) : Int := if cluF c = 0 then (if inP c node then 0 else 3) else cluF c
def wtV (c : CluV) (node : Int) : Int := if cluF c = 0 then (if inP c node then wtW node c.workers 0 else 0) else 0
theorem ent11 : Enters Tryz.prog 11 := ⟨Tryz.f11, Tryz.func11, by kernel_rfl, by kernel_rfl⟩
def G11_0 (w : World) (Xs : Nat → Prop) (c : CluV) (node : Int) (n : Int) (i : Int) (r : RES) : Prop := W Tryz.prog 11 Tryz.f11 (Ent0 w Xs) (Back (Ent0 w Xs) r.1 r.2.1 r.2.2) (place (bodyOf Tryz.f11) [1,1,1,1,0,1,0,0] [])
  ⟨[(1, .one (.pv (.sc (.int .i64 node)))), (2, .one (.ptr 0 0 0)), (4, .one (.ptr 1 0 0)), (6, .one (.pv (.sc (.int .i64 n)))), (7, .one (.pv (.sc (.int .i64 i))))], [(0, .box [.pv (.sl false 7 (tNode.encs c.plan)), .pv (.sl false 7 (tWorker.encs c.workers)), .pv (.sl false 1 (tLink.encs c.links))]), (1, .box [.pv (.sc (.int .i64 0)), .pv (.sc (.int .i64 0))])], 2⟩
def G11_1 (w : World) (Xs : Nat → Prop) (c : CluV) (node : Int) (i : Int) (n' : Int) (k : Int) (r : RES) : Prop := W Tryz.prog 11 Tryz.f11 (Ent0 w Xs) (Back (Ent0 w Xs) r.1 r.2.1 r.2.2) (place (bodyOf Tryz.f11) [1,1,1,1,0,1,0,0,1,0,0,1,1,0,0] [])
  ⟨[(1, .one (.pv (.sc (.int .i64 node)))), (2, .one (.ptr 0 0 0)), (4, .one (.ptr 1 0 0)), (6, .one (.pv (.sc (.int .i64 n')))), (7, .one (.pv (.sc (.int .i64 i)))), (8, .one (.pv (.sl false 3 (tBatch.encs ((nth ((nth c.workers i.toNat).nodes) node.toNat).waits))))), (9, .one (.pv (.sc (.int .i64 k))))], [(0, .box [.pv (.sl false 7 (tNode.encs c.plan)), .pv (.sl false 7 (tWorker.encs c.workers)), .pv (.sl false 1 (tLink.encs c.links))]), (1, .box [.pv (.sc (.int .i64 0)), .pv (.sc (.int .i64 0))])], 2⟩
noncomputable def Y11 (I : Ops) (K : FuncId → En) : CallsA := (Tab.calls [(41, true, callRd I (callE I (K 41) sh41)), (42, true, callRd I (inl X I (Tab.calls []) Tryz.f42))])
theorem tY11 {I : Ops} (hI : I = real) {K : FuncId → En} (k41 : K 41 = en41) : CallsOk Tryz.prog (Y11 I K) := (TabOk.calls mixed ⟨EntryOk.rd (s41 hI k41) hI, fun _ => callRd_quiet _ _, ⟨EntryOk.rd (s42 hI) hI, fun _ => callRd_quiet _ _, trivial⟩⟩)
theorem st11_0 {w : World} {Xs : Nat → Prop} (c : CluV) (node : Int) (n : Int) (i : Int) {r : RES} (h : (if i < (c.workers.length : Int) then ((0 ≤ i ∧ i < (c.workers.length : Int)) ∧ ((0 ≤ node ∧ node < (((nth c.workers i.toNat).nodes).length : Int)) ∧ G11_1 w Xs c node i n 0 r)) else r = (.ag [.pv (.sc (.int .i64 0)), .pv (.sc (.int .i64 n))], [], 0))) : G11_0 w Xs c node n i r := by
  obtain ⟨I, hI⟩ : ∃ I, I = real := ⟨_, rfl⟩; obtain ⟨K, hK⟩ : ∃ K : FuncId → En, K = fun g => (lk g [(41, en41)]).getD default := ⟨_, rfl⟩; have k41 : K 41 = en41 := (by subst hK; rfl); clear hK
  unfold G11_0
  obtain ⟨q0, hq0⟩ : ∃ q, q = (tWorker.encs c.workers) := ⟨_, rfl⟩
  try rw [← hq0]
  obtain ⟨q1, hq1⟩ : ∃ q, q = (tLink.encs c.links) := ⟨_, rfl⟩
  try rw [← hq1]
  obtain ⟨q2, hq2⟩ : ∃ q, q = (tNode.encs c.plan) := ⟨_, rfl⟩
  try rw [← hq2]
  refine W_go (Y := (Y11 I K)) xok (tY11 hI k41) Tryz.func11 rfl 2000 _ hI ?_; (conv => arg 4; cbv)
  repeat' (first | (have hd := And.left h; replace h := And.right h) | ((first | ((with_reducible refine on_eqs ?_ ?_); (focus (with_reducible rfl))) | (with_reducible refine on_both ?_ ?_) | (with_reducible refine on_true (by assumption) ?_) | (with_reducible refine on_false (by assumption) ?_) | (with_reducible refine on_ask (fun g => ?_) (fun g => ?_) <;> (have hc := g) <;> (try simp (disch := omega) [hI, k41, en41, an41, hq0, hq1, hq2, -List.length_eq_zero_iff] at hc) <;> (try (exfalso; omega)) <;> (try (first | (revert h; (refine imp_l ?_ (fun h => ?_)); focus (first | exact hc | assumption | omega | (simpa using hc; done) | (simp (disch := omega) only [wrap_id]; omega))) | (revert h; (refine imp_r ?_ (fun h => ?_)); focus (first | exact hc | assumption | omega | (simpa using hc; done) | (simp (disch := omega) only [wrap_id]; omega)))))) | ((with_reducible refine on_must ?_ ?_); (focus ((simp (disch := omega) [hI, k41, en41, an41, hq0, hq1, hq2]) <;> (first | omega | assumption | ((repeat' (refine And.intro ?_ ?_)) <;> (first | omega | assumption))))))) <;> (conv => arg 4; cbv)))
  all_goals (first | ((with_reducible have hG : G11_0 _ _ _ _ _ _ _ := h); unfold G11_0 at hG; (with_reducible refine on_loop ?_); simp only [List.cons_append, List.nil_append]; refine W_norm [1, 2, 4, 6, 7] ?_ hG) | ((with_reducible have hG : G11_1 _ _ _ _ _ _ _ _ := h); unfold G11_1 at hG; (with_reducible refine on_loop ?_); simp only [List.cons_append, List.nil_append]; refine W_norm [1, 2, 4, 6, 7, 8, 9] ?_ hG) | ((subst h); (with_reducible refine on_ret ?_); refine Ended_of rfl ?_))
  all_goals ((conv => lhs; cbv); (try (first | rfl | ((try simp (disch := omega) [hI, k41, en41, an41, hq0, hq1, hq2, mapE_append, Ty.encs_append, encs1_I64, encs1_U8, encs1, mapE1]) <;> (first | rfl | omega | (simp; done))))))
theorem st11_1 {w : World} {Xs : Nat → Prop} (c : CluV) (node : Int) (i : Int) (n' : Int) (k : Int) {r : RES} (h : (if k < (((nth ((nth c.workers i.toNat).nodes) node.toNat).waits).length : Int) then ((0 ≤ k ∧ k < (((nth ((nth c.workers i.toNat).nodes) node.toNat).waits).length : Int)) ∧ G11_1 w Xs c node i (IntKind.i64.wrap (n' + (((nth ((nth ((nth c.workers i.toNat).nodes) node.toNat).waits) k.toNat).set).length : Int))) (IntKind.i64.wrap (k + 1)) r) else G11_0 w Xs c node n' (IntKind.i64.wrap (i + 1)) r)) : G11_1 w Xs c node i n' k r := by
  obtain ⟨I, hI⟩ : ∃ I, I = real := ⟨_, rfl⟩; obtain ⟨K, hK⟩ : ∃ K : FuncId → En, K = fun g => (lk g [(41, en41)]).getD default := ⟨_, rfl⟩; have k41 : K 41 = en41 := (by subst hK; rfl); clear hK
  unfold G11_1
  obtain ⟨q0, hq0⟩ : ∃ q, q = (tBatch.encs ((nth ((nth c.workers i.toNat).nodes) node.toNat).waits)) := ⟨_, rfl⟩
  try rw [← hq0]
  obtain ⟨q1, hq1⟩ : ∃ q, q = (tWorker.encs c.workers) := ⟨_, rfl⟩
  try rw [← hq1]
  obtain ⟨q2, hq2⟩ : ∃ q, q = (tLink.encs c.links) := ⟨_, rfl⟩
  try rw [← hq2]
  obtain ⟨q3, hq3⟩ : ∃ q, q = (tNode.encs c.plan) := ⟨_, rfl⟩
  try rw [← hq3]
  refine W_go (Y := (Y11 I K)) xok (tY11 hI k41) Tryz.func11 rfl 2000 _ hI ?_; (conv => arg 4; cbv)
  repeat' (first | (have hd := And.left h; replace h := And.right h) | ((first | ((with_reducible refine on_eqs ?_ ?_); (focus (with_reducible rfl))) | (with_reducible refine on_both ?_ ?_) | (with_reducible refine on_true (by assumption) ?_) | (with_reducible refine on_false (by assumption) ?_) | (with_reducible refine on_ask (fun g => ?_) (fun g => ?_) <;> (have hc := g) <;> (try simp (disch := omega) [hI, k41, en41, an41, hq0, hq1, hq2, hq3, -List.length_eq_zero_iff] at hc) <;> (try (exfalso; omega)) <;> (try (first | (revert h; (refine imp_l ?_ (fun h => ?_)); focus (first | exact hc | assumption | omega | (simpa using hc; done) | (simp (disch := omega) only [wrap_id]; omega))) | (revert h; (refine imp_r ?_ (fun h => ?_)); focus (first | exact hc | assumption | omega | (simpa using hc; done) | (simp (disch := omega) only [wrap_id]; omega)))))) | ((with_reducible refine on_must ?_ ?_); (focus ((simp (disch := omega) [hI, k41, en41, an41, hq0, hq1, hq2, hq3]) <;> (first | omega | assumption | ((repeat' (refine And.intro ?_ ?_)) <;> (first | omega | assumption))))))) <;> (conv => arg 4; cbv)))
  all_goals (first | ((with_reducible have hG : G11_0 _ _ _ _ _ _ _ := h); unfold G11_0 at hG; (with_reducible refine on_loop ?_); simp only [List.cons_append, List.nil_append]; refine W_norm [1, 2, 4, 6, 7] ?_ hG) | ((with_reducible have hG : G11_1 _ _ _ _ _ _ _ _ := h); unfold G11_1 at hG; (with_reducible refine on_loop ?_); simp only [List.cons_append, List.nil_append]; refine W_norm [1, 2, 4, 6, 7, 8, 9] ?_ hG) | ((subst h); (with_reducible refine on_ret ?_); refine Ended_of rfl ?_))
  all_goals ((conv => lhs; cbv); (try (first | rfl | ((try simp (disch := omega) [hI, k41, en41, an41, hq0, hq1, hq2, hq3, mapE_append, Ty.encs_append, encs1_I64, encs1_U8, encs1, mapE1]) <;> (first | rfl | omega | (simp; done))))))
theorem go11 (c : CluV) (node : Int) {r : RES} (h : ∀ (w : World) (Xs : Nat → Prop), (((bClu c) = true) ∧ (if cluF c = 0 then (if 0 ≤ node then (if node ≤ (IntKind.i64.wrap ((c.plan.length : Int) - 1)) then G11_0 w Xs c node 0 0 r else r = (.ag [.pv (.sc (.int .i64 3)), .pv (.sc (.int .i64 0))], [], 0)) else r = (.ag [.pv (.sc (.int .i64 3)), .pv (.sc (.int .i64 0))], [], 0)) else r = (.ag [.pv (.sc (.int .i64 (cluF c))), .pv (.sc (.int .i64 0))], [], 0)))) : Ok0 Tryz.prog 11 [(pS tClu).enc c, pI.enc node] r.1 r.2.1 r.2.2 := by
  obtain ⟨I, hI⟩ : ∃ I, I = real := ⟨_, rfl⟩; obtain ⟨K, hK⟩ : ∃ K : FuncId → En, K = fun g => (lk g [(41, en41)]).getD default := ⟨_, rfl⟩; have k41 : K 41 = en41 := (by subst hK; rfl); clear hK
  show Ok0 Tryz.prog 11 [.ag [.pv (.sl false 7 (tNode.encs c.plan)), .pv (.sl false 7 (tWorker.encs c.workers)), .pv (.sl false 1 (tLink.encs c.links))], .one (.pv (.sc (.int .i64 node)))] _ _ _
  obtain ⟨q0, hq0⟩ : ∃ q, q = (tWorker.encs c.workers) := ⟨_, rfl⟩
  try rw [← hq0]
  obtain ⟨q1, hq1⟩ : ∃ q, q = (tLink.encs c.links) := ⟨_, rfl⟩
  try rw [← hq1]
  obtain ⟨q2, hq2⟩ : ∃ q, q = (tNode.encs c.plan) := ⟨_, rfl⟩
  try rw [← hq2]
  refine Ok0_run (Y := (Y11 I K)) xok (tY11 hI k41) Tryz.func11 rfl rfl rfl 2000 hI fun w Xs => ?_; (conv => arg 4; cbv)
  replace h := h w Xs
  repeat' (first | (have hd := And.left h; replace h := And.right h) | ((first | ((with_reducible refine on_eqs ?_ ?_); (focus (with_reducible rfl))) | (with_reducible refine on_both ?_ ?_) | (with_reducible refine on_true (by assumption) ?_) | (with_reducible refine on_false (by assumption) ?_) | (with_reducible refine on_ask (fun g => ?_) (fun g => ?_) <;> (have hc := g) <;> (try simp (disch := omega) [hI, k41, en41, an41, hq0, hq1, hq2, -List.length_eq_zero_iff] at hc) <;> (try (exfalso; omega)) <;> (try (first | (revert h; (refine imp_l ?_ (fun h => ?_)); focus (first | exact hc | assumption | omega | (simpa using hc; done) | (simp (disch := omega) only [wrap_id]; omega))) | (revert h; (refine imp_r ?_ (fun h => ?_)); focus (first | exact hc | assumption | omega | (simpa using hc; done) | (simp (disch := omega) only [wrap_id]; omega)))))) | ((with_reducible refine on_must ?_ ?_); (focus ((simp (disch := omega) [hI, k41, en41, an41, hq0, hq1, hq2]) <;> (first | omega | assumption | ((repeat' (refine And.intro ?_ ?_)) <;> (first | omega | assumption))))))) <;> (conv => arg 4; cbv)))
  all_goals (first | ((with_reducible have hG : G11_0 _ _ _ _ _ _ _ := h); unfold G11_0 at hG; (with_reducible refine on_loop ?_); simp only [List.cons_append, List.nil_append]; refine W_norm [1, 2, 4, 6, 7] ?_ hG) | ((with_reducible have hG : G11_1 _ _ _ _ _ _ _ _ := h); unfold G11_1 at hG; (with_reducible refine on_loop ?_); simp only [List.cons_append, List.nil_append]; refine W_norm [1, 2, 4, 6, 7, 8, 9] ?_ hG) | ((subst h); (with_reducible refine on_ret ?_); refine Ended_of rfl ?_))
  all_goals ((conv => lhs; cbv); (try (first | rfl | ((try simp (disch := omega) [hI, k41, en41, an41, hq0, hq1, hq2, mapE_append, Ty.encs_append, encs1_I64, encs1_U8, encs1, mapE1]) <;> (first | rfl | omega | (simp; done))))))
theorem lw11 {w : World} {Xs : Nat → Prop} (c : CluV) (node : Int) {i : Nat} (hb : (nth (nth c.workers i).nodes node.toNat).waits.length ≤ 1048576) {r : RES} (h9 : i < 3) : ∀ (k j : Nat) (m : Int), k + j = (nth (nth c.workers i).nodes node.toNat).waits.length → G11_0 w Xs c node (wtB ((nth (nth c.workers i).nodes node.toNat).waits.drop j) m) ((i + 1 : Nat) : Int) r → G11_1 w Xs c node i m j r := by
  intro k
  induction k with
  | zero =>
    intro j m hk nx
    rw [drop_nil (l := (nth (nth c.workers i).nodes node.toNat).waits) (by omega)] at nx
    apply st11_1
    rw [Int.toNat_natCast, if_neg (by omega), wsucc (by omega)]
    exact nx
  | succ k ih =>
    intro j m hk nx
    rw [nth_drop (l := (nth (nth c.workers i).nodes node.toNat).waits) (i := j) (by omega), wtB] at nx
    apply st11_1
    rw [Int.toNat_natCast, if_pos (by omega), wsucc (by omega), Int.toNat_natCast]
    exact ⟨by omega, ih (j + 1) _ (by omega) nx⟩
theorem lm11 {w : World} {Xs : Nat → Prop} (c : CluV) (node : Int) (hc : cluF c = 0) (hb : bClu c = true) (hn : inP c node) : ∀ (k i : Nat) (m : Int), k + i = c.workers.length → G11_0 w Xs c node m i (rII 0 (wtW node (c.workers.drop i) m)) := by
  obtain ⟨h0, h3, h9, _, hnd⟩ := cluF_ok hc
  unfold inP at hn
  intro k
  induction k with
  | zero =>
    intro i m hk
    apply st11_0
    rw [if_neg (by omega), drop_nil (l := c.workers) (by omega)]
    rfl
  | succ k ih =>
    intro i m hk
    have hx := bWorkerS_nth (bClu_p hb).2.1 (i := i) (by omega)
    have hy := hnd i (by omega)
    have hz := bHeldS_nth (bWorker_p hx).2.2.1 (i := node.toNat) (by omega)
    have hl := bBatchS_len (bHeld_p hz).2.2
    apply st11_0
    rw [if_pos (by omega), nth_drop (l := c.workers) (i := i) (by omega), wtW]
    refine ⟨by omega, by rw [Int.toNat_natCast]; omega, ?_⟩
    exact lw11 c node hl (by omega) (nth (nth c.workers i).nodes node.toNat).waits.length 0 m rfl (ih (i + 1) _ (by omega))
def sh11 : Shp := fun I i b l s => .ok (.ag [.pv (.sc (.int .i64 (i 0))), .pv (.sc (.int .i64 (i 1)))], [], 0)
def an11 : An (CluV × Int × Unit) where
  pre t := (bClu t.1)
  i j t := match j with | 0 => wtC t.1 t.2.1 | _ => wtV t.1 t.2.1
noncomputable def en11 : En := mkE (parsC (pS tClu) (parsC pI pars0)) an11
theorem ok11 (c : CluV) (node : Int) (p0 : bClu c = true) : Ok0 Tryz.prog 11 [(pS tClu).enc c, pI.enc node] ((.ag [.pv (.sc (.int .i64 (wtC c node))), .pv (.sc (.int .i64 (wtV c node)))], [], 0) : RES).1 ((.ag [.pv (.sc (.int .i64 (wtC c node))), .pv (.sc (.int .i64 (wtV c node)))], [], 0) : RES).2.1 ((.ag [.pv (.sc (.int .i64 (wtC c node))), .pv (.sc (.int .i64 (wtV c node)))], [], 0) : RES).2.2 := by
  have hl := bNodeS_len (bClu_p p0).1
  have hwr : IntKind.i64.wrap ((c.plan.length : Int) - 1) = (c.plan.length : Int) - 1 := by rw [IntKind.wrap_i64]; omega
  show Ok0 _ _ _ (rII (wtC c node) (wtV c node)).1 (rII (wtC c node) (wtV c node)).2.1 (rII (wtC c node) (wtV c node)).2.2
  refine go11 c node fun w Xs => ⟨p0, ?_⟩
  rw [hwr]
  unfold wtC wtV
  refine if_go (fun q => ?_) (fun q => ?_)
  · rw [if_pos q, if_pos q]
    by_cases hn : inP c node
    · rw [if_pos hn, if_pos hn, if_pos hn.1, if_pos hn.2]
      exact lm11 c node q p0 hn c.workers.length 0 0 rfl
    · rw [if_neg hn, if_neg hn]
      unfold inP at hn
      (repeat' (first | (refine And.intro ?_ ?_) | (refine if_go (fun q => ?_) (fun q => ?_))))
      all_goals first
        | omega
        | rfl
  · rw [if_neg q, if_neg q]
theorem s11 {I : Ops} (hI : I = real) {e : En} (he : e = en11) : Sound Tryz.prog 11 (callE I e sh11) := by
  refine Sound.mkE ent11 hI (fun _ => rfl) ?_ he
  rintro ⟨c, node, ⟨⟩⟩ hp
  have hp : ((bClu c)) = true := hp
  try simp only [Bool.and_eq_true, decide_eq_true_eq] at hp
  have p0 := hp
  exact ok11 c node p0
theorem ent49 : Enters Tryz.prog 49 := ⟨Tryz.f49, Tryz.func49, by kernel_rfl, by kernel_rfl⟩
theorem s49 {I : Ops} (hI : I = real)  : Sound Tryz.prog 49 (inl X I (Tab.calls []) Tryz.f49) :=
  Sound.inl (Y := (Tab.calls [])) xok (TabOk.calls mixed trivial) ent49 Tryz.func49 rfl rfl hI
theorem ent13 : Enters Tryz.prog 13 := ⟨Tryz.f13, Tryz.func13, by kernel_rfl, by kernel_rfl⟩
def G13_0 (w : World) (Xs : Nat → Prop) (c : CluV) (node : Int) (b0_0 : Int) (b0_1 : Int) (out' : Int) (x28 : Int) (r : RES) : Prop := W Tryz.prog 13 Tryz.f13 (Ent0 w Xs) (Back (Ent0 w Xs) r.1 r.2.1 r.2.2) (place (bodyOf Tryz.f13) [1,1,1,1,0,1,0,0] [])
  ⟨[(1, .one (.pv (.sc (.int .i64 node)))), (4, .one (.ptr 0 0 0)), (6, .one (.pv (.sc (.int .i64 out')))), (26, .one (.pv (.sl false 7 (tWorker.encs c.workers)))), (27, .one (.pv (.sc (.int .i64 (c.workers.length : Int))))), (28, .one (.pv (.sc (.int .i64 x28))))], [(0, .box [.pv (.sc (.int .i64 b0_0)), .pv (.sc (.int .i64 b0_1))])], 1⟩
def G13_1 (w : World) (Xs : Nat → Prop) (c : CluV) (node : Int) (x28 : Int) (b0_0' : Int) (b0_1' : Int) (out'' : Int) (x39 : Int) (r : RES) : Prop := W Tryz.prog 13 Tryz.f13 (Ent0 w Xs) (Back (Ent0 w Xs) r.1 r.2.1 r.2.2) (place (bodyOf Tryz.f13) [1,1,1,1,0,1,0,0,1,1,0,0,1,1,0,0] [])
  ⟨[(1, .one (.pv (.sc (.int .i64 node)))), (4, .one (.ptr 0 0 0)), (6, .one (.pv (.sc (.int .i64 out'')))), (26, .one (.pv (.sl false 7 (tWorker.encs c.workers)))), (27, .one (.pv (.sc (.int .i64 (c.workers.length : Int))))), (28, .one (.pv (.sc (.int .i64 x28)))), (37, .one (.pv (.sl false 3 (tBatch.encs ((nth ((nth c.workers x28.toNat).nodes) node.toNat).waits))))), (38, .one (.pv (.sc (.int .i64 (((nth ((nth c.workers x28.toNat).nodes) node.toNat).waits).length : Int))))), (39, .one (.pv (.sc (.int .i64 x39))))], [(0, .box [.pv (.sc (.int .i64 b0_0')), .pv (.sc (.int .i64 b0_1'))])], 1⟩
noncomputable def Y13 (I : Ops) (K : FuncId → En) : CallsA := (Tab.calls [(46, true, callRd I (callE I (K 46) sh46)), (48, true, callRd I (inl X I (Tab.calls []) Tryz.f48)), (47, true, callRd I (inl X I (Tab.calls []) Tryz.f47)), (49, true, callRd I (inl X I (Tab.calls []) Tryz.f49))])
theorem tY13 {I : Ops} (hI : I = real) {K : FuncId → En} (k46 : K 46 = en46) : CallsOk Tryz.prog (Y13 I K) := (TabOk.calls mixed ⟨EntryOk.rd (s46 hI k46) hI, fun _ => callRd_quiet _ _, ⟨EntryOk.rd (s48 hI) hI, fun _ => callRd_quiet _ _, ⟨EntryOk.rd (s47 hI) hI, fun _ => callRd_quiet _ _, ⟨EntryOk.rd (s49 hI) hI, fun _ => callRd_quiet _ _, trivial⟩⟩⟩⟩)
theorem st13_0 {w : World} {Xs : Nat → Prop} (c : CluV) (node : Int) (b0_0 : Int) (b0_1 : Int) (out' : Int) (x28 : Int) {r : RES} (h : (if x28 < (c.workers.length : Int) then ((0 ≤ x28 ∧ x28 < (c.workers.length : Int)) ∧ ((0 ≤ node ∧ node < (((nth c.workers x28.toNat).nodes).length : Int)) ∧ G13_1 w Xs c node x28 b0_0 b0_1 out' 0 r)) else r = (.ag [.pv (.sc (.int .i64 0)), .pv (.sc (.int .i64 out'))], [], 0))) : G13_0 w Xs c node b0_0 b0_1 out' x28 r := by
  obtain ⟨I, hI⟩ : ∃ I, I = real := ⟨_, rfl⟩; obtain ⟨K, hK⟩ : ∃ K : FuncId → En, K = fun g => (lk g [(46, en46)]).getD default := ⟨_, rfl⟩; have k46 : K 46 = en46 := (by subst hK; rfl); clear hK
  unfold G13_0
  obtain ⟨q0, hq0⟩ : ∃ q, q = (tWorker.encs c.workers) := ⟨_, rfl⟩
  try rw [← hq0]
  obtain ⟨q1, hq1⟩ : ∃ q, q = (c.workers.length : Int) := ⟨_, rfl⟩
  try rw [← hq1]
  refine W_go (Y := (Y13 I K)) xok (tY13 hI k46) Tryz.func13 rfl 2000 _ hI ?_; (conv => arg 4; cbv)
  repeat' (first | (have hd := And.left h; replace h := And.right h) | ((first | ((with_reducible refine on_eqs ?_ ?_); (focus (with_reducible rfl))) | (with_reducible refine on_both ?_ ?_) | (with_reducible refine on_true (by assumption) ?_) | (with_reducible refine on_false (by assumption) ?_) | (with_reducible refine on_ask (fun g => ?_) (fun g => ?_) <;> (have hc := g) <;> (try simp (disch := omega) [hI, k46, en46, an46, hq0, hq1, -List.length_eq_zero_iff] at hc) <;> (try (exfalso; omega)) <;> (try (first | (revert h; (refine imp_l ?_ (fun h => ?_)); focus (first | exact hc | assumption | omega | (simpa using hc; done) | (simp (disch := omega) only [wrap_id]; omega))) | (revert h; (refine imp_r ?_ (fun h => ?_)); focus (first | exact hc | assumption | omega | (simpa using hc; done) | (simp (disch := omega) only [wrap_id]; omega)))))) | ((with_reducible refine on_must ?_ ?_); (focus ((simp (disch := omega) [hI, k46, en46, an46, hq0, hq1]) <;> (first | omega | assumption | ((repeat' (refine And.intro ?_ ?_)) <;> (first | omega | assumption))))))) <;> (conv => arg 4; cbv)))
  all_goals (first | ((with_reducible have hG : G13_0 _ _ _ _ _ _ _ _ _ := h); unfold G13_0 at hG; (with_reducible refine on_loop ?_); simp only [List.cons_append, List.nil_append]; refine W_norm [1, 4, 6, 26, 27, 28] ?_ hG) | ((with_reducible have hG : G13_1 _ _ _ _ _ _ _ _ _ _ := h); unfold G13_1 at hG; (with_reducible refine on_loop ?_); simp only [List.cons_append, List.nil_append]; refine W_norm [1, 4, 6, 26, 27, 28, 37, 38, 39] ?_ hG) | ((subst h); (with_reducible refine on_ret ?_); refine Ended_of rfl ?_))
  all_goals ((conv => lhs; cbv); (try (first | rfl | ((try simp (disch := omega) [hI, k46, en46, an46, hq0, hq1, mapE_append, Ty.encs_append, encs1_I64, encs1_U8, encs1, mapE1]) <;> (first | rfl | omega | (simp; done))))))
theorem st13_1 {w : World} {Xs : Nat → Prop} (c : CluV) (node : Int) (x28 : Int) (b0_0' : Int) (b0_1' : Int) (out'' : Int) (x39 : Int) {r : RES} (h : (if x39 < (((nth ((nth c.workers x28.toNat).nodes) node.toNat).waits).length : Int) then ((0 ≤ x39 ∧ x39 < (((nth ((nth c.workers x28.toNat).nodes) node.toNat).waits).length : Int)) ∧ G13_1 w Xs c node x28 b0_0' b0_1' (IntKind.i64.wrap (out'' + (((nth ((nth ((nth c.workers x28.toNat).nodes) node.toNat).waits) x39.toNat).set).length : Int))) (IntKind.i64.wrap (x39 + 1)) r) else G13_0 w Xs c node b0_0' b0_1' out'' (IntKind.i64.wrap (x28 + 1)) r)) : G13_1 w Xs c node x28 b0_0' b0_1' out'' x39 r := by
  obtain ⟨I, hI⟩ : ∃ I, I = real := ⟨_, rfl⟩; obtain ⟨K, hK⟩ : ∃ K : FuncId → En, K = fun g => (lk g [(46, en46)]).getD default := ⟨_, rfl⟩; have k46 : K 46 = en46 := (by subst hK; rfl); clear hK
  unfold G13_1
  obtain ⟨q0, hq0⟩ : ∃ q, q = (((nth ((nth c.workers x28.toNat).nodes) node.toNat).waits).length : Int) := ⟨_, rfl⟩
  try rw [← hq0]
  obtain ⟨q1, hq1⟩ : ∃ q, q = (tBatch.encs ((nth ((nth c.workers x28.toNat).nodes) node.toNat).waits)) := ⟨_, rfl⟩
  try rw [← hq1]
  obtain ⟨q2, hq2⟩ : ∃ q, q = (tWorker.encs c.workers) := ⟨_, rfl⟩
  try rw [← hq2]
  obtain ⟨q3, hq3⟩ : ∃ q, q = (c.workers.length : Int) := ⟨_, rfl⟩
  try rw [← hq3]
  refine W_go (Y := (Y13 I K)) xok (tY13 hI k46) Tryz.func13 rfl 2000 _ hI ?_; (conv => arg 4; cbv)
  repeat' (first | (have hd := And.left h; replace h := And.right h) | ((first | ((with_reducible refine on_eqs ?_ ?_); (focus (with_reducible rfl))) | (with_reducible refine on_both ?_ ?_) | (with_reducible refine on_true (by assumption) ?_) | (with_reducible refine on_false (by assumption) ?_) | (with_reducible refine on_ask (fun g => ?_) (fun g => ?_) <;> (have hc := g) <;> (try simp (disch := omega) [hI, k46, en46, an46, hq0, hq1, hq2, hq3, -List.length_eq_zero_iff] at hc) <;> (try (exfalso; omega)) <;> (try (first | (revert h; (refine imp_l ?_ (fun h => ?_)); focus (first | exact hc | assumption | omega | (simpa using hc; done) | (simp (disch := omega) only [wrap_id]; omega))) | (revert h; (refine imp_r ?_ (fun h => ?_)); focus (first | exact hc | assumption | omega | (simpa using hc; done) | (simp (disch := omega) only [wrap_id]; omega)))))) | ((with_reducible refine on_must ?_ ?_); (focus ((simp (disch := omega) [hI, k46, en46, an46, hq0, hq1, hq2, hq3]) <;> (first | omega | assumption | ((repeat' (refine And.intro ?_ ?_)) <;> (first | omega | assumption))))))) <;> (conv => arg 4; cbv)))
  all_goals (first | ((with_reducible have hG : G13_0 _ _ _ _ _ _ _ _ _ := h); unfold G13_0 at hG; (with_reducible refine on_loop ?_); simp only [List.cons_append, List.nil_append]; refine W_norm [1, 4, 6, 26, 27, 28] ?_ hG) | ((with_reducible have hG : G13_1 _ _ _ _ _ _ _ _ _ _ := h); unfold G13_1 at hG; (with_reducible refine on_loop ?_); simp only [List.cons_append, List.nil_append]; refine W_norm [1, 4, 6, 26, 27, 28, 37, 38, 39] ?_ hG) | ((subst h); (with_reducible refine on_ret ?_); refine Ended_of rfl ?_))
  all_goals ((conv => lhs; cbv); (try (first | rfl | ((try simp (disch := omega) [hI, k46, en46, an46, hq0, hq1, hq2, hq3, mapE_append, Ty.encs_append, encs1_I64, encs1_U8, encs1, mapE1]) <;> (first | rfl | omega | (simp; done))))))
theorem go13 (c : CluV) (node : Int) {r : RES} (h : ∀ (w : World) (Xs : Nat → Prop), (((bClu c) = true) ∧ (if cluF c = 0 then (if 0 ≤ node then (if node ≤ (IntKind.i64.wrap ((c.plan.length : Int) - 1)) then G13_0 w Xs c node 0 0 0 0 r else r = (.ag [.pv (.sc (.int .i64 3)), .pv (.sc (.int .i64 0))], [], 0)) else r = (.ag [.pv (.sc (.int .i64 3)), .pv (.sc (.int .i64 0))], [], 0)) else r = (.ag [.pv (.sc (.int .i64 (cluF c))), .pv (.sc (.int .i64 0))], [], 0)))) : Ok0 Tryz.prog 13 [(pS tClu).enc c, pI.enc node] r.1 r.2.1 r.2.2 := by
  obtain ⟨I, hI⟩ : ∃ I, I = real := ⟨_, rfl⟩; obtain ⟨K, hK⟩ : ∃ K : FuncId → En, K = fun g => (lk g [(46, en46)]).getD default := ⟨_, rfl⟩; have k46 : K 46 = en46 := (by subst hK; rfl); clear hK
  show Ok0 Tryz.prog 13 [.ag [.pv (.sl false 7 (tNode.encs c.plan)), .pv (.sl false 7 (tWorker.encs c.workers)), .pv (.sl false 1 (tLink.encs c.links))], .one (.pv (.sc (.int .i64 node)))] _ _ _
  obtain ⟨q0, hq0⟩ : ∃ q, q = (tWorker.encs c.workers) := ⟨_, rfl⟩
  try rw [← hq0]
  obtain ⟨q1, hq1⟩ : ∃ q, q = (tLink.encs c.links) := ⟨_, rfl⟩
  try rw [← hq1]
  obtain ⟨q2, hq2⟩ : ∃ q, q = (tNode.encs c.plan) := ⟨_, rfl⟩
  try rw [← hq2]
  refine Ok0_run (Y := (Y13 I K)) xok (tY13 hI k46) Tryz.func13 rfl rfl rfl 2000 hI fun w Xs => ?_; (conv => arg 4; cbv)
  replace h := h w Xs
  repeat' (first | (have hd := And.left h; replace h := And.right h) | ((first | ((with_reducible refine on_eqs ?_ ?_); (focus (with_reducible rfl))) | (with_reducible refine on_both ?_ ?_) | (with_reducible refine on_true (by assumption) ?_) | (with_reducible refine on_false (by assumption) ?_) | (with_reducible refine on_ask (fun g => ?_) (fun g => ?_) <;> (have hc := g) <;> (try simp (disch := omega) [hI, k46, en46, an46, hq0, hq1, hq2, -List.length_eq_zero_iff] at hc) <;> (try (exfalso; omega)) <;> (try (first | (revert h; (refine imp_l ?_ (fun h => ?_)); focus (first | exact hc | assumption | omega | (simpa using hc; done) | (simp (disch := omega) only [wrap_id]; omega))) | (revert h; (refine imp_r ?_ (fun h => ?_)); focus (first | exact hc | assumption | omega | (simpa using hc; done) | (simp (disch := omega) only [wrap_id]; omega)))))) | ((with_reducible refine on_must ?_ ?_); (focus ((simp (disch := omega) [hI, k46, en46, an46, hq0, hq1, hq2]) <;> (first | omega | assumption | ((repeat' (refine And.intro ?_ ?_)) <;> (first | omega | assumption))))))) <;> (conv => arg 4; cbv)))
  all_goals (first | ((with_reducible have hG : G13_0 _ _ _ _ _ _ _ _ _ := h); unfold G13_0 at hG; (with_reducible refine on_loop ?_); simp only [List.cons_append, List.nil_append]; refine W_norm [1, 4, 6, 26, 27, 28] ?_ hG) | ((with_reducible have hG : G13_1 _ _ _ _ _ _ _ _ _ _ := h); unfold G13_1 at hG; (with_reducible refine on_loop ?_); simp only [List.cons_append, List.nil_append]; refine W_norm [1, 4, 6, 26, 27, 28, 37, 38, 39] ?_ hG) | ((subst h); (with_reducible refine on_ret ?_); refine Ended_of rfl ?_))
  all_goals ((conv => lhs; cbv); (try (first | rfl | ((try simp (disch := omega) [hI, k46, en46, an46, hq0, hq1, hq2, mapE_append, Ty.encs_append, encs1_I64, encs1_U8, encs1, mapE1]) <;> (first | rfl | omega | (simp; done))))))
theorem lw13 {w : World} {Xs : Nat → Prop} (c : CluV) (node : Int) (b0 b1 : Int) {i : Nat} (hb : (nth (nth c.workers i).nodes node.toNat).waits.length ≤ 1048576) {r : RES} (h9 : i < 3) : ∀ (k j : Nat) (m : Int), k + j = (nth (nth c.workers i).nodes node.toNat).waits.length → G13_0 w Xs c node b0 b1 (wtB ((nth (nth c.workers i).nodes node.toNat).waits.drop j) m) ((i + 1 : Nat) : Int) r → G13_1 w Xs c node i b0 b1 m j r := by
  intro k
  induction k with
  | zero =>
    intro j m hk nx
    rw [drop_nil (l := (nth (nth c.workers i).nodes node.toNat).waits) (by omega)] at nx
    apply st13_1
    rw [Int.toNat_natCast, if_neg (by omega), wsucc (by omega)]
    exact nx
  | succ k ih =>
    intro j m hk nx
    rw [nth_drop (l := (nth (nth c.workers i).nodes node.toNat).waits) (i := j) (by omega), wtB] at nx
    apply st13_1
    rw [Int.toNat_natCast, if_pos (by omega), wsucc (by omega), Int.toNat_natCast]
    exact ⟨by omega, ih (j + 1) _ (by omega) nx⟩
theorem lm13 {w : World} {Xs : Nat → Prop} (c : CluV) (node : Int) (b0 b1 : Int) (hc : cluF c = 0) (hb : bClu c = true) (hn : inP c node) : ∀ (k i : Nat) (m : Int), k + i = c.workers.length → G13_0 w Xs c node b0 b1 m i (rII 0 (wtW node (c.workers.drop i) m)) := by
  obtain ⟨h0, h3, h9, _, hnd⟩ := cluF_ok hc
  unfold inP at hn
  intro k
  induction k with
  | zero =>
    intro i m hk
    apply st13_0
    rw [if_neg (by omega), drop_nil (l := c.workers) (by omega)]
    rfl
  | succ k ih =>
    intro i m hk
    have hx := bWorkerS_nth (bClu_p hb).2.1 (i := i) (by omega)
    have hy := hnd i (by omega)
    have hz := bHeldS_nth (bWorker_p hx).2.2.1 (i := node.toNat) (by omega)
    have hl := bBatchS_len (bHeld_p hz).2.2
    apply st13_0
    rw [if_pos (by omega), nth_drop (l := c.workers) (i := i) (by omega), wtW]
    refine ⟨by omega, by rw [Int.toNat_natCast]; omega, ?_⟩
    exact lw13 c node _ _ hl (by omega) (nth (nth c.workers i).nodes node.toNat).waits.length 0 m rfl (ih (i + 1) _ (by omega))
def sh13 : Shp := fun I i b l s => .ok (.ag [.pv (.sc (.int .i64 (i 0))), .pv (.sc (.int .i64 (i 1)))], [], 0)
def an13 : An (CluV × Int × Unit) where
  pre t := (bClu t.1)
  i j t := match j with | 0 => wtC t.1 t.2.1 | _ => wtV t.1 t.2.1
noncomputable def en13 : En := mkE (parsC (pS tClu) (parsC pI pars0)) an13
theorem ok13 (c : CluV) (node : Int) (p0 : bClu c = true) : Ok0 Tryz.prog 13 [(pS tClu).enc c, pI.enc node] ((.ag [.pv (.sc (.int .i64 (wtC c node))), .pv (.sc (.int .i64 (wtV c node)))], [], 0) : RES).1 ((.ag [.pv (.sc (.int .i64 (wtC c node))), .pv (.sc (.int .i64 (wtV c node)))], [], 0) : RES).2.1 ((.ag [.pv (.sc (.int .i64 (wtC c node))), .pv (.sc (.int .i64 (wtV c node)))], [], 0) : RES).2.2 := by
  have hl := bNodeS_len (bClu_p p0).1
  have hwr : IntKind.i64.wrap ((c.plan.length : Int) - 1) = (c.plan.length : Int) - 1 := by rw [IntKind.wrap_i64]; omega
  show Ok0 _ _ _ (rII (wtC c node) (wtV c node)).1 (rII (wtC c node) (wtV c node)).2.1 (rII (wtC c node) (wtV c node)).2.2
  refine go13 c node fun w Xs => ⟨p0, ?_⟩
  rw [hwr]
  unfold wtC wtV
  refine if_go (fun q => ?_) (fun q => ?_)
  · rw [if_pos q, if_pos q]
    by_cases hn : inP c node
    · rw [if_pos hn, if_pos hn, if_pos hn.1, if_pos hn.2]
      exact lm13 c node _ _ q p0 hn c.workers.length 0 0 rfl
    · rw [if_neg hn, if_neg hn]
      unfold inP at hn
      (repeat' (first | (refine And.intro ?_ ?_) | (refine if_go (fun q => ?_) (fun q => ?_))))
      all_goals first
        | omega
        | rfl
  · rw [if_neg q, if_neg q]
theorem s13 {I : Ops} (hI : I = real) {e : En} (he : e = en13) : Sound Tryz.prog 13 (callE I e sh13) := by
  refine Sound.mkE ent13 hI (fun _ => rfl) ?_ he
  rintro ⟨c, node, ⟨⟩⟩ hp
  have hp : ((bClu c)) = true := hp
  try simp only [Bool.and_eq_true, decide_eq_true_eq] at hp
  have p0 := hp
  exact ok13 c node p0
end Go.Proofs.Tryz
