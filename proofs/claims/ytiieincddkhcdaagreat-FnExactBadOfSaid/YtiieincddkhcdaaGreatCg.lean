/- Contracts. -/
import Derived.Test.YtiieincddkhcdaaGreatCf
set_option linter.unusedSimpArgs false
set_option linter.unusedVariables false
namespace Go.Proofs.Tryz
open Go Go.Aix
set_option maxRecDepth 100000
set_option maxHeartbeats 4000000
def outF (plan : List NodeV) (r : ReleaseV) : Int :=
  if 0 ≤ r.node ∧ r.node ≤ (plan.length : Int) - 1 then
    (if (nth plan r.node.toNat).op = 12 then (if 0 ≤ r.epoch ∧ r.epoch ≤ 19 then wdF r.set (wat plan r.node) else 3) else 3)
  else 3
def inF (plan : List NodeV) (f : FrameV) : Int := if frmF plan f = 0 then (if f.kind = 1 then 0 else 1) else frmF plan f
def hldLp (plan : List NodeV) : List HeldV → Nat → Int
  | [], _ => 0
  | h :: r, i => if heldF plan (i : Int) h = 0 then hldLp plan r (i + 1) else heldF plan (i : Int) h
def tailW (plan : List NodeV) (epoch top : Int) (outs : List ReleaseV) : Int :=
  if 0 ≤ top ∧ top ≤ 20 ∧ (epoch = -1 ∨ epoch = top) then fstF (outF plan) outs else 3
def nodesW (plan : List NodeV) (nodes : List HeldV) (i : Nat) (epoch top : Int) (outs : List ReleaseV) : Int :=
  if hldLp plan nodes i = 0 then tailW plan epoch top outs else hldLp plan nodes i
def cntsW (plan : List NodeV) (counts : List CountV) (nodes : List HeldV) (epoch top : Int) (outs : List ReleaseV) : Int :=
  if cntF plan counts = 0 then (if nodes.length = plan.length then nodesW plan nodes 0 epoch top outs else 2) else cntF plan counts
def inbW (plan : List NodeV) (inbox : List FrameV) (counts : List CountV) (nodes : List HeldV) (epoch top : Int) (outs : List ReleaseV) : Int :=
  if fstF (inF plan) inbox = 0 then cntsW plan counts nodes epoch top outs else fstF (inF plan) inbox
def wkrF (plan : List NodeV) (w : WorkerV) : Int :=
  if 60 < w.inbox.length then 2 else if 400 < w.outs.length then 2 else inbW plan w.inbox w.counts w.nodes w.epoch w.top w.outs
theorem inb_pos {plan : List NodeV} {x : FrameV} {r : List FrameV} {c : List CountV} {h : List HeldV} {e t : Int} {o : List ReleaseV} (q : frmF plan x = 0) (q2 : x.kind = 1) : inbW plan (x :: r) c h e t o = inbW plan r c h e t o := by
  unfold inbW; rw [fst_pos (by unfold inF; rw [if_pos q, if_pos q2])]
theorem inb_neg {plan : List NodeV} {x : FrameV} {r : List FrameV} {c : List CountV} {h : List HeldV} {e t v : Int} {o : List ReleaseV} (q : inF plan x = v) (q2 : ¬ v = 0) : inbW plan (x :: r) c h e t o = v := by
  unfold inbW; rw [fst_neg (by rw [q]; exact q2), q, if_neg q2]
theorem nod_pos {plan : List NodeV} {x : HeldV} {r : List HeldV} {i : Nat} {e t : Int} {o : List ReleaseV} (q : heldF plan (i : Int) x = 0) : nodesW plan (x :: r) i e t o = nodesW plan r (i + 1) e t o := by
  unfold nodesW; rw [hldLp, if_pos q]
theorem nod_neg {plan : List NodeV} {x : HeldV} {r : List HeldV} {i : Nat} {e t : Int} {o : List ReleaseV} (q : ¬ heldF plan (i : Int) x = 0) : nodesW plan (x :: r) i e t o = heldF plan (i : Int) x := by
  unfold nodesW; rw [hldLp, if_neg q, if_neg q]
theorem ent110 : Enters Tryz.prog 110 := ⟨Tryz.f110, Tryz.func110, by kernel_rfl, by kernel_rfl⟩
def G110_0 (w : World) (Xs : Nat → Prop) (plan : List NodeV) (b0_0 : List FrameV) (b0_1 : List CountV) (b0_2 : List HeldV) (b0_3 : Int) (b0_4 : Int) (b0_5 : List ReleaseV) (b0_6 : Bool) (i : Int) (r : RES) : Prop := W Tryz.prog 110 Tryz.f110 (Ent0 w Xs) (Back (Ent0 w Xs) r.1 r.2.1 r.2.2) (place (bodyOf Tryz.f110) [1,0,1,0,0] [])
  ⟨[(0, .one (.pv (.sl false 7 (tNode.encs plan)))), (3, .one (.ptr 0 0 0)), (5, .one (.pv (.sc (.int .i64 i))))], [(0, .box [.pv (.sl false 6 (tFrame.encs b0_0)), .pv (.sl false 3 (tCount.encs b0_1)), .pv (.sl false 4 (tHeld.encs b0_2)), .pv (.sc (.int .i64 b0_3)), .pv (.sc (.int .i64 b0_4)), .pv (.sl false 3 (tRelease.encs b0_5)), .pv (.sc (.bool b0_6))])], 1⟩
theorem st110_0 {w : World} {Xs : Nat → Prop} (plan : List NodeV) (b0_0 : List FrameV) (b0_1 : List CountV) (b0_2 : List HeldV) (b0_3 : Int) (b0_4 : Int) (b0_5 : List ReleaseV) (b0_6 : Bool) (i : Int) {r : RES} (h : (if i < (b0_5.length : Int) then ((0 ≤ i ∧ i < (b0_5.length : Int)) ∧ (if 0 ≤ (nth b0_5 i.toNat).node then (if (nth b0_5 i.toNat).node ≤ (IntKind.i64.wrap ((plan.length : Int) - 1)) then ((0 ≤ (nth b0_5 i.toNat).node ∧ (nth b0_5 i.toNat).node < (plan.length : Int)) ∧ (if (nth plan (((nth b0_5 i.toNat).node).toNat)).op = 12 then (if 0 ≤ (nth b0_5 i.toNat).epoch then (if (nth b0_5 i.toNat).epoch ≤ 19 then ((0 ≤ ((nth b0_5 i.toNat).node) ∧ ((nth b0_5 i.toNat).node) < 100) ∧ ((((nth b0_5 i.toNat).node) < plan.length) ∧ ((plan.length < 4611686018427387904) ∧ ((((wid plan ((nth b0_5 i.toNat).node).toNat).isSome) = true) ∧ (if wdF ((nth b0_5 i.toNat).set) ((wid plan ((nth b0_5 i.toNat).node).toNat).getD 0) = 0 then G110_0 w Xs plan b0_0 b0_1 b0_2 b0_3 b0_4 b0_5 b0_6 (IntKind.i64.wrap (i + 1)) r else r = (.one (.pv (.sc (.int .i64 (wdF ((nth b0_5 i.toNat).set) ((wid plan ((nth b0_5 i.toNat).node).toNat).getD 0))))), [], 0)))))) else r = (.one (.pv (.sc (.int .i64 3))), [], 0)) else r = (.one (.pv (.sc (.int .i64 3))), [], 0)) else r = (.one (.pv (.sc (.int .i64 3))), [], 0))) else r = (.one (.pv (.sc (.int .i64 3))), [], 0)) else r = (.one (.pv (.sc (.int .i64 3))), [], 0))) else r = (.one (.pv (.sc (.int .i64 0))), [], 0))) : G110_0 w Xs plan b0_0 b0_1 b0_2 b0_3 b0_4 b0_5 b0_6 i r := by
  obtain ⟨I, hI⟩ : ∃ I, I = real := ⟨_, rfl⟩; obtain ⟨K, k138, k145⟩ : ∃ K : FuncId → En, K 138 = (en138 100) ∧ K 145 = en145 := ⟨fun g => (lk g [(138, (en138 100)), (145, en145)]).getD default, rfl, rfl⟩
  unfold G110_0
  obtain ⟨q0, hq0⟩ := eqv (tRelease.encs b0_5)
  try rw [← hq0]
  obtain ⟨q1, hq1⟩ := eqv (tFrame.encs b0_0)
  try rw [← hq1]
  obtain ⟨q2, hq2⟩ := eqv (tCount.encs b0_1)
  try rw [← hq2]
  obtain ⟨q3, hq3⟩ := eqv (tNode.encs plan)
  try rw [← hq3]
  obtain ⟨q4, hq4⟩ := eqv (tHeld.encs b0_2)
  try rw [← hq4]
  refine W_go (Y := (Tab.calls [(42, true, callRd I (inl X I (Tab.calls []) Tryz.f42)), (138, true, callRd I (callE I (K 138) sh138)), (145, true, callRd I (callE I (K 145) sh145))])) xok (TabOk.calls mixed ⟨EntryOk.rd (s42 hI) hI, fun _ => callRd_quiet _ _, ⟨EntryOk.rd (s138 hI k138) hI, fun _ => callRd_quiet _ _, ⟨EntryOk.rd (s145 hI k145) hI, fun _ => callRd_quiet _ _, trivial⟩⟩⟩) Tryz.func110 rfl 2000 _ hI ?_; (conv => arg 4; cbv)
  repeat' (first | (have hd := And.left h; replace h := And.right h) | ((first | ((with_reducible refine on_eqs ?_ ?_); (focus (with_reducible rfl))) | (with_reducible refine on_both ?_ ?_) | (with_reducible refine on_true (by assumption) ?_) | (with_reducible refine on_false (by assumption) ?_) | (with_reducible refine on_ask (fun g => ?_) (fun g => ?_) <;> (have hc := g) <;> (try simp (disch := omega) [hI, k138, en138, an138, k145, en145, an145, hq0, hq1, hq2, hq3, hq4, -List.length_eq_zero_iff] at hc) <;> (try (exfalso; omega)) <;> (try (first | (revert h; (refine imp_l ?_ (fun h => ?_)); focus (first | exact hc | assumption | omega | (simpa using hc; done) | (simp (disch := omega) only [wrap_id]; omega))) | (revert h; (refine imp_r ?_ (fun h => ?_)); focus (first | exact hc | assumption | omega | (simpa using hc; done) | (simp (disch := omega) only [wrap_id]; omega)))))) | ((with_reducible refine on_must ?_ ?_); (focus ((simp (disch := omega) [hI, k138, en138, an138, k145, en145, an145, hq0, hq1, hq2, hq3, hq4]) <;> (first | omega | assumption | ((repeat' (refine And.intro ?_ ?_)) <;> (first | omega | assumption))))))) <;> (conv => arg 4; cbv)))
  all_goals (first | ((with_reducible have hG : G110_0 _ _ _ _ _ _ _ _ _ _ _ _ := h); unfold G110_0 at hG; (with_reducible refine on_loop ?_); simp only [List.cons_append, List.nil_append]; refine W_norm [0, 3, 5] ?_ hG) | ((subst h); (with_reducible refine on_ret ?_); refine Ended_of rfl ?_))
  all_goals ((conv => lhs; cbv); (try (first | rfl | ((try simp (disch := omega) [hI, k138, en138, an138, k145, en145, an145, hq0, hq1, hq2, hq3, hq4, mapE_append, Ty.encs_append, encs1_I64, encs1_U8, encs1, mapE1]) <;> (first | rfl | omega | (simp; done))))))
theorem go110 (plan : List NodeV) (wk : WorkerV) {r : RES} (h : ∀ (w : World) (Xs : Nat → Prop), G110_0 w Xs plan wk.inbox wk.counts wk.nodes wk.epoch wk.top wk.outs wk.bad 0 r) : Ok0 Tryz.prog 110 [(pL tNode).enc plan, (pS tWorker).enc wk] r.1 r.2.1 r.2.2 := by
  obtain ⟨I, hI⟩ : ∃ I, I = real := ⟨_, rfl⟩; obtain ⟨K, k138, k145⟩ : ∃ K : FuncId → En, K 138 = (en138 100) ∧ K 145 = en145 := ⟨fun g => (lk g [(138, (en138 100)), (145, en145)]).getD default, rfl, rfl⟩
  show Ok0 Tryz.prog 110 [.one (.pv (.sl false 7 (tNode.encs plan))), .ag [.pv (.sl false 6 (tFrame.encs wk.inbox)), .pv (.sl false 3 (tCount.encs wk.counts)), .pv (.sl false 4 (tHeld.encs wk.nodes)), .pv (.sc (.int .i64 wk.epoch)), .pv (.sc (.int .i64 wk.top)), .pv (.sl false 3 (tRelease.encs wk.outs)), .pv (.sc (.bool wk.bad))]] _ _ _
  obtain ⟨q0, hq0⟩ := eqv (tCount.encs wk.counts)
  try rw [← hq0]
  obtain ⟨q1, hq1⟩ := eqv (tRelease.encs wk.outs)
  try rw [← hq1]
  obtain ⟨q2, hq2⟩ := eqv (tFrame.encs wk.inbox)
  try rw [← hq2]
  obtain ⟨q3, hq3⟩ := eqv (tHeld.encs wk.nodes)
  try rw [← hq3]
  obtain ⟨q4, hq4⟩ := eqv (tNode.encs plan)
  try rw [← hq4]
  obtain ⟨q5, hq5⟩ := eqv wk.epoch
  try rw [← hq5]
  obtain ⟨q6, hq6⟩ := eqv wk.top
  try rw [← hq6]
  obtain ⟨q7, hq7⟩ := eqv wk.bad
  try rw [← hq7]
  refine Ok0_run (Y := (Tab.calls [(42, true, callRd I (inl X I (Tab.calls []) Tryz.f42)), (138, true, callRd I (callE I (K 138) sh138)), (145, true, callRd I (callE I (K 145) sh145))])) xok (TabOk.calls mixed ⟨EntryOk.rd (s42 hI) hI, fun _ => callRd_quiet _ _, ⟨EntryOk.rd (s138 hI k138) hI, fun _ => callRd_quiet _ _, ⟨EntryOk.rd (s145 hI k145) hI, fun _ => callRd_quiet _ _, trivial⟩⟩⟩) Tryz.func110 rfl rfl rfl 2000 hI fun w Xs => ?_; (conv => arg 4; cbv)
  replace h := h w Xs
  repeat' (first | (have hd := And.left h; replace h := And.right h) | ((first | ((with_reducible refine on_eqs ?_ ?_); (focus (with_reducible rfl))) | (with_reducible refine on_both ?_ ?_) | (with_reducible refine on_true (by assumption) ?_) | (with_reducible refine on_false (by assumption) ?_) | (with_reducible refine on_ask (fun g => ?_) (fun g => ?_) <;> (have hc := g) <;> (try simp (disch := omega) [hI, k138, en138, an138, k145, en145, an145, hq0, hq1, hq2, hq3, hq4, hq5, hq6, hq7, -List.length_eq_zero_iff] at hc) <;> (try (exfalso; omega)) <;> (try (first | (revert h; (refine imp_l ?_ (fun h => ?_)); focus (first | exact hc | assumption | omega | (simpa using hc; done) | (simp (disch := omega) only [wrap_id]; omega))) | (revert h; (refine imp_r ?_ (fun h => ?_)); focus (first | exact hc | assumption | omega | (simpa using hc; done) | (simp (disch := omega) only [wrap_id]; omega)))))) | ((with_reducible refine on_must ?_ ?_); (focus ((simp (disch := omega) [hI, k138, en138, an138, k145, en145, an145, hq0, hq1, hq2, hq3, hq4, hq5, hq6, hq7]) <;> (first | omega | assumption | ((repeat' (refine And.intro ?_ ?_)) <;> (first | omega | assumption))))))) <;> (conv => arg 4; cbv)))
  all_goals (first | ((with_reducible have hG : G110_0 _ _ _ _ _ _ _ _ _ _ _ _ := h); unfold G110_0 at hG; (with_reducible refine on_loop ?_); simp only [List.cons_append, List.nil_append]; refine W_norm [0, 3, 5] ?_ hG) | ((subst h); (with_reducible refine on_ret ?_); refine Ended_of rfl ?_))
  all_goals ((conv => lhs; cbv); (try (first | rfl | ((try simp (disch := omega) [hI, k138, en138, an138, k145, en145, an145, hq0, hq1, hq2, hq3, hq4, hq5, hq6, hq7, mapE_append, Ty.encs_append, encs1_I64, encs1_U8, encs1, mapE1]) <;> (first | rfl | omega | (simp; done))))))
theorem lo110 {w : World} {Xs : Nat → Prop} (plan : List NodeV) (b0_0 : List FrameV) (b0_1 : List CountV) (b0_2 : List HeldV) (b0_3 : Int) (b0_4 : Int) (b0_5 : List ReleaseV) (b0_6 : Bool) (p0 : planF plan = 0) (hl : b0_5.length ≤ 400) : ∀ k i : Nat, k + i = b0_5.length → G110_0 w Xs plan b0_0 b0_1 b0_2 b0_3 b0_4 b0_5 b0_6 i (rI (fstF (outF plan) (b0_5.drop i))) := by
  have h8 := (planF_wid p0).1
  have hW := (planF_wid p0).2
  have hL := wsOf_len plan plan.length
  have hwr : IntKind.i64.wrap ((plan.length : Int) - 1) = (plan.length : Int) - 1 := by rw [IntKind.wrap_i64]; omega
  skip
  intro k
  induction k with
  | zero =>
    intro i hk
    apply st110_0
    rw [if_neg (by omega), drop_nil (l := b0_5) (by omega)]
    rfl
  | succ k ih =>
    intro i hk
    apply st110_0
    rw [if_pos (by omega), wsucc (by omega), Int.toNat_natCast, nth_drop (l := b0_5) (i := i) (by omega), hwr]
    refine ⟨by omega, ?_⟩
    by_cases hn : 0 ≤ (nth b0_5 i).node ∧ (nth b0_5 i).node ≤ (plan.length : Int) - 1
    · rw [if_pos hn.1, if_pos hn.2]
      have hs := hW (nth b0_5 i).node.toNat (by omega)
      have ho : outF plan (nth b0_5 i) = (if (nth plan (nth b0_5 i).node.toNat).op = 12 then (if 0 ≤ (nth b0_5 i).epoch ∧ (nth b0_5 i).epoch ≤ 19 then wdF (nth b0_5 i).set (wat plan (nth b0_5 i).node) else 3) else 3) := by
        unfold outF; rw [if_pos hn]
      refine ⟨by omega, if_go (fun q1 => ?_) (fun q1 => ?_)⟩
      · rw [if_pos q1] at ho
        by_cases he : 0 ≤ (nth b0_5 i).epoch ∧ (nth b0_5 i).epoch ≤ 19
        · rw [if_pos he] at ho
          rw [if_pos he.1, if_pos he.2]
          refine ⟨by omega, by omega, by omega, hs, if_go (fun q => ?_) (fun q => ?_)⟩
          · rw [fst_pos (ho.trans q)]; exact ih (i + 1) (by omega)
          · (rw [fst_neg (fun z => q (ho.symm.trans z)), ho]) <;> rfl
        · rw [if_neg he] at ho
          rw [fst_neg (by omega), ho]
          (repeat' (first | (refine And.intro ?_ ?_) | (refine if_go (fun q => ?_) (fun q => ?_))))
          all_goals first
            | omega
            | rfl
      · rw [if_neg q1] at ho
        rw [fst_neg (by omega), ho]
    · have ho : outF plan (nth b0_5 i) = 3 := by unfold outF; rw [if_neg hn]
      rw [fst_neg (by omega), ho]
      (repeat' (first | (refine And.intro ?_ ?_) | (refine if_go (fun q => ?_) (fun q => ?_))))
      all_goals first
        | omega
        | rfl
def sh110 : Shp := fun I i b l s => .ok (.one (.pv (.sc (.int .i64 (i 0)))), [], 0)
def an110 : An (List NodeV × WorkerV × Unit) where
  pre t := decide (planF t.1 = 0) && decide (t.2.1.outs.length ≤ 400)
  i _ t := fstF (outF t.1) t.2.1.outs
noncomputable def en110 : En := mkE (parsC (pL tNode) (parsC (pS tWorker) pars0)) an110
attribute [simp] en110 an110
theorem ok110 (plan : List NodeV) (wk : WorkerV) (p0 : planF plan = 0) (p1 : wk.outs.length ≤ 400) : Ok0 Tryz.prog 110 [(pL tNode).enc plan, (pS tWorker).enc wk] ((.one (.pv (.sc (.int .i64 (fstF (outF plan) wk.outs)))), [], 0) : RES).1 ((.one (.pv (.sc (.int .i64 (fstF (outF plan) wk.outs)))), [], 0) : RES).2.1 ((.one (.pv (.sc (.int .i64 (fstF (outF plan) wk.outs)))), [], 0) : RES).2.2 := by
  exact go110 plan wk fun w Xs => lo110 plan _ _ _ _ _ _ _ p0 p1 wk.outs.length 0 rfl
theorem s110 {I : Ops} (hI : I = real) {e : En} (he : e = en110) : Sound Tryz.prog 110 (callE I e sh110) := by
  refine Sound.mkE ent110 hI (fun _ => rfl) ?_ he
  rintro ⟨plan, wk, ⟨⟩⟩ hp
  have hp : (decide (planF plan = 0) && decide (wk.outs.length ≤ 400)) = true := hp
  try simp only [Bool.and_eq_true, decide_eq_true_eq] at hp
  obtain ⟨p0, p1⟩ := hp
  exact ok110 plan wk p0 p1
theorem ent84 : Enters Tryz.prog 84 := ⟨Tryz.f84, Tryz.func84, by kernel_rfl, by kernel_rfl⟩
abbrev G84_0 (w : World) (Xs : Nat → Prop) (plan : List NodeV) (widths : List Int) (wk : WorkerV) (b0_0 : List FrameV) (b0_1 : List CountV) (b0_2 : List HeldV) (b0_3 : Int) (b0_4 : Int) (b0_5 : List ReleaseV) (b0_6 : Bool) (x30 : Int) (r : RES) : Prop := WL [0, 1, 5, 28, 29, 30] Tryz.prog 84 Tryz.f84 (Ent0 w Xs) (Back (Ent0 w Xs) r.1 r.2.1 r.2.2) (place (bodyOf Tryz.f84) [1,1,0,1,0,0] [])
  ⟨[(0, .one (.pv (.sl false 7 (tNode.encs plan)))), (1, .one (.pv (.sl false 1 (tI64.encs widths)))), (5, .one (.ptr 0 0 0)), (28, .one (.pv (.sl false 6 (tFrame.encs wk.inbox)))), (29, .one (.pv (.sc (.int .i64 (wk.inbox.length : Int))))), (30, .one (.pv (.sc (.int .i64 x30))))], [(0, .box [.pv (.sl false 6 (tFrame.encs b0_0)), .pv (.sl false 3 (tCount.encs b0_1)), .pv (.sl false 4 (tHeld.encs b0_2)), .pv (.sc (.int .i64 b0_3)), .pv (.sc (.int .i64 b0_4)), .pv (.sl false 3 (tRelease.encs b0_5)), .pv (.sc (.bool b0_6))])], 1⟩
abbrev G84_1 (w : World) (Xs : Nat → Prop) (plan : List NodeV) (widths : List Int) (b0_2 : List HeldV) (b0_0' : List FrameV) (b0_1' : List CountV) (b0_2' : List HeldV) (b0_3' : Int) (b0_4' : Int) (b0_5' : List ReleaseV) (b0_6' : Bool) (x61 : Int) (r : RES) : Prop := WL [0, 1, 5, 59, 60, 61] Tryz.prog 84 Tryz.f84 (Ent0 w Xs) (Back (Ent0 w Xs) r.1 r.2.1 r.2.2) (place (bodyOf Tryz.f84) [1,1,1,1,1,0,1,0,0] [])
  ⟨[(0, .one (.pv (.sl false 7 (tNode.encs plan)))), (1, .one (.pv (.sl false 1 (tI64.encs widths)))), (5, .one (.ptr 0 0 0)), (59, .one (.pv (.sl false 4 (tHeld.encs b0_2)))), (60, .one (.pv (.sc (.int .i64 (b0_2.length : Int))))), (61, .one (.pv (.sc (.int .i64 x61))))], [(0, .box [.pv (.sl false 6 (tFrame.encs b0_0')), .pv (.sl false 3 (tCount.encs b0_1')), .pv (.sl false 4 (tHeld.encs b0_2')), .pv (.sc (.int .i64 b0_3')), .pv (.sc (.int .i64 b0_4')), .pv (.sl false 3 (tRelease.encs b0_5')), .pv (.sc (.bool b0_6'))])], 1⟩
abbrev G84_2 (w : World) (Xs : Nat → Prop) (plan : List NodeV) (widths : List Int) (b0_5' : List ReleaseV) (x94 : Int) (r : RES) : Prop := WL [0, 1, 92, 93, 94] Tryz.prog 84 Tryz.f84 (Ent0 w Xs) (Back (Ent0 w Xs) r.1 r.2.1 r.2.2) (place (bodyOf Tryz.f84) [1,1,1,1,1,1,1,0,1,0,0] [])
  ⟨[(0, .one (.pv (.sl false 7 (tNode.encs plan)))), (1, .one (.pv (.sl false 1 (tI64.encs widths)))), (92, .one (.pv (.sl false 3 (tRelease.encs b0_5')))), (93, .one (.pv (.sc (.int .i64 (b0_5'.length : Int))))), (94, .one (.pv (.sc (.int .i64 x94))))], [], 0⟩
noncomputable def Y84 (I : Ops) (K : FuncId → En) : CallsA := (Tab.calls [(86, true, callRd I (callE I (K 86) sh86)), (123, true, callRd I (callE I (K 123) sh123)), (124, true, callRd I (callE I (K 124) sh124)), (47, true, callRd I (inl X I (Tab.calls []) Tryz.f47)), (48, true, callRd I (inl X I (Tab.calls []) Tryz.f48)), (125, true, callRd I (callE I (K 125) sh125))])
theorem tY84 {I : Ops} (hI : I = real) {K : FuncId → En} (k86 : K 86 = en86) (k123 : K 123 = en123) (k124 : K 124 = en124) (k125 : K 125 = en125) : CallsOk Tryz.prog (Y84 I K) := (TabOk.calls mixed ⟨EntryOk.rd (s86 hI k86) hI, fun _ => callRd_quiet _ _, ⟨EntryOk.rd (s123 hI k123) hI, fun _ => callRd_quiet _ _, ⟨EntryOk.rd (s124 hI k124) hI, fun _ => callRd_quiet _ _, ⟨EntryOk.rd (s47 hI) hI, fun _ => callRd_quiet _ _, ⟨EntryOk.rd (s48 hI) hI, fun _ => callRd_quiet _ _, ⟨EntryOk.rd (s125 hI k125) hI, fun _ => callRd_quiet _ _, trivial⟩⟩⟩⟩⟩⟩)
theorem st84_0 {w : World} {Xs : Nat → Prop} (plan : List NodeV) (widths : List Int) (wk : WorkerV) (b0_0 : List FrameV) (b0_1 : List CountV) (b0_2 : List HeldV) (b0_3 : Int) (b0_4 : Int) (b0_5 : List ReleaseV) (b0_6 : Bool) (x30 : Int) {r : RES} (h : (if x30 < (wk.inbox.length : Int) then ((0 ≤ x30 ∧ x30 < (wk.inbox.length : Int)) ∧ ((planF plan = 0) ∧ ((widths = wsOf plan plan.length) ∧ (if frmF plan (nth wk.inbox x30.toNat) = 0 then (if (nth wk.inbox x30.toNat).kind = 1 then G84_0 w Xs plan widths wk b0_0 b0_1 b0_2 b0_3 b0_4 b0_5 b0_6 (IntKind.i64.wrap (x30 + 1)) r else r = (.one (.pv (.sc (.int .i64 1))), [], 0)) else r = (.one (.pv (.sc (.int .i64 (frmF plan (nth wk.inbox x30.toNat))))), [], 0))))) else ((planF plan = 0) ∧ (if cntF plan b0_1 = 0 then (if (b0_2.length : Int) = (plan.length : Int) then G84_1 w Xs plan widths b0_2 b0_0 b0_1 b0_2 b0_3 b0_4 b0_5 b0_6 0 r else r = (.one (.pv (.sc (.int .i64 2))), [], 0)) else r = (.one (.pv (.sc (.int .i64 (cntF plan b0_1)))), [], 0))))) : G84_0 w Xs plan widths wk b0_0 b0_1 b0_2 b0_3 b0_4 b0_5 b0_6 x30 r := by
  obtain ⟨I, hI⟩ : ∃ I, I = real := ⟨_, rfl⟩; obtain ⟨K, k86, k123, k124, k125⟩ : ∃ K : FuncId → En, K 86 = en86 ∧ K 123 = en123 ∧ K 124 = en124 ∧ K 125 = en125 := ⟨fun g => (lk g [(86, en86), (123, en123), (124, en124), (125, en125)]).getD default, rfl, rfl, rfl, rfl⟩
  unfold G84_0 WL
  obtain ⟨q0, hq0⟩ := eqv (wk.inbox.length : Int)
  try rw [← hq0]
  obtain ⟨q1, hq1⟩ := eqv (tFrame.encs wk.inbox)
  try rw [← hq1]
  obtain ⟨q2, hq2⟩ := eqv (tRelease.encs b0_5)
  try rw [← hq2]
  obtain ⟨q3, hq3⟩ := eqv (tI64.encs widths)
  try rw [← hq3]
  obtain ⟨q4, hq4⟩ := eqv (tFrame.encs b0_0)
  try rw [← hq4]
  obtain ⟨q5, hq5⟩ := eqv (tCount.encs b0_1)
  try rw [← hq5]
  obtain ⟨q6, hq6⟩ := eqv (tNode.encs plan)
  try rw [← hq6]
  obtain ⟨q7, hq7⟩ := eqv (tHeld.encs b0_2)
  try rw [← hq7]
  have hS := And.intro hI (And.intro k86 (And.intro k123 (And.intro k124 (And.intro k125 (And.intro hq0 (And.intro hq1 (And.intro hq2 (And.intro hq3 (And.intro hq4 (And.intro hq5 (And.intro hq6 hq7)))))))))))
  refine W_go (Y := (Y84 I K)) xok (tY84 hI k86 k123 k124 k125) Tryz.func84 rfl 2000 _ hI ?_; (conv => arg 4; cbv)
  exact fin
theorem st84_1 {w : World} {Xs : Nat → Prop} (plan : List NodeV) (widths : List Int) (b0_2 : List HeldV) (b0_0' : List FrameV) (b0_1' : List CountV) (b0_2' : List HeldV) (b0_3' : Int) (b0_4' : Int) (b0_5' : List ReleaseV) (b0_6' : Bool) (x61 : Int) {r : RES} (h : (if x61 < (b0_2.length : Int) then ((0 ≤ x61 ∧ x61 < (b0_2.length : Int)) ∧ ((planF plan = 0) ∧ ((widths = wsOf plan plan.length) ∧ ((0 ≤ x61 ∧ x61 < plan.length) ∧ (((bHeld (nth b0_2 x61.toNat)) = true) ∧ (if heldF plan x61 (nth b0_2 x61.toNat) = 0 then G84_1 w Xs plan widths b0_2 b0_0' b0_1' b0_2' b0_3' b0_4' b0_5' b0_6' (IntKind.i64.wrap (x61 + 1)) r else r = (.one (.pv (.sc (.int .i64 (heldF plan x61 (nth b0_2 x61.toNat))))), [], 0))))))) else (if 0 ≤ b0_4' then (if b0_4' ≤ 20 then (if b0_3' = (-1) then G84_2 w Xs plan widths b0_5' 0 r else (if b0_3' = b0_4' then G84_2 w Xs plan widths b0_5' 0 r else r = (.one (.pv (.sc (.int .i64 3))), [], 0))) else r = (.one (.pv (.sc (.int .i64 3))), [], 0)) else r = (.one (.pv (.sc (.int .i64 3))), [], 0)))) : G84_1 w Xs plan widths b0_2 b0_0' b0_1' b0_2' b0_3' b0_4' b0_5' b0_6' x61 r := by
  obtain ⟨I, hI⟩ : ∃ I, I = real := ⟨_, rfl⟩; obtain ⟨K, k86, k123, k124, k125⟩ : ∃ K : FuncId → En, K 86 = en86 ∧ K 123 = en123 ∧ K 124 = en124 ∧ K 125 = en125 := ⟨fun g => (lk g [(86, en86), (123, en123), (124, en124), (125, en125)]).getD default, rfl, rfl, rfl, rfl⟩
  unfold G84_1 WL
  obtain ⟨q0, hq0⟩ := eqv (tRelease.encs b0_5')
  try rw [← hq0]
  obtain ⟨q1, hq1⟩ := eqv (b0_2.length : Int)
  try rw [← hq1]
  obtain ⟨q2, hq2⟩ := eqv (tFrame.encs b0_0')
  try rw [← hq2]
  obtain ⟨q3, hq3⟩ := eqv (tCount.encs b0_1')
  try rw [← hq3]
  obtain ⟨q4, hq4⟩ := eqv (tI64.encs widths)
  try rw [← hq4]
  obtain ⟨q5, hq5⟩ := eqv (tHeld.encs b0_2')
  try rw [← hq5]
  obtain ⟨q6, hq6⟩ := eqv (tNode.encs plan)
  try rw [← hq6]
  obtain ⟨q7, hq7⟩ := eqv (tHeld.encs b0_2)
  try rw [← hq7]
  have hS := And.intro hI (And.intro k86 (And.intro k123 (And.intro k124 (And.intro k125 (And.intro hq0 (And.intro hq1 (And.intro hq2 (And.intro hq3 (And.intro hq4 (And.intro hq5 (And.intro hq6 hq7)))))))))))
  refine W_go (Y := (Y84 I K)) xok (tY84 hI k86 k123 k124 k125) Tryz.func84 rfl 2000 _ hI ?_; (conv => arg 4; cbv)
  exact fin
theorem st84_2 {w : World} {Xs : Nat → Prop} (plan : List NodeV) (widths : List Int) (b0_5' : List ReleaseV) (x94 : Int) {r : RES} (h : (if x94 < (b0_5'.length : Int) then ((0 ≤ x94 ∧ x94 < (b0_5'.length : Int)) ∧ (if 0 ≤ (nth b0_5' x94.toNat).node then (if (nth b0_5' x94.toNat).node ≤ (IntKind.i64.wrap ((plan.length : Int) - 1)) then ((0 ≤ (nth b0_5' x94.toNat).node ∧ (nth b0_5' x94.toNat).node < (plan.length : Int)) ∧ (if (nth plan (((nth b0_5' x94.toNat).node).toNat)).op = 12 then (if 0 ≤ (nth b0_5' x94.toNat).epoch then (if (nth b0_5' x94.toNat).epoch ≤ 19 then ((0 ≤ (nth b0_5' x94.toNat).node ∧ (nth b0_5' x94.toNat).node < (widths.length : Int)) ∧ (if wdF ((nth b0_5' x94.toNat).set) (nth widths (((nth b0_5' x94.toNat).node).toNat)) = 0 then G84_2 w Xs plan widths b0_5' (IntKind.i64.wrap (x94 + 1)) r else r = (.one (.pv (.sc (.int .i64 (wdF ((nth b0_5' x94.toNat).set) (nth widths (((nth b0_5' x94.toNat).node).toNat)))))), [], 0))) else r = (.one (.pv (.sc (.int .i64 3))), [], 0)) else r = (.one (.pv (.sc (.int .i64 3))), [], 0)) else r = (.one (.pv (.sc (.int .i64 3))), [], 0))) else r = (.one (.pv (.sc (.int .i64 3))), [], 0)) else r = (.one (.pv (.sc (.int .i64 3))), [], 0))) else r = (.one (.pv (.sc (.int .i64 0))), [], 0))) : G84_2 w Xs plan widths b0_5' x94 r := by
  obtain ⟨I, hI⟩ : ∃ I, I = real := ⟨_, rfl⟩; obtain ⟨K, k86, k123, k124, k125⟩ : ∃ K : FuncId → En, K 86 = en86 ∧ K 123 = en123 ∧ K 124 = en124 ∧ K 125 = en125 := ⟨fun g => (lk g [(86, en86), (123, en123), (124, en124), (125, en125)]).getD default, rfl, rfl, rfl, rfl⟩
  unfold G84_2 WL
  obtain ⟨q0, hq0⟩ := eqv (tRelease.encs b0_5')
  try rw [← hq0]
  obtain ⟨q1, hq1⟩ := eqv (b0_5'.length : Int)
  try rw [← hq1]
  obtain ⟨q2, hq2⟩ := eqv (tI64.encs widths)
  try rw [← hq2]
  obtain ⟨q3, hq3⟩ := eqv (tNode.encs plan)
  try rw [← hq3]
  have hS := And.intro hI (And.intro k86 (And.intro k123 (And.intro k124 (And.intro k125 (And.intro hq0 (And.intro hq1 (And.intro hq2 hq3)))))))
  refine W_go (Y := (Y84 I K)) xok (tY84 hI k86 k123 k124 k125) Tryz.func84 rfl 2000 _ hI ?_; (conv => arg 4; cbv)
  exact fin
theorem go84 (plan : List NodeV) (widths : List Int) (wk : WorkerV) {r : RES} (h : ∀ (w : World) (Xs : Nat → Prop), (if 60 < (wk.inbox.length : Int) then r = (.one (.pv (.sc (.int .i64 2))), [], 0) else (if 400 < (wk.outs.length : Int) then r = (.one (.pv (.sc (.int .i64 2))), [], 0) else G84_0 w Xs plan widths wk wk.inbox wk.counts wk.nodes wk.epoch wk.top wk.outs wk.bad 0 r))) : Ok0 Tryz.prog 84 [(pL tNode).enc plan, (pL tI64).enc widths, (pS tWorker).enc wk] r.1 r.2.1 r.2.2 := by
  obtain ⟨I, hI⟩ : ∃ I, I = real := ⟨_, rfl⟩; obtain ⟨K, k86, k123, k124, k125⟩ : ∃ K : FuncId → En, K 86 = en86 ∧ K 123 = en123 ∧ K 124 = en124 ∧ K 125 = en125 := ⟨fun g => (lk g [(86, en86), (123, en123), (124, en124), (125, en125)]).getD default, rfl, rfl, rfl, rfl⟩
  show Ok0 Tryz.prog 84 [.one (.pv (.sl false 7 (tNode.encs plan))), .one (.pv (.sl false 1 (tI64.encs widths))), .ag [.pv (.sl false 6 (tFrame.encs wk.inbox)), .pv (.sl false 3 (tCount.encs wk.counts)), .pv (.sl false 4 (tHeld.encs wk.nodes)), .pv (.sc (.int .i64 wk.epoch)), .pv (.sc (.int .i64 wk.top)), .pv (.sl false 3 (tRelease.encs wk.outs)), .pv (.sc (.bool wk.bad))]] _ _ _
  obtain ⟨q0, hq0⟩ := eqv (tCount.encs wk.counts)
  try rw [← hq0]
  obtain ⟨q1, hq1⟩ := eqv (tRelease.encs wk.outs)
  try rw [← hq1]
  obtain ⟨q2, hq2⟩ := eqv (tFrame.encs wk.inbox)
  try rw [← hq2]
  obtain ⟨q3, hq3⟩ := eqv (tHeld.encs wk.nodes)
  try rw [← hq3]
  obtain ⟨q4, hq4⟩ := eqv (tI64.encs widths)
  try rw [← hq4]
  obtain ⟨q5, hq5⟩ := eqv (tNode.encs plan)
  try rw [← hq5]
  obtain ⟨q6, hq6⟩ := eqv wk.epoch
  try rw [← hq6]
  obtain ⟨q7, hq7⟩ := eqv wk.top
  try rw [← hq7]
  obtain ⟨q8, hq8⟩ := eqv wk.bad
  try rw [← hq8]
  have hS := And.intro hI (And.intro k86 (And.intro k123 (And.intro k124 (And.intro k125 (And.intro hq0 (And.intro hq1 (And.intro hq2 (And.intro hq3 (And.intro hq4 (And.intro hq5 (And.intro hq6 (And.intro hq7 hq8))))))))))))
  refine Ok0_run (Y := (Y84 I K)) xok (tY84 hI k86 k123 k124 k125) Tryz.func84 rfl rfl rfl 2000 hI fun w Xs => ?_; (conv => arg 4; cbv)
  replace h := h w Xs
  exact fin
theorem lo84 {w : World} {Xs : Nat → Prop} (plan : List NodeV) (widths : List Int) (b0_5' : List ReleaseV) (p0 : planF plan = 0) (p1 : widths = wsOf plan plan.length) (hl : b0_5'.length ≤ 400) : ∀ k i : Nat, k + i = b0_5'.length → G84_2 w Xs plan widths b0_5' i (rI (fstF (outF plan) (b0_5'.drop i))) := by
  have h8 := (planF_wid p0).1
  have hW := (planF_wid p0).2
  have hL := wsOf_len plan plan.length
  have hwr : IntKind.i64.wrap ((plan.length : Int) - 1) = (plan.length : Int) - 1 := by rw [IntKind.wrap_i64]; omega
  subst p1
  intro k
  induction k with
  | zero =>
    intro i hk
    apply st84_2
    rw [if_neg (by omega), drop_nil (l := b0_5') (by omega)]
    rfl
  | succ k ih =>
    intro i hk
    apply st84_2
    rw [if_pos (by omega), wsucc (by omega), Int.toNat_natCast, nth_drop (l := b0_5') (i := i) (by omega), hwr]
    refine ⟨by omega, ?_⟩
    by_cases hn : 0 ≤ (nth b0_5' i).node ∧ (nth b0_5' i).node ≤ (plan.length : Int) - 1
    · rw [if_pos hn.1, if_pos hn.2, wsOf_wat (plan := plan) (a := (nth b0_5' i).node) (by omega), hL]
      have hs := hW (nth b0_5' i).node.toNat (by omega)
      have ho : outF plan (nth b0_5' i) = (if (nth plan (nth b0_5' i).node.toNat).op = 12 then (if 0 ≤ (nth b0_5' i).epoch ∧ (nth b0_5' i).epoch ≤ 19 then wdF (nth b0_5' i).set (wat plan (nth b0_5' i).node) else 3) else 3) := by
        unfold outF; rw [if_pos hn]
      refine ⟨by omega, if_go (fun q1 => ?_) (fun q1 => ?_)⟩
      · rw [if_pos q1] at ho
        by_cases he : 0 ≤ (nth b0_5' i).epoch ∧ (nth b0_5' i).epoch ≤ 19
        · rw [if_pos he] at ho
          rw [if_pos he.1, if_pos he.2]
          refine ⟨by omega, if_go (fun q => ?_) (fun q => ?_)⟩
          · rw [fst_pos (ho.trans q)]; exact ih (i + 1) (by omega)
          · (rw [fst_neg (fun z => q (ho.symm.trans z)), ho]) <;> rfl
        · rw [if_neg he] at ho
          rw [fst_neg (by omega), ho]
          (repeat' (first | (refine And.intro ?_ ?_) | (refine if_go (fun q => ?_) (fun q => ?_))))
          all_goals first
            | omega
            | rfl
      · rw [if_neg q1] at ho
        rw [fst_neg (by omega), ho]
    · have ho : outF plan (nth b0_5' i) = 3 := by unfold outF; rw [if_neg hn]
      rw [fst_neg (by omega), ho]
      (repeat' (first | (refine And.intro ?_ ?_) | (refine if_go (fun q => ?_) (fun q => ?_))))
      all_goals first
        | omega
        | rfl
theorem ln84 {w : World} {Xs : Nat → Prop} (plan : List NodeV) (widths : List Int) (b0_2 : List HeldV) (b0_0' : List FrameV) (b0_1' : List CountV) (b0_2' : List HeldV) (b0_3' : Int) (b0_4' : Int) (b0_5' : List ReleaseV) (b0_6' : Bool) (p0 : planF plan = 0) (p1 : widths = wsOf plan plan.length) (hl : b0_5'.length ≤ 400) (hn : b0_2.length = plan.length) (hb : bHeldS b0_2 = true) : ∀ k i : Nat, k + i = b0_2.length → G84_1 w Xs plan widths b0_2 b0_0' b0_1' b0_2' b0_3' b0_4' b0_5' b0_6' i (rI (nodesW plan (b0_2.drop i) i b0_3' b0_4' b0_5')) := by
  have h8 := (planF_wid p0).1
  intro k
  induction k with
  | zero =>
    intro i hk
    apply st84_1
    rw [if_neg (by omega), drop_nil (l := b0_2) (by omega)]
    rw [show nodesW plan [] i b0_3' b0_4' b0_5' = tailW plan b0_3' b0_4' b0_5' from by unfold nodesW; rw [hldLp, if_pos rfl]]
    have nx : ∀ v, v = fstF (outF plan) b0_5' → G84_2 w Xs plan widths b0_5' 0 (rI v) := fun v e => e ▸ lo84 plan widths b0_5' p0 p1 hl b0_5'.length 0 rfl
    unfold tailW
    (repeat' (first | (refine And.intro ?_ ?_) | (refine if_go (fun q => ?_) (fun q => ?_))))
    all_goals first
      | omega
      | (refine nx _ ?_; (repeat' split) <;> first | rfl | omega)
      | (refine congrArg rI ?_; (repeat' split) <;> first | rfl | omega)
  | succ k ih =>
    intro i hk
    have hx := bHeldS_nth hb (i := i) (by omega)
    apply st84_1
    rw [if_pos (by omega), wsucc (by omega), Int.toNat_natCast, nth_drop (l := b0_2) (i := i) (by omega)]
    refine ⟨by omega, p0, p1, by omega, hx, if_go (fun q => ?_) (fun q => ?_)⟩
    · rw [nod_pos q]; exact ih (i + 1) (by omega)
    · rw [nod_neg q]
theorem li84 {w : World} {Xs : Nat → Prop} (plan : List NodeV) (widths : List Int) (wk : WorkerV) (b0_0 : List FrameV) (b0_1 : List CountV) (b0_2 : List HeldV) (b0_3 : Int) (b0_4 : Int) (b0_5 : List ReleaseV) (b0_6 : Bool) (p0 : planF plan = 0) (p1 : widths = wsOf plan plan.length) (hi : wk.inbox.length ≤ 60) (hl : b0_5.length ≤ 400) (hb : bHeldS b0_2 = true) : ∀ k i : Nat, k + i = wk.inbox.length → G84_0 w Xs plan widths wk b0_0 b0_1 b0_2 b0_3 b0_4 b0_5 b0_6 i (rI (inbW plan (wk.inbox.drop i) b0_1 b0_2 b0_3 b0_4 b0_5)) := by
  intro k
  induction k with
  | zero =>
    intro i hk
    apply st84_0
    rw [if_neg (by omega), drop_nil (l := wk.inbox) (by omega)]
    rw [show inbW plan [] b0_1 b0_2 b0_3 b0_4 b0_5 = cntsW plan b0_1 b0_2 b0_3 b0_4 b0_5 from by unfold inbW; rw [fstF, if_pos rfl]]
    unfold cntsW
    refine ⟨p0, if_go (fun q => if_go (fun q2 => ?_) (fun q2 => ?_)) (fun q => ?_)⟩
    · rw [if_pos q, if_pos (by omega)]
      exact ln84 plan widths b0_2 _ _ _ _ _ _ _ p0 p1 hl (by omega) hb b0_2.length 0 rfl
    · rw [if_pos q, if_neg (by omega)]
    · rw [if_neg q]
  | succ k ih =>
    intro i hk
    apply st84_0
    rw [if_pos (by omega), wsucc (by omega), Int.toNat_natCast, nth_drop (l := wk.inbox) (i := i) (by omega)]
    refine ⟨by omega, p0, p1, if_go (fun q => if_go (fun q2 => ?_) (fun q2 => ?_)) (fun q => ?_)⟩
    · rw [inb_pos q q2]; exact ih (i + 1) (by omega)
    · rw [inb_neg (v := 1) (by unfold inF; rw [if_pos q, if_neg q2]) (by decide)]
    · rw [inb_neg (v := frmF plan (nth wk.inbox i)) (by unfold inF; rw [if_neg q]) q]
def sh84 : Shp := fun I i b l s => .ok (.one (.pv (.sc (.int .i64 (i 0)))), [], 0)
def an84 : An (List NodeV × List Int × WorkerV × Unit) where
  pre t := decide (planF t.1 = 0) && decide (t.2.1 = wsOf t.1 t.1.length) && (bHeldS t.2.2.1.nodes)
  i _ t := wkrF t.1 t.2.2.1
noncomputable def en84 : En := mkE (parsC (pL tNode) (parsC (pL tI64) (parsC (pS tWorker) pars0))) an84
attribute [simp] en84 an84
theorem ok84 (plan : List NodeV) (widths : List Int) (wk : WorkerV) (p0 : planF plan = 0) (p1 : widths = wsOf plan plan.length) (p2 : bHeldS wk.nodes = true) : Ok0 Tryz.prog 84 [(pL tNode).enc plan, (pL tI64).enc widths, (pS tWorker).enc wk] ((.one (.pv (.sc (.int .i64 (wkrF plan wk)))), [], 0) : RES).1 ((.one (.pv (.sc (.int .i64 (wkrF plan wk)))), [], 0) : RES).2.1 ((.one (.pv (.sc (.int .i64 (wkrF plan wk)))), [], 0) : RES).2.2 := by
  refine go84 plan widths wk fun w Xs => ?_
  unfold wkrF
  refine if_go (fun q => ?_) (fun q => if_go (fun q2 => ?_) (fun q2 => ?_))
  · rw [if_pos (by omega)]
  · rw [if_neg (by omega), if_pos (by omega)]
  · rw [if_neg (by omega), if_neg (by omega)]
    exact li84 plan widths wk _ _ _ _ _ _ _ p0 p1 (by omega) (by omega) p2 wk.inbox.length 0 rfl
theorem s84 {I : Ops} (hI : I = real) {e : En} (he : e = en84) : Sound Tryz.prog 84 (callE I e sh84) := by
  refine Sound.mkE ent84 hI (fun _ => rfl) ?_ he
  rintro ⟨plan, widths, wk, ⟨⟩⟩ hp
  have hp : (decide (planF plan = 0) && decide (widths = wsOf plan plan.length) && (bHeldS wk.nodes)) = true := hp
  try simp only [Bool.and_eq_true, decide_eq_true_eq] at hp
  obtain ⟨⟨p0, p1⟩, p2⟩ := hp
  exact ok84 plan widths wk p0 p1 p2
end Go.Proofs.Tryz
