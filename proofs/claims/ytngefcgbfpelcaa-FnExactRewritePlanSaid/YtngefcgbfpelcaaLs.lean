/- Contracts. -/
import Derived.Test.YtngefcgbfpelcaaLr
set_option linter.unusedSimpArgs false
set_option linter.unusedVariables false
namespace Go.Proofs.Try
open Go Go.Aix
set_option maxRecDepth 100000
set_option maxHeartbeats 4000000
set_option linter.unusedSimpArgs false
set_option linter.unusedVariables false
noncomputable def deadB (l : List NodeV) (a : Int) : Bool := !decide ((nth l a.toNat).op = 12) && !decide ((nth l a.toNat).op = 1) && !((nodesL l 12 0).any (fun v => feedB l a v))
noncomputable def deadLp (l : List NodeV) : Nat → Nat → List Int
  | 0, _ => []
  | k + 1, i => if deadB l (i : Int) = true then (i : Int) :: deadLp l k (i + 1) else deadLp l k (i + 1)
noncomputable def deadL (l : List NodeV) : List Int := deadLp l l.length 0
theorem deadLp_len (l : List NodeV) : ∀ k i : Nat, (deadLp l k i).length ≤ k
  | 0, i => by simp [deadLp]
  | k + 1, i => by
    have := deadLp_len l k (i + 1)
    unfold deadLp
    split <;> simp <;> omega
theorem deadLp_mem (l : List NodeV) : ∀ (k i : Nat) (v : Int), v ∈ deadLp l k i → 0 ≤ v ∧ v < (i + k : Nat)
  | 0, i, v, h => by simp [deadLp] at h
  | k + 1, i, v, h => by
    have ih := deadLp_mem l k (i + 1) v
    unfold deadLp at h
    split at h
    · rcases List.mem_cons.1 h with rfl | h
      · omega
      · have := ih h; omega
    · have := ih h; omega
theorem views_lt {l : List NodeV} {i : Nat} (h : i < (nodesL l 12 0).length) : 0 ≤ nth (nodesL l 12 0) i ∧ nth (nodesL l 12 0) i < l.length := by
  obtain ⟨j, h1, h2, _⟩ := (nodesL_mem l 12 0 _).1 (nth_mem h)
  rw [h2]; omega
theorem ent55 : Enters Try.prog 55 := ⟨Try.f55, Try.func55, by kernel_rfl, by kernel_rfl⟩
def G55_0 (w : World) (Xs : Nat → Prop) (plan : List NodeV) (k : Int) (i : Int) (r : RES) : Prop := W Try.prog 55 Try.f55 (Ent0 w Xs) (Back (Ent0 w Xs) r.1 r.2.1 r.2.2) (place (bodyOf Try.f55) [1,1,1,0,1,0,0] [])
  ⟨[(0, .one (.pv (.sl false 7 (tNode.encs plan)))), (1, .one (.pv (.sc (.int .i64 k)))), (5, .one (.arr 0 0 ((nodesL plan 12 0).length))), (6, .one (.pv (.sc (.int .i64 i))))], [(0, .row 1 (tI64.encs (nodesL plan 12 0)))], 1⟩
theorem st55_0 {w : World} {Xs : Nat → Prop} (plan : List NodeV) (k : Int) (i : Int) {r : RES} (h : (if i < ((nodesL plan 12 0).length : Int) then ((0 ≤ i ∧ i < ((nodesL plan 12 0).length : Int)) ∧ ((plan.length ≤ 100) ∧ ((0 ≤ k ∧ k < plan.length) ∧ (((nth (nodesL plan 12 0) i.toNat) < plan.length) ∧ ((((nth (nodesL plan 12 0) i.toNat) - k).toNat < 100) ∧ (if (feedB plan k (nth (nodesL plan 12 0) i.toNat)) = true then r = (.one (.pv (.sc (.bool false))), [], 0) else G55_0 w Xs plan k (IntKind.i64.wrap (i + 1)) r)))))) else r = (.one (.pv (.sc (.bool true))), [], 0))) : G55_0 w Xs plan k i r := by
  obtain ⟨I, hI⟩ : ∃ I, I = real := ⟨_, rfl⟩; obtain ⟨K, hK⟩ : ∃ K : FuncId → En, K = fun g => (lk g [(80, en80), (81, (en81 100))]).getD default := ⟨_, rfl⟩; have k80 : K 80 = en80 := (by subst hK; rfl); have k81 : K 81 = (en81 100) := (by subst hK; rfl); clear hK
  unfold G55_0
  obtain ⟨q0, hq0⟩ : ∃ q, q = (tI64.encs (nodesL plan 12 0)) := ⟨_, rfl⟩
  try rw [← hq0]
  obtain ⟨q1, hq1⟩ : ∃ q, q = (nodesL plan 12 0).length := ⟨_, rfl⟩
  try rw [← hq1]
  obtain ⟨q2, hq2⟩ : ∃ q, q = (tNode.encs plan) := ⟨_, rfl⟩
  try rw [← hq2]
  refine W_go (Y := (Tab.calls [(80, false, callVw I (callE I (K 80) sh80)), (81, true, callRd I (callE I (K 81) sh81))])) xok (TabOk.calls mixed ⟨EntryOk.vw (s80 hI k80) hI, notQuiet, ⟨EntryOk.rd (s81 hI k81) hI, fun _ => callRd_quiet _ _, trivial⟩⟩) Try.func55 rfl 2000 _ hI ?_; (conv => arg 4; cbv)
  repeat' (first | (have hd := And.left h; replace h := And.right h) | ((with_reducible refine on_eqs ?_ ?_); (focus (with_reducible rfl)); conv => arg 4; cbv) | (with_reducible refine on_both ?_ ?_ <;> (conv => arg 4; cbv)) | (with_reducible refine on_true (by assumption) ?_; conv => arg 4; cbv) | (with_reducible refine on_false (by assumption) ?_; conv => arg 4; cbv) | (with_reducible refine on_ask (fun g => ?_) (fun g => ?_) <;> (have hc := g) <;> (try simp (disch := omega) [hI, k80, en80, an80, k81, en81, an81, hq0, hq1, hq2, -List.length_eq_zero_iff] at hc) <;> (try (exfalso; omega)) <;> (try (first | (revert h; (refine imp_l ?_ (fun h => ?_)); focus (first | exact hc | assumption | omega | (simpa using hc; done))) | (revert h; (refine imp_r ?_ (fun h => ?_)); focus (first | exact hc | assumption | omega | (simpa using hc; done))))) <;> (conv => arg 4; cbv)) | ((with_reducible refine on_must ?_ ?_); (focus ((simp (disch := omega) [hI, k80, en80, an80, k81, en81, an81, hq0, hq1, hq2]) <;> (first | omega | assumption | ((repeat' (refine And.intro ?_ ?_)) <;> (first | omega | assumption))))); conv => arg 4; cbv))
  all_goals (first | ((with_reducible have hG : G55_0 _ _ _ _ _ _ := h); unfold G55_0 at hG; (with_reducible refine on_loop ?_); simp only [List.cons_append, List.nil_append]; refine W_norm [0, 1, 5, 6] ?_ hG) | ((subst h); (with_reducible refine on_ret ?_); refine Ended_of rfl ?_))
  all_goals ((conv => lhs; cbv); (try (first | rfl | ((try simp (disch := omega) [hI, k80, en80, an80, k81, en81, an81, hq0, hq1, hq2, mapE_append, Ty.encs_append, encs1_I64, encs1_U8, encs1, mapE1]) <;> (first | rfl | omega | (simp; done))))))
theorem go55 (plan : List NodeV) (k : Int) {r : RES} (h : ∀ (w : World) (Xs : Nat → Prop), ((0 ≤ k ∧ k < (plan.length : Int)) ∧ (if (nth plan k.toNat).op = 12 then r = (.one (.pv (.sc (.bool false))), [], 0) else (if (nth plan k.toNat).op = 1 then r = (.one (.pv (.sc (.bool false))), [], 0) else ((plan.length ≤ 1048576) ∧ G55_0 w Xs plan k 0 r))))) : Ok0 Try.prog 55 [(pL tNode).enc plan, pI.enc k] r.1 r.2.1 r.2.2 := by
  obtain ⟨I, hI⟩ : ∃ I, I = real := ⟨_, rfl⟩; obtain ⟨K, hK⟩ : ∃ K : FuncId → En, K = fun g => (lk g [(80, en80), (81, (en81 100))]).getD default := ⟨_, rfl⟩; have k80 : K 80 = en80 := (by subst hK; rfl); have k81 : K 81 = (en81 100) := (by subst hK; rfl); clear hK
  show Ok0 Try.prog 55 [.one (.pv (.sl false 7 (tNode.encs plan))), .one (.pv (.sc (.int .i64 k)))] _ _ _
  obtain ⟨q0, hq0⟩ : ∃ q, q = (tNode.encs plan) := ⟨_, rfl⟩
  try rw [← hq0]
  refine Ok0_run (Y := (Tab.calls [(80, false, callVw I (callE I (K 80) sh80)), (81, true, callRd I (callE I (K 81) sh81))])) xok (TabOk.calls mixed ⟨EntryOk.vw (s80 hI k80) hI, notQuiet, ⟨EntryOk.rd (s81 hI k81) hI, fun _ => callRd_quiet _ _, trivial⟩⟩) Try.func55 rfl rfl rfl 2000 hI fun w Xs => ?_; (conv => arg 4; cbv)
  replace h := h w Xs
  repeat' (first | (have hd := And.left h; replace h := And.right h) | ((with_reducible refine on_eqs ?_ ?_); (focus (with_reducible rfl)); conv => arg 4; cbv) | (with_reducible refine on_both ?_ ?_ <;> (conv => arg 4; cbv)) | (with_reducible refine on_true (by assumption) ?_; conv => arg 4; cbv) | (with_reducible refine on_false (by assumption) ?_; conv => arg 4; cbv) | (with_reducible refine on_ask (fun g => ?_) (fun g => ?_) <;> (have hc := g) <;> (try simp (disch := omega) [hI, k80, en80, an80, k81, en81, an81, hq0, -List.length_eq_zero_iff] at hc) <;> (try (exfalso; omega)) <;> (try (first | (revert h; (refine imp_l ?_ (fun h => ?_)); focus (first | exact hc | assumption | omega | (simpa using hc; done))) | (revert h; (refine imp_r ?_ (fun h => ?_)); focus (first | exact hc | assumption | omega | (simpa using hc; done))))) <;> (conv => arg 4; cbv)) | ((with_reducible refine on_must ?_ ?_); (focus ((simp (disch := omega) [hI, k80, en80, an80, k81, en81, an81, hq0]) <;> (first | omega | assumption | ((repeat' (refine And.intro ?_ ?_)) <;> (first | omega | assumption))))); conv => arg 4; cbv))
  all_goals (first | ((with_reducible have hG : G55_0 _ _ _ _ _ _ := h); unfold G55_0 at hG; (with_reducible refine on_loop ?_); simp only [List.cons_append, List.nil_append]; refine W_norm [0, 1, 5, 6] ?_ hG) | ((subst h); (with_reducible refine on_ret ?_); refine Ended_of rfl ?_))
  all_goals ((conv => lhs; cbv); (try (first | rfl | ((try simp (disch := omega) [hI, k80, en80, an80, k81, en81, an81, hq0, mapE_append, Ty.encs_append, encs1_I64, encs1_U8, encs1, mapE1]) <;> (first | rfl | omega | (simp; done))))))
theorem lm_dead {w : World} {Xs : Nat → Prop} (plan : List NodeV) (k : Int) (hl : plan.length ≤ 100) (hk : 0 ≤ k ∧ k < plan.length) : ∀ (m i : Nat), m + i = (nodesL plan 12 0).length → G55_0 w Xs plan k i (rB (!(((nodesL plan 12 0).drop i).any (fun v => feedB plan k v)))) := by
  have hn := nodesL_len plan 12 0
  intro m
  induction m with
  | zero =>
    intro i hi
    apply st55_0
    rw [if_neg (by omega), drop_nil (l := nodesL plan 12 0) (by omega)]
    rfl
  | succ m ih =>
    intro i hi
    have hv := views_lt (l := plan) (i := i) (by omega)
    apply st55_0
    rw [if_pos (by omega), wsucc (by omega), Int.toNat_natCast, nth_drop (l := nodesL plan 12 0) (i := i) (by omega), List.any_cons]
    refine ⟨by omega, hl, hk, hv.2, by omega, if_go (fun h => by rw [h]; rfl) (fun h => ?_)⟩
    have h : feedB plan k (nth (nodesL plan 12 0) i) = false := by simpa using h
    rw [h, Bool.false_or]
    exact ih (i + 1) (by omega)

def sh55 : Shp := fun I i b l s => .ok (.one (.pv (.sc (.bool (b 0)))), [], 0)
noncomputable def an55 : An (List NodeV × Int × Unit) where
  pre t := decide (t.1.length ≤ 100) && decide (0 ≤ t.2.1 ∧ t.2.1 < t.1.length)
  b _ t := deadB t.1 t.2.1
noncomputable def en55 : En := mkE (parsC (pL tNode) (parsC pI pars0)) an55
theorem ok55 (plan : List NodeV) (k : Int) (p0 : plan.length ≤ 100) (p1 : 0 ≤ k ∧ k < plan.length) : Ok0 Try.prog 55 [(pL tNode).enc plan, pI.enc k] ((.one (.pv (.sc (.bool (deadB plan k)))), [], 0) : RES).1 ((.one (.pv (.sc (.bool (deadB plan k)))), [], 0) : RES).2.1 ((.one (.pv (.sc (.bool (deadB plan k)))), [], 0) : RES).2.2 := by
  refine go55 plan k fun w Xs => ⟨by omega, ?_⟩
  unfold deadB
  refine if_go (fun h => by rw [h]; rfl) (fun h => if_go (fun h2 => by rw [h2]; rfl) (fun h2 => ⟨by omega, ?_⟩))
  rw [decide_eq_false h, decide_eq_false h2]
  exact lm_dead plan k p0 p1 _ 0 (Nat.add_zero _)
theorem s55 {I : Ops} (hI : I = real) {e : En} (he : e = en55) : Sound Try.prog 55 (callE I e sh55) := by
  refine Sound.mkE ent55 hI (fun _ => rfl) ?_ he
  rintro ⟨plan, k, ⟨⟩⟩ hp
  have hp : (decide (plan.length ≤ 100) && decide (0 ≤ k ∧ k < plan.length)) = true := hp
  try simp only [Bool.and_eq_true, decide_eq_true_eq] at hp
  obtain ⟨p0, p1⟩ := hp
  exact ok55 plan k p0 p1
end Go.Proofs.Try
