/- Contracts. -/
import Derived.Test.YtngefcgbfpelcaaLy
set_option linter.unusedSimpArgs false
set_option linter.unusedVariables false
namespace Go.Proofs.Try
open Go Go.Aix
set_option maxRecDepth 100000
set_option maxHeartbeats 4000000
set_option linter.unusedSimpArgs false
set_option linter.unusedVariables false
theorem ent36 : Enters Try.prog 36 := ⟨Try.f36, Try.func36, by kernel_rfl, by kernel_rfl⟩
def G36_0 (w : World) (Xs : Nat → Prop) (plan : List NodeV) (r1 : List Int) (b0_0 : List NodeV) (x10 : Int) (r : RES) : Prop := W Try.prog 36 Try.f36 (Ent0 w Xs) (Back (Ent0 w Xs) r.1 r.2.1 r.2.2) (place (bodyOf Try.f36) [1,1,0,1,0,0] [])
  ⟨[(1, .one (.ptr 0 0 0)), (3, .one (.arr 1 0 r1.length)), (8, .one (.pv (.sl false 7 (tNode.encs plan)))), (9, .one (.pv (.sc (.int .i64 (plan.length : Int))))), (10, .one (.pv (.sc (.int .i64 x10))))], [(0, .box [.pv (.sl false 7 (tNode.encs b0_0))]), (1, .row 1 (tI64.encs r1))], 2⟩
theorem st36_0 {w : World} {Xs : Nat → Prop} (plan : List NodeV) (r1 : List Int) (b0_0 : List NodeV) (x10 : Int) {r : RES} (h : (if x10 < (plan.length : Int) then ((0 ≤ x10 ∧ x10 < (plan.length : Int)) ∧ ((b0_0.length ≤ 1048576) ∧ (((nodesL b0_0 12 0).length ≤ 1048576) ∧ ((b0_0.length ≤ 100) ∧ (((planI b0_0) = true) ∧ (((allIn (nodesL b0_0 12 0) b0_0.length 100) = true) ∧ (if (nth plan x10.toNat).op = 12 then G36_0 w Xs plan r1 b0_0 (IntKind.i64.wrap (x10 + 1)) r else (if (nth plan x10.toNat).op = 1 then G36_0 w Xs plan r1 b0_0 (IntKind.i64.wrap (x10 + 1)) r else (if 0 ≤ fstI (fun k => feedB b0_0 x10 k) (nodesL b0_0 12 0) 0 then G36_0 w Xs plan r1 b0_0 (IntKind.i64.wrap (x10 + 1)) r else (((r1.length + 1) ≤ 17592186044416) ∧ G36_0 w Xs plan (r1 ++ [x10]) b0_0 (IntKind.i64.wrap (x10 + 1)) r)))))))))) else r = (.one (.arr 0 0 r1.length), [(0, .row 1 (tI64.encs r1))], 1))) : G36_0 w Xs plan r1 b0_0 x10 r := by
  obtain ⟨I, hI⟩ : ∃ I, I = real := ⟨_, rfl⟩; obtain ⟨K, hK⟩ : ∃ K : FuncId → En, K = fun g => (lk g [(59, en59), (88, en88b)]).getD default := ⟨_, rfl⟩; have k59 : K 59 = en59 := (by subst hK; rfl); have k88 : K 88 = en88b := (by subst hK; rfl); clear hK
  unfold G36_0
  obtain ⟨q0, hq0⟩ : ∃ q, q = (plan.length : Int) := ⟨_, rfl⟩
  try rw [← hq0]
  obtain ⟨q1, hq1⟩ : ∃ q, q = (tNode.encs plan) := ⟨_, rfl⟩
  try rw [← hq1]
  obtain ⟨q2, hq2⟩ : ∃ q, q = (tNode.encs b0_0) := ⟨_, rfl⟩
  try rw [← hq2]
  obtain ⟨q3, hq3⟩ : ∃ q, q = (tI64.encs r1) := ⟨_, rfl⟩
  try rw [← hq3]
  obtain ⟨q4, hq4⟩ : ∃ q, q = r1.length := ⟨_, rfl⟩
  try rw [← hq4]
  refine W_go (Y := (Tab.calls [(59, false, callVw I (callE I (K 59) sh59)), (58, false, callRef I (inlR X I (Tab.calls [(88, false, callRef I (exV I (K 88) vl88b))]) Try.f58))])) xok (TabOk.calls mixed ⟨EntryOk.vw (s59 hI k59) hI, notQuiet, ⟨EntryOk.ref (s58b hI k88) hI, notQuiet, trivial⟩⟩) Try.func36 rfl 2000 _ hI ?_; (conv => arg 4; cbv)
  repeat' (first | (have hd := And.left h; replace h := And.right h) | ((with_reducible refine on_eqs ?_ ?_); (focus (with_reducible rfl)); conv => arg 4; cbv) | (with_reducible refine on_both ?_ ?_ <;> (conv => arg 4; cbv)) | (with_reducible refine on_true (by assumption) ?_; conv => arg 4; cbv) | (with_reducible refine on_false (by assumption) ?_; conv => arg 4; cbv) | (with_reducible refine on_ask (fun g => ?_) (fun g => ?_) <;> (have hc := g) <;> (try simp (disch := omega) [hI, k59, en59, an59, k88, en88b, an88b, dec88b, hq0, hq1, hq2, hq3, hq4, -List.length_eq_zero_iff] at hc) <;> (try (exfalso; omega)) <;> (try (first | (revert h; (refine imp_l ?_ (fun h => ?_)); focus (first | exact hc | assumption | omega | (simpa using hc; done))) | (revert h; (refine imp_r ?_ (fun h => ?_)); focus (first | exact hc | assumption | omega | (simpa using hc; done))))) <;> (conv => arg 4; cbv)) | ((with_reducible refine on_must ?_ ?_); (focus ((simp (disch := omega) [hI, k59, en59, an59, k88, en88b, an88b, dec88b, hq0, hq1, hq2, hq3, hq4]) <;> (first | omega | assumption | ((repeat' (refine And.intro ?_ ?_)) <;> (first | omega | assumption))))); conv => arg 4; cbv))
  all_goals (first | ((with_reducible have hG : G36_0 _ _ _ _ _ _ _ := h); unfold G36_0 at hG; (with_reducible refine on_loop ?_); simp only [List.cons_append, List.nil_append]; refine W_norm [1, 3, 8, 9, 10] ?_ hG) | ((subst h); (with_reducible refine on_ret ?_); refine Ended_of rfl ?_))
  all_goals ((conv => lhs; cbv); (try (first | rfl | ((try simp (disch := omega) [hI, k59, en59, an59, k88, en88b, an88b, dec88b, hq0, hq1, hq2, hq3, hq4, mapE_append, Ty.encs_append, encs1_I64, encs1_U8, encs1, mapE1]) <;> (first | rfl | omega | (simp; done))))))
theorem go36 (plan : List NodeV) {r : RES} (h : ∀ (w : World) (Xs : Nat → Prop), G36_0 w Xs plan ([]) plan 0 r) : Ok0 Try.prog 36 [(pL tNode).enc plan] r.1 r.2.1 r.2.2 := by
  obtain ⟨I, hI⟩ : ∃ I, I = real := ⟨_, rfl⟩; obtain ⟨K, hK⟩ : ∃ K : FuncId → En, K = fun g => (lk g [(59, en59), (88, en88b)]).getD default := ⟨_, rfl⟩; have k59 : K 59 = en59 := (by subst hK; rfl); have k88 : K 88 = en88b := (by subst hK; rfl); clear hK
  show Ok0 Try.prog 36 [.one (.pv (.sl false 7 (tNode.encs plan)))] _ _ _
  obtain ⟨q0, hq0⟩ : ∃ q, q = (tNode.encs plan) := ⟨_, rfl⟩
  try rw [← hq0]
  refine Ok0_run (Y := (Tab.calls [(59, false, callVw I (callE I (K 59) sh59)), (58, false, callRef I (inlR X I (Tab.calls [(88, false, callRef I (exV I (K 88) vl88b))]) Try.f58))])) xok (TabOk.calls mixed ⟨EntryOk.vw (s59 hI k59) hI, notQuiet, ⟨EntryOk.ref (s58b hI k88) hI, notQuiet, trivial⟩⟩) Try.func36 rfl rfl rfl 2000 hI fun w Xs => ?_; (conv => arg 4; cbv)
  replace h := h w Xs
  repeat' (first | (have hd := And.left h; replace h := And.right h) | ((with_reducible refine on_eqs ?_ ?_); (focus (with_reducible rfl)); conv => arg 4; cbv) | (with_reducible refine on_both ?_ ?_ <;> (conv => arg 4; cbv)) | (with_reducible refine on_true (by assumption) ?_; conv => arg 4; cbv) | (with_reducible refine on_false (by assumption) ?_; conv => arg 4; cbv) | (with_reducible refine on_ask (fun g => ?_) (fun g => ?_) <;> (have hc := g) <;> (try simp (disch := omega) [hI, k59, en59, an59, k88, en88b, an88b, dec88b, hq0, -List.length_eq_zero_iff] at hc) <;> (try (exfalso; omega)) <;> (try (first | (revert h; (refine imp_l ?_ (fun h => ?_)); focus (first | exact hc | assumption | omega | (simpa using hc; done))) | (revert h; (refine imp_r ?_ (fun h => ?_)); focus (first | exact hc | assumption | omega | (simpa using hc; done))))) <;> (conv => arg 4; cbv)) | ((with_reducible refine on_must ?_ ?_); (focus ((simp (disch := omega) [hI, k59, en59, an59, k88, en88b, an88b, dec88b, hq0]) <;> (first | omega | assumption | ((repeat' (refine And.intro ?_ ?_)) <;> (first | omega | assumption))))); conv => arg 4; cbv))
  all_goals (first | ((with_reducible have hG : G36_0 _ _ _ _ _ _ _ := h); unfold G36_0 at hG; (with_reducible refine on_loop ?_); simp only [List.cons_append, List.nil_append]; refine W_norm [1, 3, 8, 9, 10] ?_ hG) | ((subst h); (with_reducible refine on_ret ?_); refine Ended_of rfl ?_))
  all_goals ((conv => lhs; cbv); (try (first | rfl | ((try simp (disch := omega) [hI, k59, en59, an59, k88, en88b, an88b, dec88b, hq0, mapE_append, Ty.encs_append, encs1_I64, encs1_U8, encs1, mapE1]) <;> (first | rfl | omega | (simp; done))))))
theorem lm_deadI {w : World} {Xs : Nat → Prop} (plan : List NodeV) (hl : plan.length ≤ 100) (hI : planI plan = true) : ∀ (k i : Nat) (acc : List Int), k + i = plan.length → acc.length ≤ i → G36_0 w Xs plan acc plan i (.one (.arr 0 0 (acc ++ deadLp plan k i).length), [(0, .row 1 (tI64.encs (acc ++ deadLp plan k i)))], 1) := by
  have hn := nodesL_len plan 12 0
  have hall : allIn (nodesL plan 12 0) plan.length 100 = true := allIn_of (fun k hk => by
    obtain ⟨j, h1, h2, _⟩ := (nodesL_mem plan 12 0 k).1 hk
    omega)
  intro k
  induction k with
  | zero =>
    intro i acc hk ha
    apply st36_0
    rw [if_neg (by omega)]
    simp [deadLp]
  | succ k ih =>
    intro i acc hk ha
    apply st36_0
    rw [if_pos (by omega), wsucc (by omega), Int.toNat_natCast, deadLp]
    have hb : deadB plan (i : Int) = (!decide ((nth plan i).op = 12) && !decide ((nth plan i).op = 1) && !decide (0 ≤ fstI (fun k => feedB plan i k) (nodesL plan 12 0) 0)) := by
      have e : decide (0 ≤ fstI (fun k => feedB plan i k) (nodesL plan 12 0) 0) = (nodesL plan 12 0).any (fun v => feedB plan i v) := by
        rw [Bool.eq_iff_iff, decide_eq_true_iff, fstI_iff _ _ _ (by omega)]
      rw [e]; rfl
    refine ⟨by omega, by omega, by omega, hl, hI, hall, if_go (fun h => ?_) (fun h => if_go (fun h2 => ?_) (fun h2 => if_go (fun h3 => ?_) (fun h3 => ?_)))⟩
    · rw [if_neg (by rw [hb, decide_eq_true h]; simp)]
      exact ih (i + 1) acc (by omega) (by omega)
    · rw [if_neg (by rw [hb, decide_eq_true h2]; simp)]
      exact ih (i + 1) acc (by omega) (by omega)
    · rw [if_neg (by rw [hb, decide_eq_true h3]; simp)]
      exact ih (i + 1) acc (by omega) (by omega)
    · rw [if_pos (by rw [hb, decide_eq_false h, decide_eq_false h2, decide_eq_false h3]; rfl)]
      have := ih (i + 1) (acc ++ [(i : Int)]) (by omega) (by simp; omega)
      refine ⟨by omega, ?_⟩
      simpa using this

def sh36 : Shp := fun I i b l s => .ok (.one (.arr 0 0 (I.len (l 0))), [(0, .row 1 (l 0))], 1)
noncomputable def an36 : An (List NodeV × Unit) where
  pre t := decide (t.1.length ≤ 100) && (planI t.1)
  l _ t := (tI64.encs (deadL t.1))
noncomputable def en36 : En := mkE (parsC (pL tNode) pars0) an36
theorem ok36 (plan : List NodeV) (p0 : plan.length ≤ 100) (p1 : planI plan = true) : Ok0 Try.prog 36 [(pL tNode).enc plan] ((.one (.arr 0 0 (deadL plan).length), [(0, .row 1 (tI64.encs (deadL plan)))], 1) : RES).1 ((.one (.arr 0 0 (deadL plan).length), [(0, .row 1 (tI64.encs (deadL plan)))], 1) : RES).2.1 ((.one (.arr 0 0 (deadL plan).length), [(0, .row 1 (tI64.encs (deadL plan)))], 1) : RES).2.2 := by
  exact go36 plan fun w Xs => by simpa [deadL] using lm_deadI (w := w) (Xs := Xs) plan p0 p1 plan.length 0 [] rfl (Nat.le_refl _)
theorem s36 {I : Ops} (hI : I = real) {e : En} (he : e = en36) : Sound Try.prog 36 (callE I e sh36) := by
  refine Sound.mkR ent36 hI ?_ he
  rintro ⟨plan, ⟨⟩⟩ hp r σ n e
  have hp : (decide (plan.length ≤ 100) && (planI plan)) = true := hp
  try simp only [Bool.and_eq_true, decide_eq_true_eq] at hp
  obtain ⟨p0, p1⟩ := hp
  have e : (R.ok ((.one (.arr 0 0 (deadL plan).length), [(0, .row 1 (tI64.encs (deadL plan)))], 1) : RES) : R RES).val = some (r, σ, n) := by
    rw [← e]
    simp [sh36, an36]
  cases e
  exact ok36 plan p0 p1
end Go.Proofs.Try
