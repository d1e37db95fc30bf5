/- Contracts. -/
import Derived.Test.YtngefcgbfpelcaaLs
set_option linter.unusedSimpArgs false
set_option linter.unusedVariables false
namespace Go.Proofs.Try
open Go Go.Aix
set_option maxRecDepth 100000
set_option maxHeartbeats 4000000
set_option linter.unusedSimpArgs false
set_option linter.unusedVariables false
theorem ent33 : Enters Try.prog 33 := ⟨Try.f33, Try.func33, by kernel_rfl, by kernel_rfl⟩
def G33_0 (w : World) (Xs : Nat → Prop) (plan : List NodeV) (r0 : List Int) (i : Int) (r : RES) : Prop := W Try.prog 33 Try.f33 (Ent0 w Xs) (Back (Ent0 w Xs) r.1 r.2.1 r.2.2) (place (bodyOf Try.f33) [1,1,0,1,0,0] [])
  ⟨[(0, .one (.pv (.sl false 7 (tNode.encs plan)))), (3, .one (.arr 0 0 r0.length)), (4, .one (.pv (.sc (.int .i64 i))))], [(0, .row 1 (tI64.encs r0))], 1⟩
noncomputable def Y33 (I : Ops) (K : FuncId → En) : CallsA := (Tab.calls [(55, true, callRd I (callE I (K 55) sh55))])
theorem tY33 {I : Ops} (hI : I = real) {K : FuncId → En} (k55 : K 55 = en55) : CallsOk Try.prog (Y33 I K) := (TabOk.calls mixed ⟨EntryOk.rd (s55 hI k55) hI, fun _ => callRd_quiet _ _, trivial⟩)
theorem st33_0 {w : World} {Xs : Nat → Prop} (plan : List NodeV) (r0 : List Int) (i : Int) {r : RES} (h : (if i < (plan.length : Int) then ((plan.length ≤ 100) ∧ ((0 ≤ i ∧ i < plan.length) ∧ (if (deadB plan i) = true then (((r0.length + 1) ≤ 17592186044416) ∧ G33_0 w Xs plan (r0 ++ [i]) (IntKind.i64.wrap (i + 1)) r) else G33_0 w Xs plan r0 (IntKind.i64.wrap (i + 1)) r))) else r = (.one (.arr 0 0 r0.length), [(0, .row 1 (tI64.encs r0))], 1))) : G33_0 w Xs plan r0 i r := by
  obtain ⟨I, hI⟩ : ∃ I, I = real := ⟨_, rfl⟩; obtain ⟨K, hK⟩ : ∃ K : FuncId → En, K = fun g => (lk g [(55, en55)]).getD default := ⟨_, rfl⟩; have k55 : K 55 = en55 := (by subst hK; rfl); clear hK
  unfold G33_0
  obtain ⟨q0, hq0⟩ : ∃ q, q = (tNode.encs plan) := ⟨_, rfl⟩
  try rw [← hq0]
  obtain ⟨q1, hq1⟩ : ∃ q, q = (tI64.encs r0) := ⟨_, rfl⟩
  try rw [← hq1]
  obtain ⟨q2, hq2⟩ : ∃ q, q = r0.length := ⟨_, rfl⟩
  try rw [← hq2]
  refine W_go (Y := (Y33 I K)) xok (tY33 hI k55) Try.func33 rfl 2000 _ hI ?_; (conv => arg 4; cbv)
  repeat' (first | (have hd := And.left h; replace h := And.right h) | ((with_reducible refine on_eqs ?_ ?_); (focus (with_reducible rfl)); conv => arg 4; cbv) | (with_reducible refine on_both ?_ ?_ <;> (conv => arg 4; cbv)) | (with_reducible refine on_true (by assumption) ?_; conv => arg 4; cbv) | (with_reducible refine on_false (by assumption) ?_; conv => arg 4; cbv) | (with_reducible refine on_ask (fun g => ?_) (fun g => ?_) <;> (have hc := g) <;> (try simp (disch := omega) [hI, k55, en55, an55, hq0, hq1, hq2, -List.length_eq_zero_iff] at hc) <;> (try (exfalso; omega)) <;> (try (first | (revert h; (refine imp_l ?_ (fun h => ?_)); focus (first | exact hc | assumption | omega | (simpa using hc; done))) | (revert h; (refine imp_r ?_ (fun h => ?_)); focus (first | exact hc | assumption | omega | (simpa using hc; done))))) <;> (conv => arg 4; cbv)) | ((with_reducible refine on_must ?_ ?_); (focus ((simp (disch := omega) [hI, k55, en55, an55, hq0, hq1, hq2]) <;> (first | omega | assumption | ((repeat' (refine And.intro ?_ ?_)) <;> (first | omega | assumption))))); conv => arg 4; cbv))
  all_goals (first | ((with_reducible have hG : G33_0 _ _ _ _ _ _ := h); unfold G33_0 at hG; (with_reducible refine on_loop ?_); simp only [List.cons_append, List.nil_append]; refine W_norm [0, 3, 4] ?_ hG) | ((subst h); (with_reducible refine on_ret ?_); refine Ended_of rfl ?_))
  all_goals ((conv => lhs; cbv); (try (first | rfl | ((try simp (disch := omega) [hI, k55, en55, an55, hq0, hq1, hq2, mapE_append, Ty.encs_append, encs1_I64, encs1_U8, encs1, mapE1]) <;> (first | rfl | omega | (simp; done))))))
theorem go33 (plan : List NodeV) {r : RES} (h : ∀ (w : World) (Xs : Nat → Prop), G33_0 w Xs plan ([]) 0 r) : Ok0 Try.prog 33 [(pL tNode).enc plan] r.1 r.2.1 r.2.2 := by
  obtain ⟨I, hI⟩ : ∃ I, I = real := ⟨_, rfl⟩; obtain ⟨K, hK⟩ : ∃ K : FuncId → En, K = fun g => (lk g [(55, en55)]).getD default := ⟨_, rfl⟩; have k55 : K 55 = en55 := (by subst hK; rfl); clear hK
  show Ok0 Try.prog 33 [.one (.pv (.sl false 7 (tNode.encs plan)))] _ _ _
  obtain ⟨q0, hq0⟩ : ∃ q, q = (tNode.encs plan) := ⟨_, rfl⟩
  try rw [← hq0]
  refine Ok0_run (Y := (Y33 I K)) xok (tY33 hI k55) Try.func33 rfl rfl rfl 2000 hI fun w Xs => ?_; (conv => arg 4; cbv)
  replace h := h w Xs
  repeat' (first | (have hd := And.left h; replace h := And.right h) | ((with_reducible refine on_eqs ?_ ?_); (focus (with_reducible rfl)); conv => arg 4; cbv) | (with_reducible refine on_both ?_ ?_ <;> (conv => arg 4; cbv)) | (with_reducible refine on_true (by assumption) ?_; conv => arg 4; cbv) | (with_reducible refine on_false (by assumption) ?_; conv => arg 4; cbv) | (with_reducible refine on_ask (fun g => ?_) (fun g => ?_) <;> (have hc := g) <;> (try simp (disch := omega) [hI, k55, en55, an55, hq0, -List.length_eq_zero_iff] at hc) <;> (try (exfalso; omega)) <;> (try (first | (revert h; (refine imp_l ?_ (fun h => ?_)); focus (first | exact hc | assumption | omega | (simpa using hc; done))) | (revert h; (refine imp_r ?_ (fun h => ?_)); focus (first | exact hc | assumption | omega | (simpa using hc; done))))) <;> (conv => arg 4; cbv)) | ((with_reducible refine on_must ?_ ?_); (focus ((simp (disch := omega) [hI, k55, en55, an55, hq0]) <;> (first | omega | assumption | ((repeat' (refine And.intro ?_ ?_)) <;> (first | omega | assumption))))); conv => arg 4; cbv))
  all_goals (first | ((with_reducible have hG : G33_0 _ _ _ _ _ _ := h); unfold G33_0 at hG; (with_reducible refine on_loop ?_); simp only [List.cons_append, List.nil_append]; refine W_norm [0, 3, 4] ?_ hG) | ((subst h); (with_reducible refine on_ret ?_); refine Ended_of rfl ?_))
  all_goals ((conv => lhs; cbv); (try (first | rfl | ((try simp (disch := omega) [hI, k55, en55, an55, hq0, mapE_append, Ty.encs_append, encs1_I64, encs1_U8, encs1, mapE1]) <;> (first | rfl | omega | (simp; done))))))
theorem lm_all {w : World} {Xs : Nat → Prop} (plan : List NodeV) (hl : plan.length ≤ 100) : ∀ (k i : Nat) (acc : List Int), k + i = plan.length → acc.length ≤ i → G33_0 w Xs plan acc i (.one (.arr 0 0 (acc ++ deadLp plan k i).length), [(0, .row 1 (tI64.encs (acc ++ deadLp plan k i)))], 1) := by
  intro k
  induction k with
  | zero =>
    intro i acc hk ha
    apply st33_0
    rw [if_neg (by omega)]
    simp [deadLp]
  | succ k ih =>
    intro i acc hk ha
    apply st33_0
    rw [if_pos (by omega), wsucc (by omega), deadLp]
    refine ⟨by omega, by omega, if_go (fun h => ?_) (fun h => ?_)⟩
    · have := ih (i + 1) (acc ++ [(i : Int)]) (by omega) (by simp; omega)
      rw [if_pos h]
      refine ⟨by omega, ?_⟩
      simpa using this
    · rw [if_neg h]
      exact ih (i + 1) acc (by omega) (by omega)

def sh33 : Shp := fun I i b l s => .ok (.one (.arr 0 0 (I.len (l 0))), [(0, .row 1 (l 0))], 1)
noncomputable def an33 : An (List NodeV × Unit) where
  pre t := decide (t.1.length ≤ 100)
  l _ t := (tI64.encs (deadL t.1))
noncomputable def en33 : En := mkE (parsC (pL tNode) pars0) an33
theorem ok33 (plan : List NodeV) (p0 : plan.length ≤ 100) : Ok0 Try.prog 33 [(pL tNode).enc plan] ((.one (.arr 0 0 (deadL plan).length), [(0, .row 1 (tI64.encs (deadL plan)))], 1) : RES).1 ((.one (.arr 0 0 (deadL plan).length), [(0, .row 1 (tI64.encs (deadL plan)))], 1) : RES).2.1 ((.one (.arr 0 0 (deadL plan).length), [(0, .row 1 (tI64.encs (deadL plan)))], 1) : RES).2.2 := by
  exact go33 plan fun w Xs => by simpa [deadL] using lm_all (w := w) (Xs := Xs) plan p0 plan.length 0 [] rfl (Nat.le_refl _)
theorem s33 {I : Ops} (hI : I = real) {e : En} (he : e = en33) : Sound Try.prog 33 (callE I e sh33) := by
  refine Sound.mkR ent33 hI ?_ he
  rintro ⟨plan, ⟨⟩⟩ hp r σ n e
  have hp : (decide (plan.length ≤ 100)) = true := hp
  try simp only [Bool.and_eq_true, decide_eq_true_eq] at hp
  have p0 := hp
  have e : (R.ok ((.one (.arr 0 0 (deadL plan).length), [(0, .row 1 (tI64.encs (deadL plan)))], 1) : RES) : R RES).val = some (r, σ, n) := by
    rw [← e]
    simp [sh33, an33]
  cases e
  exact ok33 plan p0
end Go.Proofs.Try
