/- Contracts. -/
import Derived.Test.YtngefcgbfpelcaaLz
set_option linter.unusedSimpArgs false
set_option linter.unusedVariables false
namespace Go.Proofs.Try
open Go Go.Aix
set_option maxRecDepth 100000
set_option maxHeartbeats 4000000
set_option linter.unusedSimpArgs false
set_option linter.unusedVariables false
theorem ent72 : Enters Try.prog 72 := ⟨Try.f72, Try.func72, by kernel_rfl, by kernel_rfl⟩
def G72_0 (w : World) (Xs : Nat → Prop) (list : List Int) (v : Int) (i : Int) (r : RES) : Prop := W Try.prog 72 Try.f72 (Ent0 w Xs) (Back (Ent0 w Xs) r.1 r.2.1 r.2.2) (place (bodyOf Try.f72) [1,0,1,0,0] [])
  ⟨[(0, .one (.pv (.sl false 1 (tI64.encs list)))), (1, .one (.pv (.sc (.int .i64 v)))), (5, .one (.pv (.sc (.int .i64 i))))], [], 0⟩
theorem st72_0 {w : World} {Xs : Nat → Prop} (list : List Int) (v : Int) (i : Int) {r : RES} (h : (if i < (list.length : Int) then ((0 ≤ i ∧ i < (list.length : Int)) ∧ (if (nth list i.toNat) = v then r = (.one (.pv (.sc (.bool true))), [], 0) else G72_0 w Xs list v (IntKind.i64.wrap (i + 1)) r)) else r = (.one (.pv (.sc (.bool false))), [], 0))) : G72_0 w Xs list v i r := by
  obtain ⟨I, hI⟩ : ∃ I, I = real := ⟨_, rfl⟩
  unfold G72_0
  obtain ⟨q0, hq0⟩ : ∃ q, q = (tI64.encs list) := ⟨_, rfl⟩
  try rw [← hq0]
  refine W_go (Y := (Tab.calls [])) xok (TabOk.calls mixed trivial) Try.func72 rfl 2000 _ hI ?_; (conv => arg 4; cbv)
  repeat' (first | (have hd := And.left h; replace h := And.right h) | ((with_reducible refine on_eqs ?_ ?_); (focus (with_reducible rfl)); conv => arg 4; cbv) | (with_reducible refine on_both ?_ ?_ <;> (conv => arg 4; cbv)) | (with_reducible refine on_true (by assumption) ?_; conv => arg 4; cbv) | (with_reducible refine on_false (by assumption) ?_; conv => arg 4; cbv) | (with_reducible refine on_ask (fun g => ?_) (fun g => ?_) <;> (have hc := g) <;> (try simp (disch := omega) [hI, hq0, -List.length_eq_zero_iff] at hc) <;> (try (exfalso; omega)) <;> (try (first | (revert h; (refine imp_l ?_ (fun h => ?_)); focus (first | exact hc | assumption | omega | (simpa using hc; done))) | (revert h; (refine imp_r ?_ (fun h => ?_)); focus (first | exact hc | assumption | omega | (simpa using hc; done))))) <;> (conv => arg 4; cbv)) | ((with_reducible refine on_must ?_ ?_); (focus ((simp (disch := omega) [hI, hq0]) <;> (first | omega | assumption | ((repeat' (refine And.intro ?_ ?_)) <;> (first | omega | assumption))))); conv => arg 4; cbv))
  all_goals (first | ((with_reducible have hG : G72_0 _ _ _ _ _ _ := h); unfold G72_0 at hG; (with_reducible refine on_loop ?_); simp only [List.cons_append, List.nil_append]; refine W_norm [0, 1, 5] ?_ hG) | ((subst h); (with_reducible refine on_ret ?_); refine Ended_of rfl ?_))
  all_goals ((conv => lhs; cbv); (try (first | rfl | ((try simp (disch := omega) [hI, hq0, mapE_append, Ty.encs_append, encs1_I64, encs1_U8, encs1, mapE1]) <;> (first | rfl | omega | (simp; done))))))
theorem go72 (list : List Int) (v : Int) {r : RES} (h : ∀ (w : World) (Xs : Nat → Prop), G72_0 w Xs list v 0 r) : Ok0 Try.prog 72 [(pL tI64).enc list, pI.enc v] r.1 r.2.1 r.2.2 := by
  obtain ⟨I, hI⟩ : ∃ I, I = real := ⟨_, rfl⟩
  show Ok0 Try.prog 72 [.one (.pv (.sl false 1 (tI64.encs list))), .one (.pv (.sc (.int .i64 v)))] _ _ _
  obtain ⟨q0, hq0⟩ : ∃ q, q = (tI64.encs list) := ⟨_, rfl⟩
  try rw [← hq0]
  refine Ok0_run (Y := (Tab.calls [])) xok (TabOk.calls mixed trivial) Try.func72 rfl rfl rfl 2000 hI fun w Xs => ?_; (conv => arg 4; cbv)
  replace h := h w Xs
  repeat' (first | (have hd := And.left h; replace h := And.right h) | ((with_reducible refine on_eqs ?_ ?_); (focus (with_reducible rfl)); conv => arg 4; cbv) | (with_reducible refine on_both ?_ ?_ <;> (conv => arg 4; cbv)) | (with_reducible refine on_true (by assumption) ?_; conv => arg 4; cbv) | (with_reducible refine on_false (by assumption) ?_; conv => arg 4; cbv) | (with_reducible refine on_ask (fun g => ?_) (fun g => ?_) <;> (have hc := g) <;> (try simp (disch := omega) [hI, hq0, -List.length_eq_zero_iff] at hc) <;> (try (exfalso; omega)) <;> (try (first | (revert h; (refine imp_l ?_ (fun h => ?_)); focus (first | exact hc | assumption | omega | (simpa using hc; done))) | (revert h; (refine imp_r ?_ (fun h => ?_)); focus (first | exact hc | assumption | omega | (simpa using hc; done))))) <;> (conv => arg 4; cbv)) | ((with_reducible refine on_must ?_ ?_); (focus ((simp (disch := omega) [hI, hq0]) <;> (first | omega | assumption | ((repeat' (refine And.intro ?_ ?_)) <;> (first | omega | assumption))))); conv => arg 4; cbv))
  all_goals (first | ((with_reducible have hG : G72_0 _ _ _ _ _ _ := h); unfold G72_0 at hG; (with_reducible refine on_loop ?_); simp only [List.cons_append, List.nil_append]; refine W_norm [0, 1, 5] ?_ hG) | ((subst h); (with_reducible refine on_ret ?_); refine Ended_of rfl ?_))
  all_goals ((conv => lhs; cbv); (try (first | rfl | ((try simp (disch := omega) [hI, hq0, mapE_append, Ty.encs_append, encs1_I64, encs1_U8, encs1, mapE1]) <;> (first | rfl | omega | (simp; done))))))
theorem lm_has {w : World} {Xs : Nat → Prop} (s : List Int) (v : Int) (hl : s.length ≤ 1048576) : ∀ k i : Nat, k + i = s.length → G72_0 w Xs s v i (rB (decide (v ∈ s.drop i))) := by
  intro k
  induction k with
  | zero =>
    intro i hk
    apply st72_0
    rw [if_neg (by omega), drop_nil (l := s) (by omega)]
    simp [rB]
  | succ k ih =>
    intro i hk
    apply st72_0
    rw [if_pos (by omega), nth_drop (l := s) (i := i) (by omega), wsucc (by omega), Int.toNat_natCast]
    refine ⟨by omega, if_go (fun h => ?_) (fun h => ?_)⟩
    · rw [← h, decide_eq_true (List.mem_cons_self ..)]
    · have e : decide (v ∈ nth s i :: s.drop (i + 1)) = decide (v ∈ s.drop (i + 1)) := by
        rw [decide_eq_decide, List.mem_cons]
        exact ⟨fun q => q.resolve_left (fun q => h q.symm), Or.inr⟩
      rw [e]
      exact ih (i + 1) (by omega)

def sh72 : Shp := fun I i b l s => .ok (.one (.pv (.sc (.bool (b 0)))), [], 0)
def an72 : An (List Int × Int × Unit) where
  pre t := decide (t.1.length ≤ 1048576)
  b _ t := decide (t.2.1 ∈ t.1)
noncomputable def en72 : En := mkE (parsC (pL tI64) (parsC pI pars0)) an72
theorem ok72 (list : List Int) (v : Int) (p0 : list.length ≤ 1048576) : Ok0 Try.prog 72 [(pL tI64).enc list, pI.enc v] ((.one (.pv (.sc (.bool (decide (v ∈ list))))), [], 0) : RES).1 ((.one (.pv (.sc (.bool (decide (v ∈ list))))), [], 0) : RES).2.1 ((.one (.pv (.sc (.bool (decide (v ∈ list))))), [], 0) : RES).2.2 := by
  exact go72 list v fun w Xs => lm_has list v p0 list.length 0 rfl
theorem s72 {I : Ops} (hI : I = real) {e : En} (he : e = en72) : Sound Try.prog 72 (callE I e sh72) := by
  refine Sound.mkE ent72 hI (fun _ => rfl) ?_ he
  rintro ⟨list, v, ⟨⟩⟩ hp
  have hp : (decide (list.length ≤ 1048576)) = true := hp
  try simp only [Bool.and_eq_true, decide_eq_true_eq] at hp
  have p0 := hp
  exact ok72 list v p0
end Go.Proofs.Try
