/- Contracts. -/
import Derived.Test.YtngefcgbfpelcaaLm
set_option linter.unusedSimpArgs false
set_option linter.unusedVariables false
namespace Go.Proofs.Try
open Go Go.Aix
set_option maxRecDepth 100000
set_option maxHeartbeats 4000000
set_option linter.unusedSimpArgs false
set_option linter.unusedVariables false
def nodesL : List NodeV → Int → Nat → List Int
  | [], _, _ => []
  | e :: r, op, i => if e.op = op then (i : Int) :: nodesL r op (i + 1) else nodesL r op (i + 1)
theorem nodesL_mem : ∀ (l : List NodeV) (op : Int) (i : Nat) (v : Int), v ∈ nodesL l op i ↔ ∃ j : Nat, j < l.length ∧ v = ((i + j : Nat) : Int) ∧ (nth l j).op = op
  | [], op, i, v => by simp [nodesL]
  | e :: r, op, i, v => by
    have ih := nodesL_mem r op (i + 1) v
    unfold nodesL
    have key : (∃ j : Nat, j < (e :: r).length ∧ v = ((i + j : Nat) : Int) ∧ (nth (e :: r) j).op = op) ↔ (v = (i : Int) ∧ e.op = op) ∨ (∃ j : Nat, j < r.length ∧ v = ((i + 1 + j : Nat) : Int) ∧ (nth r j).op = op) := by
      constructor
      · rintro ⟨j, h1, h2, h3⟩
        match j, h1, h2, h3 with
        | 0, _, h2, h3 => exact Or.inl ⟨by simpa using h2, h3⟩
        | j + 1, h1, h2, h3 => exact Or.inr ⟨j, by simpa using h1, by rw [h2]; congr 1; omega, h3⟩
      · rintro (⟨h2, h3⟩ | ⟨j, h1, h2, h3⟩)
        · exact ⟨0, by simp, by simpa using h2, h3⟩
        · exact ⟨j + 1, by simpa using h1, by rw [h2]; congr 1; omega, h3⟩
    rw [key]
    split
    · rename_i h; rw [List.mem_cons, ih]; simp [h]
    · rename_i h; rw [ih]; simp [h]
theorem nodesL_len : ∀ (l : List NodeV) (op : Int) (i : Nat), (nodesL l op i).length ≤ l.length
  | [], op, i => by simp [nodesL]
  | e :: r, op, i => by
    have ih := nodesL_len r op (i + 1)
    unfold nodesL
    split <;> simp <;> omega
theorem ent80 : Enters Try.prog 80 := ⟨Try.f80, Try.func80, by kernel_rfl, by kernel_rfl⟩
def G80_0 (w : World) (Xs : Nat → Prop) (plan : List NodeV) (op : Int) (r0 : List Int) (i : Int) (r : RES) : Prop := W Try.prog 80 Try.f80 (Ent0 w Xs) (Back (Ent0 w Xs) r.1 r.2.1 r.2.2) (place (bodyOf Try.f80) [1,1,0,1,0,0] [])
  ⟨[(0, .one (.pv (.sl false 7 (tNode.encs plan)))), (1, .one (.pv (.sc (.int .i64 op)))), (5, .one (.arr 0 0 r0.length)), (6, .one (.pv (.sc (.int .i64 i))))], [(0, .row 1 (tI64.encs r0))], 1⟩
theorem st80_0 {w : World} {Xs : Nat → Prop} (plan : List NodeV) (op : Int) (r0 : List Int) (i : Int) {r : RES} (h : (if i < (plan.length : Int) then ((0 ≤ i ∧ i < (plan.length : Int)) ∧ (if (nth plan i.toNat).op = op then (((r0.length + 1) ≤ 17592186044416) ∧ G80_0 w Xs plan op (r0 ++ [i]) (IntKind.i64.wrap (i + 1)) r) else G80_0 w Xs plan op r0 (IntKind.i64.wrap (i + 1)) r)) else r = (.one (.arr 0 0 r0.length), [(0, .row 1 (tI64.encs r0))], 1))) : G80_0 w Xs plan op r0 i r := by
  obtain ⟨I, hI⟩ : ∃ I, I = real := ⟨_, rfl⟩
  unfold G80_0
  obtain ⟨q0, hq0⟩ : ∃ q, q = (tNode.encs plan) := ⟨_, rfl⟩
  try rw [← hq0]
  obtain ⟨q1, hq1⟩ : ∃ q, q = (tI64.encs r0) := ⟨_, rfl⟩
  try rw [← hq1]
  obtain ⟨q2, hq2⟩ : ∃ q, q = r0.length := ⟨_, rfl⟩
  try rw [← hq2]
  refine W_go (Y := (Tab.calls [])) xok (TabOk.calls mixed trivial) Try.func80 rfl 2000 _ hI ?_; (conv => arg 4; cbv)
  repeat' (first | (have hd := And.left h; replace h := And.right h) | ((with_reducible refine on_eqs ?_ ?_); (focus (with_reducible rfl)); conv => arg 4; cbv) | (with_reducible refine on_both ?_ ?_ <;> (conv => arg 4; cbv)) | (with_reducible refine on_true (by assumption) ?_; conv => arg 4; cbv) | (with_reducible refine on_false (by assumption) ?_; conv => arg 4; cbv) | (with_reducible refine on_ask (fun g => ?_) (fun g => ?_) <;> (have hc := g) <;> (try simp (disch := omega) [hI, hq0, hq1, hq2, -List.length_eq_zero_iff] at hc) <;> (try (exfalso; omega)) <;> (try (first | (revert h; (refine imp_l ?_ (fun h => ?_)); focus (first | exact hc | assumption | omega | (simpa using hc; done))) | (revert h; (refine imp_r ?_ (fun h => ?_)); focus (first | exact hc | assumption | omega | (simpa using hc; done))))) <;> (conv => arg 4; cbv)) | ((with_reducible refine on_must ?_ ?_); (focus ((simp (disch := omega) [hI, hq0, hq1, hq2]) <;> (first | omega | assumption | ((repeat' (refine And.intro ?_ ?_)) <;> (first | omega | assumption))))); conv => arg 4; cbv))
  all_goals (first | ((with_reducible have hG : G80_0 _ _ _ _ _ _ _ := h); unfold G80_0 at hG; (with_reducible refine on_loop ?_); simp only [List.cons_append, List.nil_append]; refine W_norm [0, 1, 5, 6] ?_ hG) | ((subst h); (with_reducible refine on_ret ?_); refine Ended_of rfl ?_))
  all_goals ((conv => lhs; cbv); (try (first | rfl | ((try simp (disch := omega) [hI, hq0, hq1, hq2, mapE_append, Ty.encs_append, encs1_I64, encs1_U8, encs1, mapE1]) <;> (first | rfl | omega | (simp; done))))))
theorem go80 (plan : List NodeV) (op : Int) {r : RES} (h : ∀ (w : World) (Xs : Nat → Prop), G80_0 w Xs plan op ([]) 0 r) : Ok0 Try.prog 80 [(pL tNode).enc plan, pI.enc op] r.1 r.2.1 r.2.2 := by
  obtain ⟨I, hI⟩ : ∃ I, I = real := ⟨_, rfl⟩
  show Ok0 Try.prog 80 [.one (.pv (.sl false 7 (tNode.encs plan))), .one (.pv (.sc (.int .i64 op)))] _ _ _
  obtain ⟨q0, hq0⟩ : ∃ q, q = (tNode.encs plan) := ⟨_, rfl⟩
  try rw [← hq0]
  refine Ok0_run (Y := (Tab.calls [])) xok (TabOk.calls mixed trivial) Try.func80 rfl rfl rfl 2000 hI fun w Xs => ?_; (conv => arg 4; cbv)
  replace h := h w Xs
  repeat' (first | (have hd := And.left h; replace h := And.right h) | ((with_reducible refine on_eqs ?_ ?_); (focus (with_reducible rfl)); conv => arg 4; cbv) | (with_reducible refine on_both ?_ ?_ <;> (conv => arg 4; cbv)) | (with_reducible refine on_true (by assumption) ?_; conv => arg 4; cbv) | (with_reducible refine on_false (by assumption) ?_; conv => arg 4; cbv) | (with_reducible refine on_ask (fun g => ?_) (fun g => ?_) <;> (have hc := g) <;> (try simp (disch := omega) [hI, hq0, -List.length_eq_zero_iff] at hc) <;> (try (exfalso; omega)) <;> (try (first | (revert h; (refine imp_l ?_ (fun h => ?_)); focus (first | exact hc | assumption | omega | (simpa using hc; done))) | (revert h; (refine imp_r ?_ (fun h => ?_)); focus (first | exact hc | assumption | omega | (simpa using hc; done))))) <;> (conv => arg 4; cbv)) | ((with_reducible refine on_must ?_ ?_); (focus ((simp (disch := omega) [hI, hq0]) <;> (first | omega | assumption | ((repeat' (refine And.intro ?_ ?_)) <;> (first | omega | assumption))))); conv => arg 4; cbv))
  all_goals (first | ((with_reducible have hG : G80_0 _ _ _ _ _ _ _ := h); unfold G80_0 at hG; (with_reducible refine on_loop ?_); simp only [List.cons_append, List.nil_append]; refine W_norm [0, 1, 5, 6] ?_ hG) | ((subst h); (with_reducible refine on_ret ?_); refine Ended_of rfl ?_))
  all_goals ((conv => lhs; cbv); (try (first | rfl | ((try simp (disch := omega) [hI, hq0, mapE_append, Ty.encs_append, encs1_I64, encs1_U8, encs1, mapE1]) <;> (first | rfl | omega | (simp; done))))))
theorem lm_of80 {w : World} {Xs : Nat → Prop} (plan : List NodeV) (op : Int) (hl : plan.length ≤ 1048576) : ∀ (k i : Nat) (acc : List Int), k + i = plan.length → acc.length ≤ i → G80_0 w Xs plan op acc i (.one (.arr 0 0 (acc ++ nodesL (plan.drop i) op i).length), [(0, .row 1 (tI64.encs (acc ++ nodesL (plan.drop i) op i)))], 1) := by
  intro k
  induction k with
  | zero =>
    intro i acc hk ha
    apply st80_0
    rw [if_neg (by omega), drop_nil (l := plan) (by omega)]
    simp [nodesL]
  | succ k ih =>
    intro i acc hk ha
    apply st80_0
    rw [if_pos (by omega), wsucc (by omega), Int.toNat_natCast, nth_drop (l := plan) (i := i) (by omega), nodesL]
    refine ⟨by omega, if_go (fun h => ?_) (fun h => ?_)⟩
    · have := ih (i + 1) (acc ++ [(i : Int)]) (by omega) (by simp; omega)
      rw [if_pos h]
      refine ⟨by omega, ?_⟩
      simpa using this
    · rw [if_neg h]
      exact ih (i + 1) acc (by omega) (by omega)

def sh80 : Shp := fun I i b l s => .ok (.one (.arr 0 0 (I.len (l 0))), [(0, .row 1 (l 0))], 1)
def an80 : An (List NodeV × Int × Unit) where
  pre t := decide (t.1.length ≤ 1048576)
  l _ t := (tI64.encs (nodesL t.1 t.2.1 0))
noncomputable def en80 : En := mkE (parsC (pL tNode) (parsC pI pars0)) an80
theorem ok80 (plan : List NodeV) (op : Int) (p0 : plan.length ≤ 1048576) : Ok0 Try.prog 80 [(pL tNode).enc plan, pI.enc op] ((.one (.arr 0 0 (nodesL plan op 0).length), [(0, .row 1 (tI64.encs (nodesL plan op 0)))], 1) : RES).1 ((.one (.arr 0 0 (nodesL plan op 0).length), [(0, .row 1 (tI64.encs (nodesL plan op 0)))], 1) : RES).2.1 ((.one (.arr 0 0 (nodesL plan op 0).length), [(0, .row 1 (tI64.encs (nodesL plan op 0)))], 1) : RES).2.2 := by
  exact go80 plan op fun w Xs => by simpa using lm_of80 (w := w) (Xs := Xs) plan op p0 plan.length 0 [] rfl (Nat.le_refl _)
theorem s80 {I : Ops} (hI : I = real) {e : En} (he : e = en80) : Sound Try.prog 80 (callE I e sh80) := by
  refine Sound.mkR ent80 hI ?_ he
  rintro ⟨plan, op, ⟨⟩⟩ hp r σ n e
  have hp : (decide (plan.length ≤ 1048576)) = true := hp
  try simp only [Bool.and_eq_true, decide_eq_true_eq] at hp
  have p0 := hp
  have e : (R.ok ((.one (.arr 0 0 (nodesL plan op 0).length), [(0, .row 1 (tI64.encs (nodesL plan op 0)))], 1) : RES) : R RES).val = some (r, σ, n) := by
    rw [← e]
    simp [sh80, an80]
  cases e
  exact ok80 plan op p0
theorem ent59 : Enters Try.prog 59 := ⟨Try.f59, Try.func59, by kernel_rfl, by kernel_rfl⟩
def G59_0 (w : World) (Xs : Nat → Prop) (plan : List NodeV) (op : Int) (r0 : List Int) (x11 : Int) (r : RES) : Prop := W Try.prog 59 Try.f59 (Ent0 w Xs) (Back (Ent0 w Xs) r.1 r.2.1 r.2.2) (place (bodyOf Try.f59) [1,1,0,1,0,0] [])
  ⟨[(1, .one (.pv (.sc (.int .i64 op)))), (5, .one (.arr 0 0 r0.length)), (9, .one (.pv (.sl false 7 (tNode.encs plan)))), (10, .one (.pv (.sc (.int .i64 (plan.length : Int))))), (11, .one (.pv (.sc (.int .i64 x11))))], [(0, .row 1 (tI64.encs r0))], 1⟩
theorem st59_0 {w : World} {Xs : Nat → Prop} (plan : List NodeV) (op : Int) (r0 : List Int) (x11 : Int) {r : RES} (h : (if x11 < (plan.length : Int) then ((0 ≤ x11 ∧ x11 < (plan.length : Int)) ∧ (if (nth plan x11.toNat).op = op then (((r0.length + 1) ≤ 17592186044416) ∧ G59_0 w Xs plan op (r0 ++ [x11]) (IntKind.i64.wrap (x11 + 1)) r) else G59_0 w Xs plan op r0 (IntKind.i64.wrap (x11 + 1)) r)) else r = (.one (.arr 0 0 r0.length), [(0, .row 1 (tI64.encs r0))], 1))) : G59_0 w Xs plan op r0 x11 r := by
  obtain ⟨I, hI⟩ : ∃ I, I = real := ⟨_, rfl⟩
  unfold G59_0
  obtain ⟨q0, hq0⟩ : ∃ q, q = (plan.length : Int) := ⟨_, rfl⟩
  try rw [← hq0]
  obtain ⟨q1, hq1⟩ : ∃ q, q = (tNode.encs plan) := ⟨_, rfl⟩
  try rw [← hq1]
  obtain ⟨q2, hq2⟩ : ∃ q, q = (tI64.encs r0) := ⟨_, rfl⟩
  try rw [← hq2]
  obtain ⟨q3, hq3⟩ : ∃ q, q = r0.length := ⟨_, rfl⟩
  try rw [← hq3]
  refine W_go (Y := (Tab.calls [])) xok (TabOk.calls mixed trivial) Try.func59 rfl 2000 _ hI ?_; (conv => arg 4; cbv)
  repeat' (first | (have hd := And.left h; replace h := And.right h) | ((with_reducible refine on_eqs ?_ ?_); (focus (with_reducible rfl)); conv => arg 4; cbv) | (with_reducible refine on_both ?_ ?_ <;> (conv => arg 4; cbv)) | (with_reducible refine on_true (by assumption) ?_; conv => arg 4; cbv) | (with_reducible refine on_false (by assumption) ?_; conv => arg 4; cbv) | (with_reducible refine on_ask (fun g => ?_) (fun g => ?_) <;> (have hc := g) <;> (try simp (disch := omega) [hI, hq0, hq1, hq2, hq3, -List.length_eq_zero_iff] at hc) <;> (try (exfalso; omega)) <;> (try (first | (revert h; (refine imp_l ?_ (fun h => ?_)); focus (first | exact hc | assumption | omega | (simpa using hc; done))) | (revert h; (refine imp_r ?_ (fun h => ?_)); focus (first | exact hc | assumption | omega | (simpa using hc; done))))) <;> (conv => arg 4; cbv)) | ((with_reducible refine on_must ?_ ?_); (focus ((simp (disch := omega) [hI, hq0, hq1, hq2, hq3]) <;> (first | omega | assumption | ((repeat' (refine And.intro ?_ ?_)) <;> (first | omega | assumption))))); conv => arg 4; cbv))
  all_goals (first | ((with_reducible have hG : G59_0 _ _ _ _ _ _ _ := h); unfold G59_0 at hG; (with_reducible refine on_loop ?_); simp only [List.cons_append, List.nil_append]; refine W_norm [1, 5, 9, 10, 11] ?_ hG) | ((subst h); (with_reducible refine on_ret ?_); refine Ended_of rfl ?_))
  all_goals ((conv => lhs; cbv); (try (first | rfl | ((try simp (disch := omega) [hI, hq0, hq1, hq2, hq3, mapE_append, Ty.encs_append, encs1_I64, encs1_U8, encs1, mapE1]) <;> (first | rfl | omega | (simp; done))))))
theorem go59 (plan : List NodeV) (op : Int) {r : RES} (h : ∀ (w : World) (Xs : Nat → Prop), G59_0 w Xs plan op ([]) 0 r) : Ok0 Try.prog 59 [(pL tNode).enc plan, pI.enc op] r.1 r.2.1 r.2.2 := by
  obtain ⟨I, hI⟩ : ∃ I, I = real := ⟨_, rfl⟩
  show Ok0 Try.prog 59 [.one (.pv (.sl false 7 (tNode.encs plan))), .one (.pv (.sc (.int .i64 op)))] _ _ _
  obtain ⟨q0, hq0⟩ : ∃ q, q = (tNode.encs plan) := ⟨_, rfl⟩
  try rw [← hq0]
  refine Ok0_run (Y := (Tab.calls [])) xok (TabOk.calls mixed trivial) Try.func59 rfl rfl rfl 2000 hI fun w Xs => ?_; (conv => arg 4; cbv)
  replace h := h w Xs
  repeat' (first | (have hd := And.left h; replace h := And.right h) | ((with_reducible refine on_eqs ?_ ?_); (focus (with_reducible rfl)); conv => arg 4; cbv) | (with_reducible refine on_both ?_ ?_ <;> (conv => arg 4; cbv)) | (with_reducible refine on_true (by assumption) ?_; conv => arg 4; cbv) | (with_reducible refine on_false (by assumption) ?_; conv => arg 4; cbv) | (with_reducible refine on_ask (fun g => ?_) (fun g => ?_) <;> (have hc := g) <;> (try simp (disch := omega) [hI, hq0, -List.length_eq_zero_iff] at hc) <;> (try (exfalso; omega)) <;> (try (first | (revert h; (refine imp_l ?_ (fun h => ?_)); focus (first | exact hc | assumption | omega | (simpa using hc; done))) | (revert h; (refine imp_r ?_ (fun h => ?_)); focus (first | exact hc | assumption | omega | (simpa using hc; done))))) <;> (conv => arg 4; cbv)) | ((with_reducible refine on_must ?_ ?_); (focus ((simp (disch := omega) [hI, hq0]) <;> (first | omega | assumption | ((repeat' (refine And.intro ?_ ?_)) <;> (first | omega | assumption))))); conv => arg 4; cbv))
  all_goals (first | ((with_reducible have hG : G59_0 _ _ _ _ _ _ _ := h); unfold G59_0 at hG; (with_reducible refine on_loop ?_); simp only [List.cons_append, List.nil_append]; refine W_norm [1, 5, 9, 10, 11] ?_ hG) | ((subst h); (with_reducible refine on_ret ?_); refine Ended_of rfl ?_))
  all_goals ((conv => lhs; cbv); (try (first | rfl | ((try simp (disch := omega) [hI, hq0, mapE_append, Ty.encs_append, encs1_I64, encs1_U8, encs1, mapE1]) <;> (first | rfl | omega | (simp; done))))))
theorem lm_of59 {w : World} {Xs : Nat → Prop} (plan : List NodeV) (op : Int) (hl : plan.length ≤ 1048576) : ∀ (k i : Nat) (acc : List Int), k + i = plan.length → acc.length ≤ i → G59_0 w Xs plan op acc i (.one (.arr 0 0 (acc ++ nodesL (plan.drop i) op i).length), [(0, .row 1 (tI64.encs (acc ++ nodesL (plan.drop i) op i)))], 1) := by
  intro k
  induction k with
  | zero =>
    intro i acc hk ha
    apply st59_0
    rw [if_neg (by omega), drop_nil (l := plan) (by omega)]
    simp [nodesL]
  | succ k ih =>
    intro i acc hk ha
    apply st59_0
    rw [if_pos (by omega), wsucc (by omega), Int.toNat_natCast, nth_drop (l := plan) (i := i) (by omega), nodesL]
    refine ⟨by omega, if_go (fun h => ?_) (fun h => ?_)⟩
    · have := ih (i + 1) (acc ++ [(i : Int)]) (by omega) (by simp; omega)
      rw [if_pos h]
      refine ⟨by omega, ?_⟩
      simpa using this
    · rw [if_neg h]
      exact ih (i + 1) acc (by omega) (by omega)

def sh59 : Shp := fun I i b l s => .ok (.one (.arr 0 0 (I.len (l 0))), [(0, .row 1 (l 0))], 1)
def an59 : An (List NodeV × Int × Unit) where
  pre t := decide (t.1.length ≤ 1048576)
  l _ t := (tI64.encs (nodesL t.1 t.2.1 0))
noncomputable def en59 : En := mkE (parsC (pL tNode) (parsC pI pars0)) an59
theorem ok59 (plan : List NodeV) (op : Int) (p0 : plan.length ≤ 1048576) : Ok0 Try.prog 59 [(pL tNode).enc plan, pI.enc op] ((.one (.arr 0 0 (nodesL plan op 0).length), [(0, .row 1 (tI64.encs (nodesL plan op 0)))], 1) : RES).1 ((.one (.arr 0 0 (nodesL plan op 0).length), [(0, .row 1 (tI64.encs (nodesL plan op 0)))], 1) : RES).2.1 ((.one (.arr 0 0 (nodesL plan op 0).length), [(0, .row 1 (tI64.encs (nodesL plan op 0)))], 1) : RES).2.2 := by
  exact go59 plan op fun w Xs => by simpa using lm_of59 (w := w) (Xs := Xs) plan op p0 plan.length 0 [] rfl (Nat.le_refl _)
theorem s59 {I : Ops} (hI : I = real) {e : En} (he : e = en59) : Sound Try.prog 59 (callE I e sh59) := by
  refine Sound.mkR ent59 hI ?_ he
  rintro ⟨plan, op, ⟨⟩⟩ hp r σ n e
  have hp : (decide (plan.length ≤ 1048576)) = true := hp
  try simp only [Bool.and_eq_true, decide_eq_true_eq] at hp
  have p0 := hp
  have e : (R.ok ((.one (.arr 0 0 (nodesL plan op 0).length), [(0, .row 1 (tI64.encs (nodesL plan op 0)))], 1) : RES) : R RES).val = some (r, σ, n) := by
    rw [← e]
    simp [sh59, an59]
  cases e
  exact ok59 plan op p0
end Go.Proofs.Try
