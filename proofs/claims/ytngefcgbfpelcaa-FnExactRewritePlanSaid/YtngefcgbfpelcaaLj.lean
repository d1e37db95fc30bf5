/- Contracts. -/
import Derived.Test.YtngefcgbfpelcaaLi
set_option linter.unusedSimpArgs false
set_option linter.unusedVariables false
namespace Go.Proofs.Try
open Go Go.Aix
set_option maxRecDepth 100000
set_option maxHeartbeats 4000000
set_option linter.unusedSimpArgs false
set_option linter.unusedVariables false
theorem ent65 : Enters Try.prog 65 := ⟨Try.f65, Try.func65, by kernel_rfl, by kernel_rfl⟩
def G65_0 (w : World) (Xs : Nat → Prop) (row : List Int) (cells : List Int) (r0 : List Int) (x11 : Int) (r : RES) : Prop := W Try.prog 65 Try.f65 (Ent0 w Xs) (Back (Ent0 w Xs) r.1 r.2.1 r.2.2) (place (bodyOf Try.f65) [1,1,0,1,0,0] [])
  ⟨[(0, .one (.pv (.sl false 1 (tI64.encs row)))), (5, .one (.arr 0 0 r0.length)), (9, .one (.pv (.sl false 1 (tI64.encs cells)))), (10, .one (.pv (.sc (.int .i64 (cells.length : Int))))), (11, .one (.pv (.sc (.int .i64 x11))))], [(0, .row 1 (tI64.encs r0))], 1⟩
theorem st65_0 {w : World} {Xs : Nat → Prop} (row : List Int) (cells : List Int) (r0 : List Int) (x11 : Int) {r : RES} (h : (if x11 < (cells.length : Int) then ((0 ≤ x11 ∧ x11 < (cells.length : Int)) ∧ ((0 ≤ (nth cells x11.toNat) ∧ (nth cells x11.toNat) < (row.length : Int)) ∧ (((r0.length + 1) ≤ 17592186044416) ∧ G65_0 w Xs row cells (r0 ++ [(nth row ((nth cells x11.toNat).toNat))]) (IntKind.i64.wrap (x11 + 1)) r))) else r = (.one (.pv (.sl false 1 (tI64.encs r0))), [], 0))) : G65_0 w Xs row cells r0 x11 r := by
  obtain ⟨I, hI⟩ : ∃ I, I = real := ⟨_, rfl⟩
  unfold G65_0
  obtain ⟨q0, hq0⟩ : ∃ q, q = (cells.length : Int) := ⟨_, rfl⟩
  try rw [← hq0]
  obtain ⟨q1, hq1⟩ : ∃ q, q = (tI64.encs cells) := ⟨_, rfl⟩
  try rw [← hq1]
  obtain ⟨q2, hq2⟩ : ∃ q, q = (tI64.encs row) := ⟨_, rfl⟩
  try rw [← hq2]
  obtain ⟨q3, hq3⟩ : ∃ q, q = (tI64.encs r0) := ⟨_, rfl⟩
  try rw [← hq3]
  obtain ⟨q4, hq4⟩ : ∃ q, q = r0.length := ⟨_, rfl⟩
  try rw [← hq4]
  refine W_go (Y := (Tab.calls [])) xok (TabOk.calls mixed trivial) Try.func65 rfl 2000 _ hI ?_; (conv => arg 4; cbv)
  repeat' (first | (have hd := And.left h; replace h := And.right h) | ((with_reducible refine on_eqs ?_ ?_); (focus (with_reducible rfl)); conv => arg 4; cbv) | (with_reducible refine on_both ?_ ?_ <;> (conv => arg 4; cbv)) | (with_reducible refine on_true (by assumption) ?_; conv => arg 4; cbv) | (with_reducible refine on_false (by assumption) ?_; conv => arg 4; cbv) | (with_reducible refine on_ask (fun g => ?_) (fun g => ?_) <;> (have hc := g) <;> (try simp (disch := omega) [hI, hq0, hq1, hq2, hq3, hq4, -List.length_eq_zero_iff] at hc) <;> (try (exfalso; omega)) <;> (try (first | (revert h; (refine imp_l ?_ (fun h => ?_)); focus (first | exact hc | assumption | omega | (simpa using hc; done))) | (revert h; (refine imp_r ?_ (fun h => ?_)); focus (first | exact hc | assumption | omega | (simpa using hc; done))))) <;> (conv => arg 4; cbv)) | ((with_reducible refine on_must ?_ ?_); (focus ((simp (disch := omega) [hI, hq0, hq1, hq2, hq3, hq4]) <;> (first | omega | assumption | ((repeat' (refine And.intro ?_ ?_)) <;> (first | omega | assumption))))); conv => arg 4; cbv))
  all_goals (first | ((with_reducible have hG : G65_0 _ _ _ _ _ _ _ := h); unfold G65_0 at hG; (with_reducible refine on_loop ?_); simp only [List.cons_append, List.nil_append]; refine W_norm [0, 5, 9, 10, 11] ?_ hG) | ((subst h); (with_reducible refine on_ret ?_); refine Ended_flat hI rfl ?_))
  all_goals ((conv => lhs; cbv); (try (first | rfl | ((try simp (disch := omega) [hI, hq0, hq1, hq2, hq3, hq4, mapE_append, Ty.encs_append, encs1_I64, encs1_U8, encs1, mapE1]) <;> (first | rfl | omega | (simp; done))))))
theorem go65 (row : List Int) (cells : List Int) {r : RES} (h : ∀ (w : World) (Xs : Nat → Prop), G65_0 w Xs row cells ([]) 0 r) : Ok0 Try.prog 65 [(pL tI64).enc row, (pL tI64).enc cells] r.1 r.2.1 r.2.2 := by
  obtain ⟨I, hI⟩ : ∃ I, I = real := ⟨_, rfl⟩
  show Ok0 Try.prog 65 [.one (.pv (.sl false 1 (tI64.encs row))), .one (.pv (.sl false 1 (tI64.encs cells)))] _ _ _
  obtain ⟨q0, hq0⟩ : ∃ q, q = (tI64.encs cells) := ⟨_, rfl⟩
  try rw [← hq0]
  obtain ⟨q1, hq1⟩ : ∃ q, q = (tI64.encs row) := ⟨_, rfl⟩
  try rw [← hq1]
  refine Ok0_run (Y := (Tab.calls [])) xok (TabOk.calls mixed trivial) Try.func65 rfl rfl rfl 2000 hI fun w Xs => ?_; (conv => arg 4; cbv)
  replace h := h w Xs
  repeat' (first | (have hd := And.left h; replace h := And.right h) | ((with_reducible refine on_eqs ?_ ?_); (focus (with_reducible rfl)); conv => arg 4; cbv) | (with_reducible refine on_both ?_ ?_ <;> (conv => arg 4; cbv)) | (with_reducible refine on_true (by assumption) ?_; conv => arg 4; cbv) | (with_reducible refine on_false (by assumption) ?_; conv => arg 4; cbv) | (with_reducible refine on_ask (fun g => ?_) (fun g => ?_) <;> (have hc := g) <;> (try simp (disch := omega) [hI, hq0, hq1, -List.length_eq_zero_iff] at hc) <;> (try (exfalso; omega)) <;> (try (first | (revert h; (refine imp_l ?_ (fun h => ?_)); focus (first | exact hc | assumption | omega | (simpa using hc; done))) | (revert h; (refine imp_r ?_ (fun h => ?_)); focus (first | exact hc | assumption | omega | (simpa using hc; done))))) <;> (conv => arg 4; cbv)) | ((with_reducible refine on_must ?_ ?_); (focus ((simp (disch := omega) [hI, hq0, hq1]) <;> (first | omega | assumption | ((repeat' (refine And.intro ?_ ?_)) <;> (first | omega | assumption))))); conv => arg 4; cbv))
  all_goals (first | ((with_reducible have hG : G65_0 _ _ _ _ _ _ _ := h); unfold G65_0 at hG; (with_reducible refine on_loop ?_); simp only [List.cons_append, List.nil_append]; refine W_norm [0, 5, 9, 10, 11] ?_ hG) | ((subst h); (with_reducible refine on_ret ?_); refine Ended_flat hI rfl ?_))
  all_goals ((conv => lhs; cbv); (try (first | rfl | ((try simp (disch := omega) [hI, hq0, hq1, mapE_append, Ty.encs_append, encs1_I64, encs1_U8, encs1, mapE1]) <;> (first | rfl | omega | (simp; done))))))
def pickF (row cells : List Int) : List Int := cells.map fun c => nth row c.toNat
def cellsIn (row cells : List Int) : Bool := decide (cells.length ≤ 1048576) && cells.all fun c => decide (0 ≤ c ∧ c < row.length)
theorem cellsIn_len {row cells : List Int} (h : cellsIn row cells = true) : cells.length ≤ 1048576 := by
  unfold cellsIn at h
  simp only [Bool.and_eq_true, decide_eq_true_eq] at h
  exact h.1
theorem cellsIn_nth {row cells : List Int} (h : cellsIn row cells = true) {i : Nat} (hi : i < cells.length) : 0 ≤ nth cells i ∧ nth cells i < row.length := by
  unfold cellsIn at h
  simp only [Bool.and_eq_true, decide_eq_true_eq, List.all_eq_true] at h
  exact h.2 _ (nth_mem hi)
theorem lm_pick65 {w : World} {Xs : Nat → Prop} (row cells : List Int) (hc : cellsIn row cells = true) : ∀ (k i : Nat) (acc : List Int), k + i = cells.length → acc.length = i → G65_0 w Xs row cells acc i (.one (.pv (.sl false 1 (tI64.encs (acc ++ pickF row (cells.drop i))))), [], 0) := by
  intro k
  induction k with
  | zero =>
    intro i acc hk ha
    apply st65_0
    rw [if_neg (by omega), drop_nil (l := cells) (by omega)]
    simp [pickF]
  | succ k ih =>
    intro i acc hk ha
    have h1 := cellsIn_nth hc (i := i) (by omega)
    have h2 := cellsIn_len hc
    apply st65_0
    rw [if_pos (by omega), wsucc (by omega)]
    refine ⟨by omega, h1, by omega, ?_⟩
    have := ih (i + 1) (acc ++ [nth row (nth cells i).toNat]) (by omega) (by simp; omega)
    rw [nth_drop (l := cells) (i := i) (by omega)]
    simpa [pickF] using this

def sh65 : Shp := fun I i b l s => .ok (.one (.pv (.sl false 1 (l 0))), [], 0)
def an65 : An (List Int × List Int × Unit) where
  pre t := (cellsIn t.1 t.2.1)
  l _ t := (tI64.encs (pickF t.1 t.2.1))
noncomputable def en65 : En := mkE (parsC (pL tI64) (parsC (pL tI64) pars0)) an65
theorem ok65 (row : List Int) (cells : List Int) (p0 : cellsIn row cells = true) : Ok0 Try.prog 65 [(pL tI64).enc row, (pL tI64).enc cells] ((.one (.pv (.sl false 1 (tI64.encs (pickF row cells)))), [], 0) : RES).1 ((.one (.pv (.sl false 1 (tI64.encs (pickF row cells)))), [], 0) : RES).2.1 ((.one (.pv (.sl false 1 (tI64.encs (pickF row cells)))), [], 0) : RES).2.2 := by
  have := fun (w : World) (Xs : Nat → Prop) => lm_pick65 (w := w) (Xs := Xs) row cells p0 cells.length 0 [] rfl rfl
  exact go65 row cells fun w Xs => this w Xs
theorem s65 {I : Ops} (hI : I = real) {e : En} (he : e = en65) : Sound Try.prog 65 (callE I e sh65) := by
  refine Sound.mkE ent65 hI (fun _ => rfl) ?_ he
  rintro ⟨row, cells, ⟨⟩⟩ hp
  have hp : ((cellsIn row cells)) = true := hp
  try simp only [Bool.and_eq_true, decide_eq_true_eq] at hp
  have p0 := hp
  exact ok65 row cells p0
theorem ent62 : Enters Try.prog 62 := ⟨Try.f62, Try.func62, by kernel_rfl, by kernel_rfl⟩
def G62_0 (w : World) (Xs : Nat → Prop) (row : List Int) (cells : List Int) (r0 : List Int) (i : Int) (r : RES) : Prop := W Try.prog 62 Try.f62 (Ent0 w Xs) (Back (Ent0 w Xs) r.1 r.2.1 r.2.2) (place (bodyOf Try.f62) [1,1,0,1,0,0] [])
  ⟨[(0, .one (.pv (.sl false 1 (tI64.encs row)))), (1, .one (.pv (.sl false 1 (tI64.encs cells)))), (5, .one (.arr 0 0 r0.length)), (6, .one (.pv (.sc (.int .i64 i))))], [(0, .row 1 (tI64.encs r0))], 1⟩
theorem st62_0 {w : World} {Xs : Nat → Prop} (row : List Int) (cells : List Int) (r0 : List Int) (i : Int) {r : RES} (h : (if i < (cells.length : Int) then ((0 ≤ i ∧ i < (cells.length : Int)) ∧ ((0 ≤ (nth cells i.toNat) ∧ (nth cells i.toNat) < (row.length : Int)) ∧ (((r0.length + 1) ≤ 17592186044416) ∧ G62_0 w Xs row cells (r0 ++ [(nth row ((nth cells i.toNat).toNat))]) (IntKind.i64.wrap (i + 1)) r))) else r = (.one (.pv (.sl false 1 (tI64.encs r0))), [], 0))) : G62_0 w Xs row cells r0 i r := by
  obtain ⟨I, hI⟩ : ∃ I, I = real := ⟨_, rfl⟩
  unfold G62_0
  obtain ⟨q0, hq0⟩ : ∃ q, q = (tI64.encs cells) := ⟨_, rfl⟩
  try rw [← hq0]
  obtain ⟨q1, hq1⟩ : ∃ q, q = (tI64.encs row) := ⟨_, rfl⟩
  try rw [← hq1]
  obtain ⟨q2, hq2⟩ : ∃ q, q = (tI64.encs r0) := ⟨_, rfl⟩
  try rw [← hq2]
  obtain ⟨q3, hq3⟩ : ∃ q, q = r0.length := ⟨_, rfl⟩
  try rw [← hq3]
  refine W_go (Y := (Tab.calls [])) xok (TabOk.calls mixed trivial) Try.func62 rfl 2000 _ hI ?_; (conv => arg 4; cbv)
  repeat' (first | (have hd := And.left h; replace h := And.right h) | ((with_reducible refine on_eqs ?_ ?_); (focus (with_reducible rfl)); conv => arg 4; cbv) | (with_reducible refine on_both ?_ ?_ <;> (conv => arg 4; cbv)) | (with_reducible refine on_true (by assumption) ?_; conv => arg 4; cbv) | (with_reducible refine on_false (by assumption) ?_; conv => arg 4; cbv) | (with_reducible refine on_ask (fun g => ?_) (fun g => ?_) <;> (have hc := g) <;> (try simp (disch := omega) [hI, hq0, hq1, hq2, hq3, -List.length_eq_zero_iff] at hc) <;> (try (exfalso; omega)) <;> (try (first | (revert h; (refine imp_l ?_ (fun h => ?_)); focus (first | exact hc | assumption | omega | (simpa using hc; done))) | (revert h; (refine imp_r ?_ (fun h => ?_)); focus (first | exact hc | assumption | omega | (simpa using hc; done))))) <;> (conv => arg 4; cbv)) | ((with_reducible refine on_must ?_ ?_); (focus ((simp (disch := omega) [hI, hq0, hq1, hq2, hq3]) <;> (first | omega | assumption | ((repeat' (refine And.intro ?_ ?_)) <;> (first | omega | assumption))))); conv => arg 4; cbv))
  all_goals (first | ((with_reducible have hG : G62_0 _ _ _ _ _ _ _ := h); unfold G62_0 at hG; (with_reducible refine on_loop ?_); simp only [List.cons_append, List.nil_append]; refine W_norm [0, 1, 5, 6] ?_ hG) | ((subst h); (with_reducible refine on_ret ?_); refine Ended_flat hI rfl ?_))
  all_goals ((conv => lhs; cbv); (try (first | rfl | ((try simp (disch := omega) [hI, hq0, hq1, hq2, hq3, mapE_append, Ty.encs_append, encs1_I64, encs1_U8, encs1, mapE1]) <;> (first | rfl | omega | (simp; done))))))
theorem go62 (row : List Int) (cells : List Int) {r : RES} (h : ∀ (w : World) (Xs : Nat → Prop), G62_0 w Xs row cells ([]) 0 r) : Ok0 Try.prog 62 [(pL tI64).enc row, (pL tI64).enc cells] r.1 r.2.1 r.2.2 := by
  obtain ⟨I, hI⟩ : ∃ I, I = real := ⟨_, rfl⟩
  show Ok0 Try.prog 62 [.one (.pv (.sl false 1 (tI64.encs row))), .one (.pv (.sl false 1 (tI64.encs cells)))] _ _ _
  obtain ⟨q0, hq0⟩ : ∃ q, q = (tI64.encs cells) := ⟨_, rfl⟩
  try rw [← hq0]
  obtain ⟨q1, hq1⟩ : ∃ q, q = (tI64.encs row) := ⟨_, rfl⟩
  try rw [← hq1]
  refine Ok0_run (Y := (Tab.calls [])) xok (TabOk.calls mixed trivial) Try.func62 rfl rfl rfl 2000 hI fun w Xs => ?_; (conv => arg 4; cbv)
  replace h := h w Xs
  repeat' (first | (have hd := And.left h; replace h := And.right h) | ((with_reducible refine on_eqs ?_ ?_); (focus (with_reducible rfl)); conv => arg 4; cbv) | (with_reducible refine on_both ?_ ?_ <;> (conv => arg 4; cbv)) | (with_reducible refine on_true (by assumption) ?_; conv => arg 4; cbv) | (with_reducible refine on_false (by assumption) ?_; conv => arg 4; cbv) | (with_reducible refine on_ask (fun g => ?_) (fun g => ?_) <;> (have hc := g) <;> (try simp (disch := omega) [hI, hq0, hq1, -List.length_eq_zero_iff] at hc) <;> (try (exfalso; omega)) <;> (try (first | (revert h; (refine imp_l ?_ (fun h => ?_)); focus (first | exact hc | assumption | omega | (simpa using hc; done))) | (revert h; (refine imp_r ?_ (fun h => ?_)); focus (first | exact hc | assumption | omega | (simpa using hc; done))))) <;> (conv => arg 4; cbv)) | ((with_reducible refine on_must ?_ ?_); (focus ((simp (disch := omega) [hI, hq0, hq1]) <;> (first | omega | assumption | ((repeat' (refine And.intro ?_ ?_)) <;> (first | omega | assumption))))); conv => arg 4; cbv))
  all_goals (first | ((with_reducible have hG : G62_0 _ _ _ _ _ _ _ := h); unfold G62_0 at hG; (with_reducible refine on_loop ?_); simp only [List.cons_append, List.nil_append]; refine W_norm [0, 1, 5, 6] ?_ hG) | ((subst h); (with_reducible refine on_ret ?_); refine Ended_flat hI rfl ?_))
  all_goals ((conv => lhs; cbv); (try (first | rfl | ((try simp (disch := omega) [hI, hq0, hq1, mapE_append, Ty.encs_append, encs1_I64, encs1_U8, encs1, mapE1]) <;> (first | rfl | omega | (simp; done))))))
theorem lm_pick62 {w : World} {Xs : Nat → Prop} (row cells : List Int) (hc : cellsIn row cells = true) : ∀ (k i : Nat) (acc : List Int), k + i = cells.length → acc.length = i → G62_0 w Xs row cells acc i (.one (.pv (.sl false 1 (tI64.encs (acc ++ pickF row (cells.drop i))))), [], 0) := by
  intro k
  induction k with
  | zero =>
    intro i acc hk ha
    apply st62_0
    rw [if_neg (by omega), drop_nil (l := cells) (by omega)]
    simp [pickF]
  | succ k ih =>
    intro i acc hk ha
    have h1 := cellsIn_nth hc (i := i) (by omega)
    have h2 := cellsIn_len hc
    apply st62_0
    rw [if_pos (by omega), wsucc (by omega)]
    refine ⟨by omega, h1, by omega, ?_⟩
    have := ih (i + 1) (acc ++ [nth row (nth cells i).toNat]) (by omega) (by simp; omega)
    rw [nth_drop (l := cells) (i := i) (by omega)]
    simpa [pickF] using this

def sh62 : Shp := fun I i b l s => .ok (.one (.pv (.sl false 1 (l 0))), [], 0)
def an62 : An (List Int × List Int × Unit) where
  pre t := (cellsIn t.1 t.2.1)
  l _ t := (tI64.encs (pickF t.1 t.2.1))
noncomputable def en62 : En := mkE (parsC (pL tI64) (parsC (pL tI64) pars0)) an62
theorem ok62 (row : List Int) (cells : List Int) (p0 : cellsIn row cells = true) : Ok0 Try.prog 62 [(pL tI64).enc row, (pL tI64).enc cells] ((.one (.pv (.sl false 1 (tI64.encs (pickF row cells)))), [], 0) : RES).1 ((.one (.pv (.sl false 1 (tI64.encs (pickF row cells)))), [], 0) : RES).2.1 ((.one (.pv (.sl false 1 (tI64.encs (pickF row cells)))), [], 0) : RES).2.2 := by
  have := fun (w : World) (Xs : Nat → Prop) => lm_pick62 (w := w) (Xs := Xs) row cells p0 cells.length 0 [] rfl rfl
  exact go62 row cells fun w Xs => this w Xs
theorem s62 {I : Ops} (hI : I = real) {e : En} (he : e = en62) : Sound Try.prog 62 (callE I e sh62) := by
  refine Sound.mkE ent62 hI (fun _ => rfl) ?_ he
  rintro ⟨row, cells, ⟨⟩⟩ hp
  have hp : ((cellsIn row cells)) = true := hp
  try simp only [Bool.and_eq_true, decide_eq_true_eq] at hp
  have p0 := hp
  exact ok62 row cells p0
end Go.Proofs.Try
