/- Contracts. -/
import Derived.Test.YtngefcgbfpelcaaLg
set_option linter.unusedSimpArgs false
set_option linter.unusedVariables false
namespace Go.Proofs.Try
open Go Go.Aix
set_option maxRecDepth 100000
set_option maxHeartbeats 4000000
set_option linter.unusedSimpArgs false
set_option linter.unusedVariables false
theorem ent90 : Enters Try.prog 90 := ⟨Try.f90, Try.func90, by kernel_rfl, by kernel_rfl⟩
theorem go90 (s : List Int) {r : RES} (h : ∀ (w : World) (Xs : Nat → Prop), (NilT (s = []) (r = (.one (.pv .nl), [], 0)) (((s.length ≤ 17592186044416) ∧ r = (.one (.arr 0 0 s.length), [(0, .row 1 (tI64.encs s))], 1))))) : Ok0 Try.prog 90 [(pL tI64).enc s] r.1 r.2.1 r.2.2 := by
  obtain ⟨I, hI⟩ : ∃ I, I = real := ⟨_, rfl⟩
  show Ok0 Try.prog 90 [.one (.pv (.sl false 1 (tI64.encs s)))] _ _ _
  obtain ⟨q0, hq0⟩ : ∃ q, q = (tI64.encs s) := ⟨_, rfl⟩
  try rw [← hq0]
  refine Ok0_run (Y := (Tab.calls [])) xok (TabOk.calls mixed trivial) Try.func90 rfl rfl rfl 2000 hI fun w Xs => ?_; (conv => arg 4; cbv)
  replace h := h w Xs
  repeat' (first | (have hd := And.left h; replace h := And.right h) | ((with_reducible refine on_eqs ?_ ?_); (focus (with_reducible rfl)); conv => arg 4; cbv) | (with_reducible refine on_both ?_ ?_ <;> (conv => arg 4; cbv)) | (with_reducible refine on_true (by assumption) ?_; conv => arg 4; cbv) | (with_reducible refine on_false (by assumption) ?_; conv => arg 4; cbv) | (with_reducible refine on_ask (fun g => ?_) (fun g => ?_) <;> (have hc := g) <;> (try simp (disch := omega) [hI, hq0, -List.length_eq_zero_iff] at hc) <;> (try (exfalso; omega)) <;> (try (first | (revert h; (refine imp_l ?_ (fun h => ?_)); focus (first | exact hc | assumption | omega | (simpa using hc; done))) | (revert h; (refine imp_r ?_ (fun h => ?_)); focus (first | exact hc | assumption | omega | (simpa using hc; done))))) <;> (conv => arg 4; cbv)) | ((with_reducible refine on_must ?_ ?_); (focus ((simp (disch := omega) [hI, hq0]) <;> (first | omega | assumption | ((repeat' (refine And.intro ?_ ?_)) <;> (first | omega | assumption))))); conv => arg 4; cbv) | ((with_reducible refine on_any ?_); refine W_nil xok rfl rfl rfl rfl rfl rfl rfl rfl rfl rfl rfl rfl ?_ ?_ <;> (first | (intro e; replace h := NilT.l h (by first | exact trivial | (have e2 := congrArg List.length e; simp [hI, hq0] at e2; exact e2)); (refine W_behind (Y := (Tab.calls [])) xok (TabOk.calls mixed trivial) Try.func90 rfl 2000 _ hI ?_; (conv => arg 4; cbv))) | (replace h := NilT.r h; (refine W_behind (Y := (Tab.calls [])) xok (TabOk.calls mixed trivial) Try.func90 rfl 2000 _ hI ?_; (conv => arg 4; cbv))))))
  all_goals (first | ((subst h); (with_reducible refine on_ret ?_); refine Ended_of rfl ?_))
  all_goals ((conv => lhs; cbv); (try (first | rfl | ((try simp (disch := omega) [hI, hq0, mapE_append, Ty.encs_append, encs1_I64, encs1_U8, encs1, mapE1]) <;> (first | rfl | omega | (simp; done))))))
theorem okE90 : Ok0 Try.prog 90 [.one (.pv (.sl false 1 []))] (.one (.pv (.sl true 1 []))) [] 0 := by
  obtain ⟨I, hI⟩ : ∃ I, I = real := ⟨_, rfl⟩
  refine Ok0_run (Y := (Tab.calls [])) xok (TabOk.calls mixed trivial) Try.func90 rfl rfl rfl 2000 hI fun w Xs => ?_; (conv => arg 4; cbv)
  (with_reducible refine on_any ?_)
  refine W_nil xok rfl rfl rfl rfl rfl rfl rfl rfl rfl rfl rfl rfl ?_ ?_
  · intro _
    refine W_behind (Y := (Tab.calls [])) xok (TabOk.calls mixed trivial) Try.func90 rfl 2000 _ hI ?_; (conv => arg 4; cbv)
    repeat' (first | ((with_reducible refine on_eqs ?_ ?_); (focus (with_reducible rfl)); conv => arg 4; cbv) | (with_reducible refine on_both ?_ ?_ <;> (conv => arg 4; cbv)) | (with_reducible refine on_true (by assumption) ?_; conv => arg 4; cbv) | (with_reducible refine on_false (by assumption) ?_; conv => arg 4; cbv) | (with_reducible refine on_ask (fun g => ?_) (fun g => ?_) <;> (have h := g) <;> (try simp (disch := omega) [hI, -List.length_eq_zero_iff] at h) <;> (try (exfalso; omega)) <;> (conv => arg 4; cbv)) | ((with_reducible refine on_must ?_ ?_); (focus ((simp (disch := omega) [hI]) <;> (first | omega | assumption | ((repeat' (refine And.intro ?_ ?_)) <;> (first | omega | assumption))))); conv => arg 4; cbv))
    (with_reducible refine on_ret ?_); refine Ended_flat hI rfl ?_; (conv => lhs; cbv) <;> rfl
  · refine W_behind (Y := (Tab.calls [])) xok (TabOk.calls mixed trivial) Try.func90 rfl 2000 _ hI ?_; (conv => arg 4; cbv)
    repeat' (first | ((with_reducible refine on_eqs ?_ ?_); (focus (with_reducible rfl)); conv => arg 4; cbv) | (with_reducible refine on_both ?_ ?_ <;> (conv => arg 4; cbv)) | (with_reducible refine on_true (by assumption) ?_; conv => arg 4; cbv) | (with_reducible refine on_false (by assumption) ?_; conv => arg 4; cbv) | (with_reducible refine on_ask (fun g => ?_) (fun g => ?_) <;> (have h := g) <;> (try simp (disch := omega) [hI, -List.length_eq_zero_iff] at h) <;> (try (exfalso; omega)) <;> (conv => arg 4; cbv)) | ((with_reducible refine on_must ?_ ?_); (focus ((simp (disch := omega) [hI]) <;> (first | omega | assumption | ((repeat' (refine And.intro ?_ ?_)) <;> (first | omega | assumption))))); conv => arg 4; cbv))
    (with_reducible refine on_ret ?_); refine Ended_em (u := true) (s := 1) (by simp [hI]) ?_; refine Ended_of rfl ?_; (conv => lhs; cbv) <;> rfl
def sh90 : Shp := fun I i b l s => .ask (b 0) fun t => match t with | true => .ok (.one (.pv (.sl true 1 [])), [], 0) | false => .ok (.one (.arr 0 0 (I.len (l 0))), [(0, .row 1 (l 0))], 1)
def an90 : An (List Int × Unit) where
  pre t := decide (t.1.length ≤ 1048576)
  b _ t := (decide (t.1 = []))
  l _ t := (tI64.encs t.1)
noncomputable def en90 : En := mkE (parsC (pL tI64) pars0) an90
theorem ok90 (s : List Int) (p0 : s.length ≤ 1048576) : Ok0 Try.prog 90 [(pL tI64).enc s] (if (decide (s = [])) = true then ((.one (.pv (.sl true 1 [])), [], 0) : RES) else ((.one (.arr 0 0 s.length), [(0, .row 1 (tI64.encs s))], 1) : RES) : RES).1 (if (decide (s = [])) = true then ((.one (.pv (.sl true 1 [])), [], 0) : RES) else ((.one (.arr 0 0 s.length), [(0, .row 1 (tI64.encs s))], 1) : RES) : RES).2.1 (if (decide (s = [])) = true then ((.one (.pv (.sl true 1 [])), [], 0) : RES) else ((.one (.arr 0 0 s.length), [(0, .row 1 (tI64.encs s))], 1) : RES) : RES).2.2 := by
  by_cases h : s = []
  · subst h
    exact okE90
  · rw [if_neg (by simpa using h)]
    exact go90 s fun w Xs => ⟨fun e => absurd e h, by omega, rfl⟩
theorem s90 {I : Ops} (hI : I = real) {e : En} (he : e = en90) : Sound Try.prog 90 (callE I e sh90) := by
  refine Sound.mkR ent90 hI ?_ he
  rintro ⟨s, ⟨⟩⟩ hp r σ n e
  have hp : (decide (s.length ≤ 1048576)) = true := hp
  try simp only [Bool.and_eq_true, decide_eq_true_eq] at hp
  have p0 := hp
  have e : (R.ok (if (decide (s = [])) = true then ((.one (.pv (.sl true 1 [])), [], 0) : RES) else ((.one (.arr 0 0 s.length), [(0, .row 1 (tI64.encs s))], 1) : RES) : RES) : R RES).val = some (r, σ, n) := by
    rw [← e]
    cases hb : ((decide (s = [])) : Bool) <;> (try simp at hb) <;> simp [sh90, an90, hb, val_ask]
  have k := ok90 s p0
  rw [Option.some.inj e] at k
  exact k
theorem ent64 : Enters Try.prog 64 := ⟨Try.f64, Try.func64, by kernel_rfl, by kernel_rfl⟩
theorem go64 (s : List NodeV) {r : RES} (h : ∀ (w : World) (Xs : Nat → Prop), (NilT (s = []) (r = (.one (.pv .nl), [], 0)) (((s.length ≤ 1954687338268) ∧ r = (.one (.arr 0 0 s.length), [(0, .row 7 (tNode.encs s))], 1))))) : Ok0 Try.prog 64 [(pL tNode).enc s] r.1 r.2.1 r.2.2 := by
  obtain ⟨I, hI⟩ : ∃ I, I = real := ⟨_, rfl⟩
  show Ok0 Try.prog 64 [.one (.pv (.sl false 7 (tNode.encs s)))] _ _ _
  obtain ⟨q0, hq0⟩ : ∃ q, q = (tNode.encs s) := ⟨_, rfl⟩
  try rw [← hq0]
  refine Ok0_run (Y := (Tab.calls [])) xok (TabOk.calls mixed trivial) Try.func64 rfl rfl rfl 2000 hI fun w Xs => ?_; (conv => arg 4; cbv)
  replace h := h w Xs
  repeat' (first | (have hd := And.left h; replace h := And.right h) | ((with_reducible refine on_eqs ?_ ?_); (focus (with_reducible rfl)); conv => arg 4; cbv) | (with_reducible refine on_both ?_ ?_ <;> (conv => arg 4; cbv)) | (with_reducible refine on_true (by assumption) ?_; conv => arg 4; cbv) | (with_reducible refine on_false (by assumption) ?_; conv => arg 4; cbv) | (with_reducible refine on_ask (fun g => ?_) (fun g => ?_) <;> (have hc := g) <;> (try simp (disch := omega) [hI, hq0, -List.length_eq_zero_iff] at hc) <;> (try (exfalso; omega)) <;> (try (first | (revert h; (refine imp_l ?_ (fun h => ?_)); focus (first | exact hc | assumption | omega | (simpa using hc; done))) | (revert h; (refine imp_r ?_ (fun h => ?_)); focus (first | exact hc | assumption | omega | (simpa using hc; done))))) <;> (conv => arg 4; cbv)) | ((with_reducible refine on_must ?_ ?_); (focus ((simp (disch := omega) [hI, hq0]) <;> (first | omega | assumption | ((repeat' (refine And.intro ?_ ?_)) <;> (first | omega | assumption))))); conv => arg 4; cbv) | ((with_reducible refine on_any ?_); refine W_nil xok rfl rfl rfl rfl rfl rfl rfl rfl rfl rfl rfl rfl ?_ ?_ <;> (first | (intro e; replace h := NilT.l h (by first | exact trivial | (have e2 := congrArg List.length e; simp [hI, hq0] at e2; exact e2)); (refine W_behind (Y := (Tab.calls [])) xok (TabOk.calls mixed trivial) Try.func64 rfl 2000 _ hI ?_; (conv => arg 4; cbv))) | (replace h := NilT.r h; (refine W_behind (Y := (Tab.calls [])) xok (TabOk.calls mixed trivial) Try.func64 rfl 2000 _ hI ?_; (conv => arg 4; cbv))))))
  all_goals (first | ((subst h); (with_reducible refine on_ret ?_); refine Ended_of rfl ?_))
  all_goals ((conv => lhs; cbv); (try (first | rfl | ((try simp (disch := omega) [hI, hq0, mapE_append, Ty.encs_append, encs1_I64, encs1_U8, encs1, mapE1]) <;> (first | rfl | omega | (simp; done))))))
def sh64 : Shp := fun I i b l s => .ok (.one (.arr 0 0 (I.len (l 0))), [(0, .row 7 (l 0))], 1)
def an64 : An (List NodeV × Unit) where
  pre t := decide (0 < t.1.length ∧ t.1.length ≤ 1048576)
  l _ t := (tNode.encs t.1)
noncomputable def en64 : En := mkE (parsC (pL tNode) pars0) an64
theorem ok64 (s : List NodeV) (p0 : 0 < s.length ∧ s.length ≤ 1048576) : Ok0 Try.prog 64 [(pL tNode).enc s] ((.one (.arr 0 0 s.length), [(0, .row 7 (tNode.encs s))], 1) : RES).1 ((.one (.arr 0 0 s.length), [(0, .row 7 (tNode.encs s))], 1) : RES).2.1 ((.one (.arr 0 0 s.length), [(0, .row 7 (tNode.encs s))], 1) : RES).2.2 := by
  exact go64 s fun w Xs => ⟨fun e => by subst e; simp at p0, by omega, rfl⟩
theorem s64 {I : Ops} (hI : I = real) {e : En} (he : e = en64) : Sound Try.prog 64 (callE I e sh64) := by
  refine Sound.mkR ent64 hI ?_ he
  rintro ⟨s, ⟨⟩⟩ hp r σ n e
  have hp : (decide (0 < s.length ∧ s.length ≤ 1048576)) = true := hp
  try simp only [Bool.and_eq_true, decide_eq_true_eq] at hp
  have p0 := hp
  have e : (R.ok ((.one (.arr 0 0 s.length), [(0, .row 7 (tNode.encs s))], 1) : RES) : R RES).val = some (r, σ, n) := by
    rw [← e]
    simp [sh64, an64]
  cases e
  exact ok64 s p0
end Go.Proofs.Try
