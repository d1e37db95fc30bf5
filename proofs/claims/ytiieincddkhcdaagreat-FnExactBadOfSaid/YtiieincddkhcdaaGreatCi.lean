/- Contracts. -/
import Derived.Test.YtiieincddkhcdaaGreatCh
set_option linter.unusedSimpArgs false
set_option linter.unusedVariables false
namespace Go.Proofs.Tryz
open Go Go.Aix
set_option maxRecDepth 100000
set_option maxHeartbeats 4000000
/-- A function that is handed over, without anything of its own. -/
def pF (g : FuncId) : Par Unit where
  enc _ := .one (.fn g [])
  dec x := match x with
    | .one (.fn f caps) => match caps with
      | [] => if f = g then some () else none
      | _ => none
    | _ => none
  fit := by
    intro w M env x v a h e
    split at e
    · split at e
      · split at e
        · rename_i q; subst q; exact h
        · cases e
      · cases e
    · cases e
@[simp] theorem pF_dec (g : FuncId) : (pF g).dec (.one (.fn g [])) = some () := by simp [pF]
def bigI : List LinkV → Nat → Int
  | [], _ => -1
  | l :: r, i => if 60 < l.frames.length then (i : Int) else bigI r (i + 1)
theorem bigI_neg : ∀ (l : List LinkV) (i : Nat), bigI l i < 0 ↔ l.all (fun x => decide (x.frames.length ≤ 60)) = true
  | [], i => by simp [bigI]
  | x :: r, i => by
    have ih := bigI_neg r (i + 1)
    rw [bigI, List.all_cons, Bool.and_eq_true, decide_eq_true_eq]
    split
    · constructor
      · intro h; omega
      · intro h; omega
    · rw [ih]
      constructor
      · intro h; exact ⟨by omega, h⟩
      · intro h; exact h.2
theorem ent83 : Enters Tryz.prog 83 := ⟨Tryz.f83, Tryz.func83, by kernel_rfl, by kernel_rfl⟩
theorem s83 {I : Ops} (hI : I = real)  : Sound Tryz.prog 83 (inl X I (Tab.calls []) Tryz.f83) :=
  Sound.inl (Y := (Tab.calls [])) xok (TabOk.calls mixed trivial) ent83 Tryz.func83 rfl rfl hI
theorem ent122 : Enters Tryz.prog 122 := ⟨Tryz.f122, Tryz.func122, by kernel_rfl, by kernel_rfl⟩
abbrev G122_0 (w : World) (Xs : Nat → Prop) (s : List LinkV) (x8 : Int) (r : RES) : Prop := WL [0, 1, 7, 8] Tryz.prog 122 Tryz.f122 (Ent0 w Xs) (Back (Ent0 w Xs) r.1 r.2.1 r.2.2) (place (bodyOf Tryz.f122) [1,0,1,0,0] [])
  ⟨[(0, .one (.pv (.sl false 1 (tLink.encs s)))), (1, .one (.fn 83 [])), (7, .one (.pv (.sc (.int .i64 (s.length : Int))))), (8, .one (.pv (.sc (.int .i64 x8))))], [], 0⟩
noncomputable def Y122 (I : Ops) : CallsA := (Tab.calls [(83, true, callRd I (inl X I (Tab.calls []) Tryz.f83))])
theorem tY122 {I : Ops} (hI : I = real)  : CallsOk Tryz.prog (Y122 I) := (TabOk.calls mixed ⟨EntryOk.rd (s83 hI) hI, fun _ => callRd_quiet _ _, trivial⟩)
theorem st122_0 {w : World} {Xs : Nat → Prop} (s : List LinkV) (x8 : Int) {r : RES} (h : (if x8 < (s.length : Int) then ((0 ≤ x8 ∧ x8 < (s.length : Int)) ∧ (if 60 < (((nth s x8.toNat).frames).length : Int) then r = (.one (.pv (.sc (.int .i64 x8))), [], 0) else G122_0 w Xs s (IntKind.i64.wrap (x8 + 1)) r)) else r = (.one (.pv (.sc (.int .i64 (-1)))), [], 0))) : G122_0 w Xs s x8 r := by
  obtain ⟨I, hI⟩ : ∃ I, I = real := ⟨_, rfl⟩
  unfold G122_0 WL
  obtain ⟨q0, hq0⟩ := eqv (s.length : Int)
  try rw [← hq0]
  obtain ⟨q1, hq1⟩ := eqv (tLink.encs s)
  try rw [← hq1]
  have hS := And.intro hI (And.intro hq0 hq1)
  refine W_go (Y := (Y122 I)) xok (tY122 hI) Tryz.func122 rfl 2000 _ hI ?_; (conv => arg 4; cbv)
  exact fin
theorem go122 (s : List LinkV) (f : Unit) {r : RES} (h : ∀ (w : World) (Xs : Nat → Prop), G122_0 w Xs s 0 r) : Ok0 Tryz.prog 122 [(pL tLink).enc s, (pF 83).enc f] r.1 r.2.1 r.2.2 := by
  obtain ⟨I, hI⟩ : ∃ I, I = real := ⟨_, rfl⟩
  show Ok0 Tryz.prog 122 [.one (.pv (.sl false 1 (tLink.encs s))), .one (.fn 83 [])] _ _ _
  obtain ⟨q0, hq0⟩ := eqv (tLink.encs s)
  try rw [← hq0]
  have hS := And.intro hI hq0
  refine Ok0_run (Y := (Y122 I)) xok (tY122 hI) Tryz.func122 rfl rfl rfl 2000 hI fun w Xs => ?_; (conv => arg 4; cbv)
  replace h := h w Xs
  exact fin
theorem lm122 {w : World} {Xs : Nat → Prop} (s : List LinkV) (hl : s.length ≤ 1048576) : ∀ k i : Nat, k + i = s.length → G122_0 w Xs s i (rI (bigI (s.drop i) i)) := by
  intro k
  induction k with
  | zero =>
    intro i hk
    apply st122_0
    rw [if_neg (by omega), drop_nil (l := s) (by omega)]
    rfl
  | succ k ih =>
    intro i hk
    apply st122_0
    rw [if_pos (by omega), wsucc (by omega), Int.toNat_natCast, nth_drop (l := s) (i := i) (by omega), bigI]
    refine ⟨by omega, if_go (fun q => ?_) (fun q => ?_)⟩
    · rw [if_pos (by omega)]
    · rw [if_neg (by omega)]; exact ih (i + 1) (by omega)
def sh122 : Shp := fun I i b l s => .ok (.one (.pv (.sc (.int .i64 (i 0)))), [], 0)
def an122 : An (List LinkV × Unit × Unit) where
  pre t := decide (t.1.length ≤ 1048576)
  i _ t := bigI t.1 0
noncomputable def en122 : En := mkE (parsC (pL tLink) (parsC (pF 83) pars0)) an122
attribute [simp] en122 an122
theorem ok122 (s : List LinkV) (f : Unit) (p0 : s.length ≤ 1048576) : Ok0 Tryz.prog 122 [(pL tLink).enc s, (pF 83).enc f] ((.one (.pv (.sc (.int .i64 (bigI s 0)))), [], 0) : RES).1 ((.one (.pv (.sc (.int .i64 (bigI s 0)))), [], 0) : RES).2.1 ((.one (.pv (.sc (.int .i64 (bigI s 0)))), [], 0) : RES).2.2 := by
  exact go122 s f fun w Xs => lm122 s p0 s.length 0 rfl
theorem s122 {I : Ops} (hI : I = real) {e : En} (he : e = en122) : Sound Tryz.prog 122 (callE I e sh122) := by
  refine Sound.mkE ent122 hI (fun _ => rfl) ?_ he
  rintro ⟨s, f, ⟨⟩⟩ hp
  have hp : (decide (s.length ≤ 1048576)) = true := hp
  try simp only [Bool.and_eq_true, decide_eq_true_eq] at hp
  have p0 := hp
  exact ok122 s f p0
end Go.Proofs.Tryz
