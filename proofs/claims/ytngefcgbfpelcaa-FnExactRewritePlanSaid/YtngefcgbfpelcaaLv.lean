/- Contracts. -/
import Derived.Test.YtngefcgbfpelcaaLu
set_option linter.unusedSimpArgs false
set_option linter.unusedVariables false
namespace Go.Proofs.Try
open Go Go.Aix
set_option maxRecDepth 100000
set_option maxHeartbeats 4000000
set_option linter.unusedSimpArgs false
set_option linter.unusedVariables false
theorem lm_first {w : World} {Xs : Nat → Prop} {β0 : Nat → Nat × Nat} {O0 : Nat → List Nat} {Sg : Store} {bd : Nat} (s61 : ∀ {I : Ops}, I = real → ∀ {e : En}, e = en61 bd → Sound Try.prog 61 (callE I e sh61)) (L : List Int) (c : Int) (plan : List NodeV) (hl : L.length ≤ 1048576) (hp : plan.length ≤ 100) (hI : planI plan = true) (ha : allIn L plan.length bd = true) : ∀ (k i : Nat), k + i = L.length → G88_0 w Xs β0 O0 Sg L c plan i (.one (.pv (.sc (.int .i64 (fstI (fun k => decide (k = c) || feedB plan c k) (L.drop i) i)))), [(0, .box [.pv (.sc (.int .i64 c))]), (1, .box [.pv (.sl false 7 (tNode.encs plan))])], 2) := by
  intro k
  induction k with
  | zero =>
    intro i hk
    apply st88_0 s61
    rw [if_neg (by omega), drop_nil (l := L) (by omega)]
    rfl
  | succ k ih =>
    intro i hk
    have hx := allIn_nth ha (i := i) (by omega)
    apply st88_0 s61
    rw [if_pos (by omega), wsucc (by omega), Int.toNat_natCast, nth_drop (l := L) (i := i) (by omega), fstI]
    refine ⟨by omega, if_go (fun h => ?_) (fun h => ⟨hp, hI, ⟨hx.1, hx.2.1⟩, hx.2.2, if_go (fun h2 => ?_) (fun h2 => ?_)⟩)⟩
    · rw [if_pos (by rw [decide_eq_true h]; rfl)]
    · rw [if_pos (by rw [h2, Bool.or_true])]
    · rw [if_neg (by rw [decide_eq_false h, Bool.false_or]; exact h2)]
      exact ih (i + 1) (by omega)

noncomputable def an88 (bd : Nat) : An (List Int × Int × List NodeV × Unit) where
  pre t := decide (t.1.length ≤ 1048576) && decide (t.2.2.1.length ≤ 100) && (planI t.2.2.1) && (allIn t.1 t.2.2.1.length bd)
  i _ t := fstI (fun k => decide (k = t.2.1) || feedB t.2.2.1 t.2.1 k) t.1 0
def A88 : (List Int × Int × List NodeV × Unit) → List AV := fun t => [.one (.pv (.sl false 1 (tI64.encs t.1))), .one (.fn 89 [(0, 0, 0), (1, 0, 0)])]
def Sg88 : (List Int × Int × List NodeV × Unit) → Store := fun t => [(0, .box [.pv (.sc (.int .i64 t.2.1))]), (1, .box [.pv (.sl false 7 (tNode.encs t.2.2.1))])]
noncomputable def en88 (bd : Nat) : En := mkE (exPars A88 Sg88 (fun _ => 2)) (an88 bd)
def vl88 : (Nat → Int) → (Nat → Bool) → AV := fun i b => .one (.pv (.sc (.int .i64 (i 0))))
theorem inj88 (t t' : List Int × Int × List NodeV × Unit) (h1 : A88 t = A88 t') (h2 : Sg88 t = Sg88 t') : t = t' := by
  obtain ⟨L, c, plan, ⟨⟩⟩ := t
  obtain ⟨L', c', plan', ⟨⟩⟩ := t'
  have x := h1
  have y := h2
  simp only [A88, Sg88, List.cons.injEq, Prod.mk.injEq, AV.one.injEq, Cell.arr.injEq, Cell.pv.injEq, PV.sc.injEq, PV.sl.injEq, Chunk.row.injEq, Chunk.box.injEq, Value.int.injEq, and_true, true_and] at x y
  simp_all [Ty.encs_inj]
theorem dec88 (L : List Int) (c : Int) (plan : List NodeV) : (exPars A88 Sg88 (fun _ => 2)).dec [.one (.ptr 2 2 0), .one (.pv (.sl false 1 (tI64.encs L))), .one (.fn 89 [(0, 0, 0), (1, 0, 0)]), .tp [(true, [.ptr 0 0 0, (.pv (.sc (.int .i64 c)))])], .tp [(true, [.ptr 1 0 0, (.pv (.sl false 7 (tNode.encs plan)))])]] = some (L, c, plan, ()) := exPars_dec inj88 (L, c, plan, ()) rfl
theorem ok88 {bd : Nat} (s61 : ∀ {I : Ops}, I = real → ∀ {e : En}, e = en61 bd → Sound Try.prog 61 (callE I e sh61)) (L : List Int) (c : Int) (plan : List NodeV) (p0 : L.length ≤ 1048576) (p1 : plan.length ≤ 100) (p2 : planI plan = true) (p3 : allIn L plan.length bd = true) : OkR Try.prog 88 [.one (.pv (.sl false 1 (tI64.encs L))), .one (.fn 89 [(0, 0, 0), (1, 0, 0)])] [(0, .box [.pv (.sc (.int .i64 c))]), (1, .box [.pv (.sl false 7 (tNode.encs plan))])] 2 (.one (.pv (.sc (.int .i64 (fstI (fun k => decide (k = c) || feedB plan c k) L 0))))) [(0, .box [.pv (.sc (.int .i64 c))]), (1, .box [.pv (.sl false 7 (tNode.encs plan))])] 2 := by
  exact go88 s61 L c plan (r := (_, _, _)) fun w Xs β0 O0 Sg hS => lm_first s61 L c plan p0 p1 p2 p3 L.length 0 rfl
theorem s88 {bd : Nat} (s61 : ∀ {I : Ops}, I = real → ∀ {e : En}, e = en61 bd → Sound Try.prog 61 (callE I e sh61)) {I : Ops} (hI : I = real) {e : En} (he : e = en88 bd) : SoundR Try.prog 88 (exV I e vl88) := by
  refine SoundR.exv ent88 ?_ hI he
  rintro ⟨L, c, plan, ⟨⟩⟩ hp
  have hp : (decide (L.length ≤ 1048576) && decide (plan.length ≤ 100) && (planI plan) && (allIn L plan.length bd)) = true := hp
  try simp only [Bool.and_eq_true, decide_eq_true_eq] at hp
  obtain ⟨⟨⟨p0, p1⟩, p2⟩, p3⟩ := hp
  exact ok88 s61 L c plan p0 p1 p2 p3
end Go.Proofs.Try
