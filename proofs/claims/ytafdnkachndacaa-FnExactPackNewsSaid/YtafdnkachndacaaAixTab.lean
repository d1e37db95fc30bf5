/-
  THE CALCULUS, TWENTIETH TEXT: tables of what is known of functions.
-/
import Derived.Test.YtafdnkachndacaaAixCall
set_option linter.unusedSimpArgs false
set_option linter.unusedVariables false
namespace Go.Aix

abbrev Tab := List (FuncId × Bool × (List AV → St → R (AV × St)))
def Tab.calls (l : Tab) : CallsA := ⟨fun g args S => match lk g l with
  | some y => y.2 args S
  | none => .stuck, fun g => match lk g l with
  | some y => y.1
  | none => false⟩
def EntryOk (P : Program) (g : FuncId) (y : List AV → St → R (AV × St)) : Prop := Enters P g ∧ ∀ args S r S', (y args S).val = some (r, S') → CallOk P g args S r S'
def TabOk (P : Program) : Tab → Prop
  | [] => True
  | e :: r => EntryOk P e.1 e.2.2 ∧ (e.2.1 = true → Quiet e.2.2) ∧ TabOk P r

section
variable {P : Program} {w : World} {M : Nat → Prop} {env : EnvT}
theorem TabOk.lk : ∀ {l : Tab}, TabOk P l → ∀ {g : FuncId} {y : Bool × (List AV → St → R (AV × St))}, Aix.lk g l = some y → EntryOk P g y.2 ∧ (y.1 = true → Quiet y.2)
  | [], _, g, y, e => by simp [Aix.lk] at e
  | (k, x) :: l, h, g, y, e => by
    unfold Aix.lk at e
    cases hb : Nat.beq g k with
    | true =>
      rw [hb] at e
      obtain rfl := Option.some.inj e
      have := beq_eq hb
      subst this
      exact ⟨h.1, h.2.1⟩
    | false =>
      rw [hb] at e
      exact TabOk.lk h.2.2 e
theorem TabOk.calls {l : Tab} (hm : P.follows .mixedOrders = true) (h : TabOk P l) : CallsOk P l.calls := by
  refine ⟨?_, ?_, hm⟩
  · intro g args S r S' e
    unfold Tab.calls at e
    simp only at e
    split at e
    · rename_i y hy
      have := (h.lk hy).1
      exact ⟨this.1, this.2 args S r S' e⟩
    · simp [val_stuck] at e
  · intro g hg
    unfold Tab.calls at hg ⊢
    simp only at hg ⊢
    split at hg
    · rename_i y hy
      have := (h.lk hy).2 hg
      exact this
    · cases hg
theorem EntryOk.snap {g : FuncId} {F : List AV → R AV} (he : Enters P g) (hF : ∀ args r, (F args).val = some r → ∃ σ n, Ok0 P g args r σ n) {I : Ops} (hI : I = real) : EntryOk P g (callSnap I F) := by
  subst hI
  exact ⟨he, fun _ _ _ _ e => callSnap_ok hF e⟩

/-- What is shown for a slice by its elements holds for each that has them. -/
inductive Arg : AV → AV → Prop
  | same (x : AV) : Arg x x
  | sl {sz : Nat} {p : PV} (h : isSl sz p = true) : Arg (.one (.pv p)) (.one (.pv (.sl false sz (els p))))
inductive Args : List AV → List AV → Prop
  | nil : Args [] []
  | cons {x y : AV} {l r : List AV} (h : Arg x y) (hr : Args l r) : Args (x :: l) (y :: r)
theorem Arg.sound {x y : AV} {v : Value} (h : Arg x y) (hv : RAV w M env x v) : RAV w M env y v := by
  cases h with
  | same => exact hv
  | sl hp => cases hv with
    | one hv => cases hv with
      | pv hv => exact .one (.pv (hv.asSl hp))
theorem Args.sound : ∀ {l r : List AV} {vs : List Value}, Args l r → RAVs w M env l vs → RAVs w M env r vs
  | _, _, _, .nil, h => h
  | _, _, _, .cons h hr, .cons h' hr' => .cons (h.sound h') (Args.sound hr hr')
theorem Ok0.args {g : FuncId} {l l' : List AV} {r : AV} {σ : Store} {n : Nat} (h : Ok0 P g l' r σ n) (ha : Args l l') : Ok0 P g l r σ n :=
  fun w Xs vs hX hv => h w Xs vs hX (ha.sound hv)
/-- A function's body. -/
def bodyOf (fn : Func) : Code := match fn.body with
  | some c => c
  | none => .skip
def hasBody (fn : Func) : Bool := match fn.body with
  | some _ => true
  | none => false
theorem bodyOf_eq {fn : Func} (h : hasBody fn = true) : fn.body = some (bodyOf fn) := by
  unfold hasBody at h
  unfold bodyOf
  split at h
  · rename_i c hc; rw [hc]
  · cases h
/-- A function, from its first item on. -/
theorem Ok0_run {X : Ctx} {Y : CallsA} {f : FuncId} {fn : Func} {args : List AV} {r : AV} {σ : Store} {n : Nat} (hX : XOk P X) (hY : CallsOk P Y) (hf : P.funcs[f]? = some fn) (hb : hasBody fn = true) (hn : Nat.ble (lenA0 args) fn.ntmps = true) (hin : codeIn fn.ntmps (bodyOf fn) = true) (k : Nat) {I : Ops} (hI : I = real)
    (h : ∀ w Xs, (go X I Y fn.results.toList k (start [] (bodyOf fn) [] []) (S0 args)).holds (Ended (Ent0 w Xs) (Back (Ent0 w Xs) r σ n)) (fun p S => W P f fn (Ent0 w Xs) (Back (Ent0 w Xs) r σ n) (place (bodyOf fn) (p ++ [0]) []) S) (fun p S => W P f fn (Ent0 w Xs) (Back (Ent0 w Xs) r σ n) (place (bodyOf fn) p []) S)) :
    Ok0 P f args r σ n :=
  Ok0_of hf (bodyOf_eq hb) hn fun w Xs => W_go hX hY hf hin k [] hI (h w Xs)
end
end Go.Aix
