/-
  THE CALCULUS, TWENTY-SIXTH TEXT: a drawn region at its place.
-/
import Derived.Test.YtafdnkachndacaaAixAny2
set_option linter.unusedSimpArgs false
set_option linter.unusedVariables false
namespace Go.Aix
section
variable {P : Program} {X : Ctx} {Y : CallsA} {f : FuncId} {fn : Func} {b : Code} {E : Ent} {Rr : Value → World → Prop} {S : St}

/-- What stands behind a place. -/
def behind (b : Code) (p : List Nat) : List Itm := (start [] b p []).tail

/-- Stepping on behind a place. -/
theorem W_behind (hX : XOk P X) (hY : CallsOk P Y) (hf : P.funcs[f]? = some fn) (hin : codeIn fn.ntmps b = true) (n : Nat) (p : List Nat) {I : Ops} (hI : I = real)
    (h : (go X I Y fn.results.toList n (behind b p) S).holds (Ended E Rr) (fun p S => W P f fn E Rr (place b (p ++ [0]) []) S) (fun p S => W P f fn E Rr (place b p []) S)) : W P f fn E Rr ((behind b p).map Itm.item) S := by
  subst hI
  have h0 : place b [] [] = .code b :: ([] : List Itm).map Itm.item := by cases b <;> rfl
  have hg := start_good b p [] b [] h0 trivial
  have hi := start_in (n := fn.ntmps) p [] b [] hin (fun _ h => nomatch h)
  refine go_sound (b := b) hX hY hf n _ S ?_ ?_ h
  · unfold behind
    generalize start [] b p [] = l at hg
    cases l with
    | nil => trivial
    | cons x l => cases x <;> first | exact hg.2 | exact hg
  · intro x hx
    exact hi x (List.mem_of_mem_tail hx)

theorem W_any (hX : XOk P X) (hY : CallsOk P Y) (hm : P.follows .mixedOrders = true) {n : Nat} {p q : List Nat} {id : Nat} {ops : Array Oper} {I : Ops} (hI : I = real)
    (hp : (start [] b p []).head? = some (.code q (.region id ops true))) (hs : Region.noSelect ops = true) (hin : codeIn fn.ntmps b = true) (hn : n = ops.size)
    (h : (goAny X I Y ops n (Array.replicate ops.size false) S (fun S => .any [] S)).holds (fun _ _ => False) (fun _ _ => False) (fun _ S => W P f fn E Rr ((behind b p).map Itm.item) S)) : W P f fn E Rr (place b p []) S := by
  subst hI hn
  have hl : start [] b p [] = .code q (.region id ops true) :: behind b p := by
    unfold behind
    generalize start [] b p [] = l at hp
    cases l with
    | nil => cases hp
    | cons x l => simp only [List.head?_cons, Option.some.injEq] at hp; subst hp; rfl
  have hi := start_in (n := fn.ntmps) p [] b [] hin (fun _ h => nomatch h)
  have hpl : place b p [] = .code (.region id ops true) :: (behind b p).map Itm.item := by
    have := start_item p [] b []
    rw [hl] at this
    exact this.symm
  rw [hpl]
  intro β O a w hr hsz
  have hc : codeIn fn.ntmps (.region id ops true) = true := hi (.code q (.region id ops true)) (by rw [hl]; exact List.mem_cons_self)
  refine At.code (wp_region_any hm ?_)
  refine goAny_sound hX hY hs (n0 := fn.ntmps) ?_ (fun _ _ _ h => h) ?_ _ _ S β O a _ (hr.drew) hsz h
  · intro i o t ho ht
    exact opsIn_spec hc o (by have := Array.mem_of_getElem? ho; simpa using this) t ht
  · intro S' h' β' O' a' w' hr' hs'
    exact h' β' O' a' w' hr' hs'
end
end Go.Aix
