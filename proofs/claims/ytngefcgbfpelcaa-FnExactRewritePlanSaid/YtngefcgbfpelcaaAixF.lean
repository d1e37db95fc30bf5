/-
  THE CALCULUS, A FURTHER TEXT: a row of its own that is written no more, and functions read out of a row.
-/
import Derived.Test.YtngefcgbfpelcaaAixH
set_option linter.unusedSimpArgs false
set_option linter.unusedVariables false
namespace Go.Aix
section
variable {P : Program} {f : FuncId} {fn : Func} {E : Ent} {R : Value → World → Prop} {k : List Item}
theorem W_ice {I : Ops} (hI : I = real) {S : St} {c sz : Nat} {es : List (List PV)} (hlk : lk c S.σ = some (.row sz es)) (h : W P f fn E R k (ice I c sz es S)) : W P f fn E R k S := by
  subst hI
  exact fun β O a w hr hs => h β O a w (hr.ice hlk).1 hs
/-- A slot that holds a function that was read out of a row. -/
theorem W_fn {I : Ops} (hI : I = real) {S : St} {t g : Nat} {p : PV} (hlk : lk t S.T = some (.one (.pv p))) (hp : p = .sc (.func (.func g) #[] #[])) (h : W P f fn E R k ⟨put t (.one (.fn g [])) S.T, S.σ, S.next⟩) : W P f fn E R k S := by
  subst hp
  refine fun β O a w hr hs => h β O a w ⟨hr.mem, fun q av hq => ?_, hr.nodef⟩ hs
  by_cases e : q = t
  · subst e
    rw [lk_put_self] at hq
    cases hq
    obtain ⟨h1, h2⟩ := hr.slots q _ hlk
    refine ⟨h1, ?_⟩
    revert h2
    generalize a.tmps.getD q undef = u
    intro h2
    cases h2 with
    | one h2 => cases h2 with
      | pv h2 => cases h2; exact .one (.fn .nil)
  · rw [lk_put_ne _ e] at hq
    exact hr.slots q av hq
end
end Go.Aix
