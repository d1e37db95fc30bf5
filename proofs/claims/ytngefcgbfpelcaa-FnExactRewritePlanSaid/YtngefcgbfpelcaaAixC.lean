/- A contract over all that a call is handed: arguments and memory, as they stand. -/
import Derived.Test.YtngefcgbfpelcaaAixH
set_option linter.unusedSimpArgs false
set_option linter.unusedVariables false
namespace Go.Aix
open Go
set_option linter.unusedVariables false
def flatC : Nat × Chunk → AV
  | (c, .box cs) => .tp [(true, .ptr c 0 0 :: cs)]
  | (c, .row sz es) => .tp [(false, [.ptr c sz 0, .pv (.sl true 0 es)])]
  | (c, .foc sz es i cs) => .tp [(false, .ptr c sz i :: .pv (.sl true 1 es) :: cs)]
theorem flatC_inj {x y : Nat × Chunk} (h : flatC x = flatC y) : x = y := by
  obtain ⟨a, x⟩ := x
  obtain ⟨b, y⟩ := y
  cases x <;> cases y <;> simp [flatC] at h <;> simp_all
theorem flatS_inj : ∀ {x y : Store}, x.map flatC = y.map flatC → x = y
  | [], [], _ => rfl
  | [], _ :: _, h => by simp at h
  | _ :: _, [], h => by simp at h
  | a :: x, b :: y, h => by
    rw [List.map_cons, List.map_cons, List.cons.injEq] at h
    rw [flatC_inj h.1, flatS_inj h.2]
/-- All of it as one list. -/
def flatX (args : List AV) (σ : Store) (n : Nat) : List AV := .one (.ptr n args.length 0) :: (args ++ σ.map flatC)
theorem flatX_inj {a b : List AV} {σ τ : Store} {n m : Nat} (h : flatX a σ n = flatX b τ m) : a = b ∧ σ = τ ∧ n = m := by
  unfold flatX at h
  rw [List.cons.injEq] at h
  obtain ⟨h1, h2⟩ := h
  simp only [AV.one.injEq, Cell.ptr.injEq, and_true] at h1
  obtain ⟨h3, h4⟩ := List.append_inj h2 h1.2
  exact ⟨h3, flatS_inj h4, h1.1⟩
open Classical in
noncomputable def exPars {τ : Type} (A : τ → List AV) (Sg : τ → Store) (Nn : τ → Nat) : Pars τ where
  enc t := flatX (A t) (Sg t) (Nn t)
  dec x := if h : ∃ t, flatX (A t) (Sg t) (Nn t) = x then some (Classical.choose h) else none
  fit := by
    intro w M env x v a h e
    split at e
    · rename_i h2
      cases e
      rw [Classical.choose_spec h2]
      exact h
    · cases e
theorem exPars_some {τ : Type} {A : τ → List AV} {Sg : τ → Store} {Nn : τ → Nat} {x : List AV} {t : τ} (h : (exPars A Sg Nn).dec x = some t) : flatX (A t) (Sg t) (Nn t) = x := by
  simp only [exPars] at h
  split at h
  · rename_i h2
    cases h
    exact Classical.choose_spec h2
  · cases h
theorem exPars_dec {τ : Type} {A : τ → List AV} {Sg : τ → Store} {Nn : τ → Nat} (inj : ∀ t t', A t = A t' → Sg t = Sg t' → t = t') (t : τ) {x : List AV} (hx : flatX (A t) (Sg t) (Nn t) = x) : (exPars A Sg Nn).dec x = some t := by
  have h2 : ∃ t, flatX (A t) (Sg t) (Nn t) = x := ⟨t, hx⟩
  simp only [exPars]
  rw [dif_pos h2]
  have := flatX_inj ((Classical.choose_spec h2).trans hx.symm)
  rw [inj _ _ this.1 this.2.1]
def exF (I : Ops) (e : En) (sh : Shp) (args : List AV) (σ0 : Store) (n0 : Nat) : R (AV × Store × Nat) :=
  .must (e.pre (flatX args σ0 n0)) (sh I (fun j => e.i j (flatX args σ0 n0)) (fun j => e.b j (flatX args σ0 n0)) (fun j => e.l j (flatX args σ0 n0)) (fun j => e.s j (flatX args σ0 n0)))
theorem SoundR.ex {P : Program} {g : FuncId} {τ : Type} {A : τ → List AV} {Sg : τ → Store} {Nn : τ → Nat} {a : An τ} {sh : Shp} (he : Enters P g)
    (h : ∀ t, a.pre t = true → ∀ r σ n, (sh real (fun j => a.i j t) (fun j => a.b j t) (fun j => a.l j t) (fun j => a.s j t)).val = some (r, σ, n) → OkR P g (A t) (Sg t) (Nn t) r σ n)
    {I : Ops} (hI : I = real) {e : En} (hk : e = mkE (exPars A Sg Nn) a) : SoundR P g (exF I e sh) := by
  subst hI hk
  refine ⟨he, fun args σ0 n0 r σ n e => ?_⟩
  unfold exF at e
  simp only [R.val] at e
  split at e
  · rename_i hp
    have hp2 := hp
    simp only [mkE] at hp2
    split at hp2
    · rename_i t ht
      have hx := flatX_inj (exPars_some ht)
      simp only [mkE, ht] at e
      obtain ⟨rfl, rfl, rfl⟩ := hx
      exact h t hp2 r σ n e
    · cases hp2
  · cases e
/-- A call that looks at all that it is handed, changes nothing and hands back a value. -/
def exV (I : Ops) (e : En) (v : (Nat → Int) → (Nat → Bool) → AV) (args : List AV) (σ0 : Store) (n0 : Nat) : R (AV × Store × Nat) :=
  .must (e.pre (flatX args σ0 n0)) (.ok (v (fun j => e.i j (flatX args σ0 n0)) (fun j => e.b j (flatX args σ0 n0)), σ0, n0))
theorem SoundR.exv {P : Program} {g : FuncId} {τ : Type} {A : τ → List AV} {Sg : τ → Store} {Nn : τ → Nat} {a : An τ} {v : (Nat → Int) → (Nat → Bool) → AV} (he : Enters P g)
    (h : ∀ t, a.pre t = true → OkR P g (A t) (Sg t) (Nn t) (v (fun j => a.i j t) (fun j => a.b j t)) (Sg t) (Nn t))
    {I : Ops} (hI : I = real) {e : En} (hk : e = mkE (exPars A Sg Nn) a) : SoundR P g (exV I e v) := by
  subst hI hk
  refine ⟨he, fun args σ0 n0 r σ n e => ?_⟩
  unfold exV at e
  simp only [R.val] at e
  split at e
  · rename_i hp
    have hp2 := hp
    simp only [mkE] at hp2
    split at hp2
    · rename_i t ht
      have hx := flatX_inj (exPars_some ht)
      simp only [mkE, ht] at e
      obtain ⟨rfl, rfl, rfl⟩ := hx
      cases e
      exact h t hp2
    · cases hp2
  · cases e
theorem Ty.encs_inj {α : Type} (T : Ty α) {a b : List α} : T.encs a = T.encs b ↔ a = b := ⟨fun h => by rw [← T.decs_encs a, h, T.decs_encs], fun h => by rw [h]⟩
end Go.Aix
