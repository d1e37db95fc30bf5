/-
  THE CALCULUS, TWENTY-EIGHTH TEXT: calls stepped through in place, and how a function's contract is laid before its callers.
-/
import Derived.Test.YtafdnkachndacaaAixAny3
import Derived.Test.YtafdnkachndacaaAixTab
set_option linter.unusedSimpArgs false
set_option linter.unusedVariables false
namespace Go.Aix

/-- A run, as a reckoning. -/
def Out.toR : Out → R (AV × Store × Nat)
  | .ret r S => endR r S
  | .ask b k => .ask b fun t => (k t).toR
  | .must b k => .must b k.toR
  | _ => .stuck

/-- What is shown of g: whatever F tells of what it is handed. -/
def Sound (P : Program) (g : FuncId) (F : List AV → R (AV × Store × Nat)) : Prop := Enters P g ∧ ∀ args r σ n, (F args).val = some (r, σ, n) → Ok0 P g args r σ n

section
variable {P : Program} {X : Ctx} {Y : CallsA} {E : Ent} {L N : List Nat → St → Prop}
theorem Out.toR_holds (h0 : E.n0 = 0) {r : AV} {σ : Store} {n : Nat} : ∀ {o : Out}, o.toR.val = some (r, σ, n) → o.holds (Ended E (Back E r σ n)) L N
  | .ret r' S, e => Ended_of h0 e
  | .ask b k, e => by
    have e : ((k b).toR).val = some (r, σ, n) := e
    constructor
    · intro hb; subst hb; exact Out.toR_holds h0 e
    · intro hb; subst hb; exact Out.toR_holds h0 e
  | .must b k, e => by
    have e : (if b = true then k.toR.val else none) = some (r, σ, n) := e
    split at e
    · rename_i hb; exact ⟨hb, Out.toR_holds h0 e⟩
    · cases e
  | .loop _ _, e => by simp [Out.toR, val_stuck] at e
  | .any _ _, e => by simp [Out.toR, val_stuck] at e
  | .eqs _ _ _, e => by simp [Out.toR, val_stuck] at e
  | .both _, e => by simp [Out.toR, val_stuck] at e
  | .stuck, e => by simp [Out.toR, val_stuck] at e

/-- A call stepped through in place. -/
def inl (X : Ctx) (I : Ops) (Y : CallsA) (fn : Func) (args : List AV) : R (AV × Store × Nat) := match Nat.ble (lenA0 args) fn.ntmps with
  | true => (go X I Y fn.results.toList 2000 (start [] (bodyOf fn) [] []) (S0 args)).toR
  | false => .stuck
theorem Sound.inl {g : FuncId} {fn : Func} (hX : XOk P X) (hY : CallsOk P Y) (he : Enters P g) (hf : P.funcs[g]? = some fn) (hb : hasBody fn = true) (hin : codeIn fn.ntmps (bodyOf fn) = true) {I : Ops} (hI : I = real) : Sound P g (inl X I Y fn) := by
  refine ⟨he, fun args r σ n e => ?_⟩
  unfold Aix.inl at e
  split at e
  · rename_i hn
    exact Ok0_run hX hY hf hb hn hin 2000 hI fun w Xs => Out.toR_holds rfl e
  · simp [val_stuck] at e

/-- A call that only reads what it is handed, and hands back what hangs on no memory. -/
def callRd (I : Ops) (F : List AV → R (AV × Store × Nat)) (args : List AV) (S : St) : R (AV × St) := do
  let vs ← viewAs I S args
  let x ← F vs
  match bareA x.1 with
  | true => .ok (x.1, S)
  | false => .stuck
theorem EntryOk.rd {g : FuncId} {F : List AV → R (AV × Store × Nat)} (h : Sound P g F) {I : Ops} (hI : I = real) : EntryOk P g (callRd I F) := by
  subst hI
  refine ⟨h.1, fun args S r S' e => ?_⟩
  refine callSnap_ok (F := fun vs => (F vs).bind fun x => .ok x.1) ?_ (args := args) ?_
  · intro args r e
    rw [val_bind] at e
    obtain ⟨⟨r', σ, n⟩, h1, e⟩ := some_bind e
    obtain rfl := Option.some.inj e
    exact ⟨σ, n, h.2 _ _ _ _ h1⟩
  · unfold callRd at e
    unfold callSnap
    rw [val_do] at e ⊢
    obtain ⟨vs, h1, e⟩ := some_bind e
    rw [h1]
    show (do let r ← (F vs).bind fun x => .ok x.1; match bareA r with | true => R.ok (r, S) | false => .stuck : R (AV × St)).val = _
    rw [val_do] at e ⊢
    obtain ⟨x, h2, e⟩ := some_bind e
    rw [val_bind, h2]
    exact e
theorem viewC_congr {I : Ops} {S S2 : St} (h : S2.σ = S.σ) (c : Cell) : viewC I S2 c = viewC I S c := by unfold viewC; rw [h]
theorem viewCs_congr {I : Ops} {S S2 : St} (h : S2.σ = S.σ) : ∀ l : List Cell, viewCs I S2 l = viewCs I S l
  | [] => rfl
  | c :: r => by unfold viewCs; rw [viewC_congr h, viewCs_congr h r]
theorem viewA_congr {I : Ops} {S S2 : St} (h : S2.σ = S.σ) (c : AV) : viewA I S2 c = viewA I S c := by
  unfold viewA
  simp only [viewC_congr h, viewCs_congr h]
theorem viewAs_congr {I : Ops} {S S2 : St} (h : S2.σ = S.σ) : ∀ l : List AV, viewAs I S2 l = viewAs I S l
  | [] => rfl
  | c :: r => by unfold viewAs; rw [viewA_congr h, viewAs_congr h r]
theorem callRd_quiet (I : Ops) (F : List AV → R (AV × Store × Nat)) : Quiet (callRd I F) := by
  intro args S r S' e
  unfold callRd at e
  rw [val_do] at e
  obtain ⟨vs, h1, e⟩ := some_bind e
  rw [val_do] at e
  obtain ⟨x, h2, e⟩ := some_bind e
  split at e
  · rename_i hb
    simp only [val_ok, Option.some.injEq, Prod.mk.injEq] at e
    obtain ⟨rfl, rfl⟩ := e
    refine ⟨rfl, fun S2 hσ => ?_⟩
    unfold callRd
    rw [val_do, viewAs_congr hσ, h1]
    show (do let x ← F vs; match bareA x.1 with | true => R.ok (x.1, S2) | false => .stuck : R (AV × St)).val = _
    rw [val_do, h2]
    simp only [Option.bind_some, hb, val_ok]
  · simp [val_stuck] at e
theorem notQuiet {y : List AV → St → R (AV × St)} : false = true → Quiet y := fun h => nomatch h
theorem EntryOk.own {g : FuncId} {F : List AV → R (AV × Store × Nat)} (h : Sound P g F) {I : Ops} (hI : I = real) : EntryOk P g (callIce I F) := EntryOk.ice h.1 h.2 hI
theorem EntryOk.pl {g : FuncId} {F : List AV → R (AV × Store × Nat)} (h : Sound P g F) : EntryOk P g (callPlain F) := EntryOk.plain h.1 h.2

/-- A call that is handed values and hands back values. -/
def callPv (F : List AV → R (AV × Store × Nat)) (args : List AV) (S : St) : R (AV × St) := match plainAs args with
  | true => do
    let x ← F args
    match x.2.1 with
    | [] => match plainA x.1 with
      | true => .ok (x.1, S)
      | false => .stuck
    | _ => .stuck
  | false => .stuck
theorem callPv_quiet (F : List AV → R (AV × Store × Nat)) : Quiet (callPv F) := by
  intro args S r S' e
  unfold callPv at e
  split at e
  · rename_i hp
    rw [val_do] at e
    obtain ⟨x, h2, e⟩ := some_bind e
    split at e
    · rename_i hσ0
      split at e
      · rename_i hb
        simp only [val_ok, Option.some.injEq, Prod.mk.injEq] at e
        obtain ⟨rfl, rfl⟩ := e
        refine ⟨rfl, fun S2 hσ => ?_⟩
        unfold callPv
        simp only [hp]
        rw [val_do, h2]
        simp only [Option.bind_some, hσ0, hb, val_ok]
      · simp [val_stuck] at e
    · simp [val_stuck] at e
  · simp [val_stuck] at e
theorem EntryOk.pv {g : FuncId} {F : List AV → R (AV × Store × Nat)} (h : Sound P g F) : EntryOk P g (callPv F) := by
  refine ⟨h.1, fun args S r S' e => ?_⟩
  intro E β O a w vs hr hv
  unfold callPv at e
  split at e
  · rename_i hp
    rw [val_do] at e
    obtain ⟨⟨r0, σ, n⟩, h2, e⟩ := some_bind e
    simp only at e
    split at e
    · split at e
      · rename_i hb
        simp only [val_ok, Option.some.injEq, Prod.mk.injEq] at e
        obtain ⟨rfl, rfl⟩ := e
        have hXs : ∀ b, Mof E β O S.σ b → b < w.heap.size := fun b hb => Mof_lt hr.mem hb
        refine (h.2 _ _ _ _ h2 w (Mof E β O S.σ) vs hXs (plainAs_sound hp hv)).mono ?_
        intro e w' he
        cases e with
        | returned u =>
          obtain ⟨β1, O1, m1, m2⟩ := he
          have hM : Mof (Ent0 w (Mof E β O S.σ)) β1 O1 [] = Mof E β O S.σ := by
            funext b
            apply propext
            constructor
            · rintro (h | ⟨c, ch, hc, _⟩)
              · exact h
              · simp [lk] at hc
            · exact fun h => .inl h
          rw [hM] at m2
          exact ⟨β, O, hr.grown (Grown.of m1), plainA_sound hb m2⟩
        | panicked => exact he.elim
        | outgrown => exact he.elim
      · simp [val_stuck] at e
    · simp [val_stuck] at e
  · simp [val_stuck] at e
/-- The elements of a slice of that size. -/
def asSl (sz : Nat) : PV → R (List (List PV))
  | .nl => .ok []
  | .sl _ s es => match Nat.beq s sz with
    | true => .ok es
    | false => .stuck
  | _ => .stuck
theorem asSl_spec {sz : Nat} {p : PV} {es : List (List PV)} (e : (asSl sz p).val = some es) : isSl sz p = true ∧ els p = es := by
  unfold asSl at e
  split at e
  · obtain rfl := Option.some.inj e
    exact ⟨rfl, rfl⟩
  · split at e
    · rename_i h
      obtain rfl := Option.some.inj e
      exact ⟨h, rfl⟩
    · simp [val_stuck] at e
  · simp [val_stuck] at e
end
end Go.Aix
