/-
  THE CALCULUS: a call that looks at what it is handed, and hands back memory of its own that shares nothing.
-/
import Derived.Test.YtafdnkachndacaaAixMove
set_option linter.unusedSimpArgs false
set_option linter.unusedVariables false
namespace Go.Aix

/-- Nothing of these is held by others. -/
def purCell (I : Ops) : Cell → R Unit
  | .pv p => match p with
    | .sc _ => .ok ()
    | .nl => .ok ()
    | .sl _ _ es => match es with
      | [] => .ok ()
      | _ => .stuck
    | .dd => .ok ()
  | .ptr _ _ _ => .ok ()
  | .arr _ _ _ => .ok ()
  | .ep _ => .stuck
  | .fn _ _ => .ok ()
  | .top => .ok ()
def purCells (I : Ops) : List Cell → R Unit
  | [] => .ok ()
  | c :: r => do
    purCell I c
    purCells I r
def purA (I : Ops) : AV → R Unit
  | .one c => purCell I c
  | .ag cs => purCells I cs
  | .tp vs => purGs vs
where purGs : List (Bool × List Cell) → R Unit
  | [] => .ok ()
  | v :: r => do
    purCells I v.2
    purGs r
def purK (I : Ops) : Chunk → R Unit
  | .row _ es => .must (I.pur es) (.ok ())
  | .box cs => purCells I cs
  | .foc _ _ _ _ => .stuck
def purS (I : Ops) : Store → R Unit
  | [] => .ok ()
  | (_, ch) :: r => do
    purK I ch
    purS I r
def callVw (I : Ops) (F : List AV → R (AV × Store × Nat)) (args : List AV) (S : St) : R (AV × St) := do
  let vs ← viewAs I S args
  let x ← F vs
  purA I x.1
  purS I x.2.1
  .ok (renA (shiftR S.next x.2.1) x.1, adopt S x.2.1 x.2.2)

section
variable {P : Program} {E : Ent} {β : Nat → Nat × Nat} {O : Nat → List Nat} {S : St} {a : Act} {w w' : World} {M M' : Nat → Prop} {env : EnvT}

theorem purCell_sound {c : Cell} {v : Value} {u : Unit} (h : RCell w M env c v) (e : (purCell real c).val = some u) : RCell w M' env c v := by
  cases h with
  | pv h =>
    refine .pv ?_
    unfold purCell at e
    cases h with
    | sc h => exact .sc h
    | nl => exact .nl
    | nil => exact .nil
    | @sh sz b off cap es cs a hM hb hc hR =>
      cases es with
      | nil => exact absurd rfl a
      | cons => simp [val_stuck] at e
    | dd h => exact .dd h
  | ptr h hi => exact .ptr h hi
  | arr h hm hn hc => exact .arr h hm hn hc
  | ep => simp [purCell, val_stuck] at e
  | fn h => exact .fn h
  | top h => exact .top h
theorem purCells_sound : ∀ {cs : List Cell} {vs : List Value} {u : Unit}, RCs w M env cs vs → (purCells real cs).val = some u → RCs w M' env cs vs
  | [], _, _, h, _ => by cases h; exact .nil
  | c :: cs, _, _, h, e => by
    unfold purCells at e
    rw [val_do] at e
    obtain ⟨_, e1, e2⟩ := some_bind e
    cases h with
    | cons h hr => exact .cons (purCell_sound h e1) (purCells_sound hr e2)
theorem purGs_sound : ∀ {l : List (Bool × List Cell)} {vs : List Value} {u : Unit}, RGs w M env l vs → (purA.purGs real l).val = some u → RGs w M' env l vs
  | [], _, _, h, _ => by cases h; exact .nil
  | c :: cs, _, _, h, e => by
    unfold purA.purGs at e
    rw [val_do] at e
    obtain ⟨_, e1, e2⟩ := some_bind e
    cases h with
    | @cons g cs v r vs h hr =>
      refine .cons ?_ (purGs_sound hr e2)
      cases g with
      | true => obtain ⟨vs, h1, h2⟩ := h; exact ⟨vs, h1, purCells_sound h2 e1⟩
      | false =>
        obtain ⟨c, rfl, h2⟩ := h
        unfold purCells at e1
        rw [val_do] at e1
        obtain ⟨_, e3, _⟩ := some_bind e1
        exact ⟨c, rfl, purCell_sound h2 e3⟩
theorem purA_sound {x : AV} {v : Value} {u : Unit} (h : RAV w M env x v) (e : (purA real x).val = some u) : RAV w M' env x v := by
  cases h with
  | one h => exact .one (purCell_sound h e)
  | ag h => exact .ag (purCells_sound h e)
  | tp h => exact .tp (purGs_sound h e)
theorem purS_sound : ∀ {σ : Store} {u : Unit}, (purS real σ).val = some u → ∀ c ch, lk c σ = some ch → ∀ {b N : Nat} {Oc : List Nat}, ChunkRel w M env b N ch Oc → ChunkRel w M' env b N ch Oc
  | [], _, _, c, ch, h, _, _, _, _ => by simp [lk] at h
  | (k, x) :: σ, _, e, c, ch, h, b, N, Oc, hr => by
    unfold purS at e
    rw [val_do] at e
    obtain ⟨_, e1, e2⟩ := some_bind e
    unfold lk at h
    cases hb : Nat.beq c k with
    | true =>
      rw [hb] at h
      obtain rfl := Option.some.inj h
      clear h hb
      cases hr with
      | box hb hN hR => exact .box hb hN (purCells_sound hR e1)
      | row hb hN hR =>
        unfold purK at e1
        simp only [R.val] at e1
        split at e1
        · rename_i hp
          exact .row hb hN (hR.pure hp)
        · cases e1
      | foc => simp [purK, val_stuck] at e1
    | false =>
      rw [hb] at h
      exact purS_sound e2 c ch h hr

theorem callVw_ok {g : FuncId} {F : List AV → R (AV × Store × Nat)} (hF : ∀ args r σ n, (F args).val = some (r, σ, n) → Ok0 P g args r σ n) {args : List AV} {r : AV} {S' : St} (e : (callVw real F args S).val = some (r, S')) : CallOk P g args S r S' := by
  intro E β O a w vs h hv
  unfold callVw at e
  rw [val_do] at e
  obtain ⟨us, h1, e⟩ := some_bind e
  rw [val_do] at e
  obtain ⟨⟨r0, σ, n⟩, h2, e⟩ := some_bind e
  rw [val_do] at e
  obtain ⟨_, p1, e⟩ := some_bind e
  rw [val_do] at e
  obtain ⟨_, p2, e⟩ := some_bind e
  simp only [val_ok, Option.some.injEq, Prod.mk.injEq] at e
  obtain ⟨rfl, rfl⟩ := e
  refine ((hF _ _ _ _ h2) w E.X vs (fun b hb => Nat.lt_of_lt_of_le (h.mem.xlt b hb) h.mem.size) (viewAs_sound h hv h1)).mono ?_
  intro ending w' he
  cases ending with
  | panicked => exact he.elim
  | outgrown => exact he.elim
  | returned u =>
    obtain ⟨β1, O1, m1, m2⟩ := he
    have fresh : ∀ o ch, lk o σ = some ch → ∀ b ∈ (β1 o).1 :: O1 o, w.heap.size ≤ b := fun o ch ho b hb => ((m1.own o ch ho b hb).2).elim (fun hf => hf.elim) id
    have m3 : Mem (Ent0 w (Mof E β O S.σ)) β1 O1 σ n w' := by
      refine ⟨m1.keys, fun c ch hc => purS_sound p2 c ch hc (m1.chunk c ch hc), m1.nodup, m1.disj, ?_, m1.os, m1.tape, m1.output, m1.size, m1.frame, fun b hb => Mof_lt h.mem hb, m1.nxt, m1.fix⟩
      intro o ch ho b hb
      have hf := fresh o ch ho b hb
      exact ⟨fun hX => by have := Mof_lt h.mem hX; omega, .inr hf⟩
    obtain ⟨β', O', k1, k2⟩ := h.adopt m3
    exact ⟨β', O', k1, k2 (purA_sound m2 p1)⟩
theorem EntryOk.vw {g : FuncId} {F : List AV → R (AV × Store × Nat)} (h : Sound P g F) {I : Ops} (hI : I = real) : EntryOk P g (callVw I F) := by
  subst hI
  exact ⟨h.1, fun _ _ _ _ e => callVw_ok h.2 e⟩
end
end Go.Aix
