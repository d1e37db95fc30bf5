/-
  THE CALCULUS, TWENTY-FIRST TEXT: a call that hands back memory of its own.
-/
import Derived.Test.YtafdnkachndacaaAixTab
set_option linter.unusedSimpArgs false
set_option linter.unusedVariables false
namespace Go.Aix

def shiftR (k : Nat) : Store → List (Nat × Nat)
  | [] => []
  | (c, _) :: r => (c, k + c) :: shiftR k r

theorem shiftR_mem {k : Nat} : ∀ {σ : Store} {o n : Nat}, (o, n) ∈ shiftR k σ → n = k + o
  | [], o, n, h => by simp [shiftR] at h
  | (c, _) :: r, o, n, h => by
    rcases List.mem_cons.1 h with e | h
    · simp only [Prod.mk.injEq] at e; omega
    · exact shiftR_mem h
theorem shiftR_lk {k : Nat} : ∀ {σ : Store} {o n : Nat}, lk o (shiftR k σ) = some n → n = k + o ∧ (o, n) ∈ shiftR k σ
  | [], o, n, h => by simp [shiftR, lk] at h
  | (c, _) :: r, o, n, h => by
    unfold shiftR lk at h
    cases hb : Nat.beq o c with
    | true =>
      rw [hb] at h
      have := beq_eq hb
      subst this
      have := Option.some.inj h
      subst this
      exact ⟨rfl, List.mem_cons_self⟩
    | false =>
      rw [hb] at h
      obtain ⟨h1, h2⟩ := shiftR_lk h
      exact ⟨h1, List.mem_cons_of_mem _ h2⟩
theorem shiftR_has {k : Nat} : ∀ {σ : Store} {o : Nat} {ch : Chunk}, lk o σ = some ch → (o, k + o) ∈ shiftR k σ
  | [], o, ch, h => by simp [lk] at h
  | (c, x) :: r, o, ch, h => by
    unfold lk at h
    cases hb : Nat.beq o c with
    | true =>
      have := beq_eq hb
      subst this
      exact List.mem_cons_self
    | false =>
      rw [hb] at h
      exact List.mem_cons_of_mem _ (shiftR_has h)
theorem lk_app {α : Type} (c : Nat) : ∀ (l r : List (Nat × α)), lk c (l ++ r) = match lk c l with
    | some x => some x
    | none => lk c r
  | [], r => rfl
  | (j, b) :: l, r => by
    simp only [List.cons_append, lk]
    cases Nat.beq c j <;> simp [lk_app c l r]

/-- The state with what was handed back. -/
def adopt (S : St) (σ : Store) (n : Nat) : St := ⟨S.T, S.σ ++ renS (shiftR S.next σ) σ (shiftR S.next σ), S.next + n⟩

section
variable {P : Program} {E : Ent} {β β1 : Nat → Nat × Nat} {O O1 : Nat → List Nat} {S : St} {σ1 : Store} {n1 : Nat} {a : Act} {w w' : World}

theorem Rel.adopt (h : Rel E β O S a w) (h1 : Mem (Ent0 w (Mof E β O S.σ)) β1 O1 σ1 n1 w') : ∃ β' O', Rel E β' O' (adopt S σ1 n1) a w' ∧
    (∀ {r : AV} {u : Value}, RAV w' (Mof (Ent0 w (Mof E β O S.σ)) β1 O1 σ1) (envOf β1 σ1) r u → RAV w' (Mof E β' O' (Aix.adopt S σ1 n1).σ) (envOf β' (Aix.adopt S σ1 n1).σ) (renA (shiftR S.next σ1) r) u) := by
  have g := Grown.of h1
  generalize hρ : shiftR S.next σ1 = ρ
  have hσ : (Aix.adopt S σ1 n1).σ = S.σ ++ renS ρ σ1 ρ := by unfold Aix.adopt; rw [hρ]
  have hσ' : (Aix.adopt S σ1 n1).next = S.next + n1 := rfl
  have F1 : ∀ o n, (o, n) ∈ ρ → n = S.next + o := fun o n hm => shiftR_mem (hρ ▸ hm)
  have F2 : ∀ o n, lk o ρ = some n → n = S.next + o ∧ (o, n) ∈ ρ := fun o n hm => by have := shiftR_lk (hρ ▸ hm : lk o (shiftR S.next σ1) = some n); rwa [hρ] at this
  have F3 : ∀ o ch, lk o σ1 = some ch → (o, S.next + o) ∈ ρ := fun o ch hm => by have := shiftR_has (k := S.next) hm; rwa [hρ] at this
  -- what stands at a name
  have cases' : ∀ c x, lk c (S.σ ++ renS ρ σ1 ρ) = some x → (c < S.next ∧ lk c S.σ = some x) ∨ (∃ o ch, c = S.next + o ∧ lk o σ1 = some ch ∧ x = renK ρ ch) := by
    intro c x hc
    rw [lk_app] at hc
    cases e : lk c S.σ with
    | some y =>
      rw [e] at hc
      exact .inl ⟨h.mem.keys c y e, hc⟩
    | none =>
      rw [e] at hc
      obtain ⟨o, ch, m1, m2, m3⟩ := renS_lk hc
      exact .inr ⟨o, ch, F1 _ _ m1, m2, m3⟩
  have old : ∀ c x, lk c S.σ = some x → lk c (S.σ ++ renS ρ σ1 ρ) = some x := by
    intro c x hc; rw [lk_app, hc]
  have new : ∀ o ch, lk o σ1 = some ch → lk (S.next + o) (S.σ ++ renS ρ σ1 ρ) = some (renK ρ ch) := by
    intro o ch hc
    obtain ⟨x, hx⟩ := renS_has (ρ' := ρ) hc (F3 o ch hc)
    have hn : lk (S.next + o) S.σ = none := by
      cases e : lk (S.next + o) S.σ with
      | none => rfl
      | some y => have := h.mem.keys _ y e; omega
    rw [lk_app, hn]
    obtain ⟨o', ch', m1, m2, m3⟩ := renS_lk hx
    have := F1 _ _ m1
    have : o = o' := by omega
    subst this
    rw [hc] at m2
    obtain rfl := Option.some.inj m2
    rw [hx, m3]
  let β' : Nat → Nat × Nat := fun c => if c < S.next then β c else β1 (c - S.next)
  let O' : Nat → List Nat := fun c => if c < S.next then O c else O1 (c - S.next)
  have b1 : ∀ c, c < S.next → β' c = β c ∧ O' c = O c := fun c hc => ⟨if_pos hc, if_pos hc⟩
  have b2 : ∀ o, β' (S.next + o) = β1 o ∧ O' (S.next + o) = O1 o := by
    intro o
    have hn : ¬ S.next + o < S.next := by omega
    constructor
    · show (if S.next + o < S.next then _ else _) = _
      rw [if_neg hn, Nat.add_sub_cancel_left]
    · show (if S.next + o < S.next then _ else _) = _
      rw [if_neg hn, Nat.add_sub_cancel_left]
  have fresh : ∀ o ch, lk o σ1 = some ch → ∀ b ∈ (β1 o).1 :: O1 o, w.heap.size ≤ b := fun o ch ho b hb => ((h1.own o ch ho b hb).2).elim (fun hf => hf.elim) id
  have hM : ∀ b, Mof E β' O' (S.σ ++ renS ρ σ1 ρ) b ↔ Mof (Ent0 w (Mof E β O S.σ)) β1 O1 σ1 b := by
    intro b
    constructor
    · rintro (hX | ⟨c, x, hc, e⟩)
      · exact .inl (.inl hX)
      · rcases cases' c x hc with ⟨hlt, ho⟩ | ⟨o, ch, rfl, ho, _⟩
        · rw [(b1 c hlt).1, (b1 c hlt).2] at e; exact .inl (.inr ⟨c, x, ho, e⟩)
        · rw [(b2 o).1, (b2 o).2] at e; exact .inr ⟨o, ch, ho, e⟩
    · rintro ((hX | ⟨c, x, hc, e⟩) | ⟨o, ch, ho, e⟩)
      · exact .inl hX
      · exact .inr ⟨c, x, old c x hc, by rw [(b1 c (h.mem.keys c x hc)).1, (b1 c (h.mem.keys c x hc)).2]; exact e⟩
      · exact .inr ⟨_, _, new o ch ho, by rw [(b2 o).1, (b2 o).2]; exact e⟩
  have t1 : Turn w w' (Mof E β O S.σ) (Mof E β' O' (S.σ ++ renS ρ σ1 ρ)) (fun _ => False) := by
    refine ⟨fun _ _ _ hb => g.heap hb, fun _ h => h.elim, fun b hb => ?_⟩
    rcases (hM b).1 hb with hx | ⟨o, ch, ho, e⟩
    · exact .inl hx
    · refine .inr ?_
      have := fresh o ch ho b e
      unfold Aix.blk
      rw [Array.getElem?_eq_none this]
  have t2 : Turn w' w' (Mof (Ent0 w (Mof E β O S.σ)) β1 O1 σ1) (Mof E β' O' (S.σ ++ renS ρ σ1 ρ)) (fun _ => False) := ⟨fun _ _ _ h => h, fun _ h => h.elim, fun b hb => .inl ((hM b).1 hb)⟩
  have e1 : ∀ c x, envOf β S.σ c = some x → envOf β' (S.σ ++ renS ρ σ1 ρ) c = some x := by
    intro c x hc
    unfold envOf at *
    obtain ⟨ch, hch, hx⟩ := Option.map_eq_some_iff.1 hc
    rw [old c ch hch, (b1 c (h.mem.keys c ch hch)).1, Option.map_some, hx]
  have e2 : ∀ o n, lk o ρ = some n → ∀ x, envOf β1 σ1 o = some x → envOf β' (S.σ ++ renS ρ σ1 ρ) n = some x := by
    intro o n hon x hx
    obtain ⟨rfl, _⟩ := F2 o n hon
    unfold envOf at *
    obtain ⟨ch, hch, hx⟩ := Option.map_eq_some_iff.1 hx
    rw [new o ch hch, (b2 o).1, Option.map_some, (renK_sz ρ ch).1, (renK_sz ρ ch).2, hx]
  refine ⟨β', O', ⟨?_, ?_, h.nodef⟩, fun hv => by rw [hσ]; exact hv.ren t2 e2⟩
  · rw [hσ, hσ']
    constructor
    · intro c x hc
      rcases cases' c x hc with ⟨hlt, ho⟩ | ⟨o, ch, rfl, ho, _⟩
      · omega
      · have := h1.keys o ch ho; omega
    · intro c x hc
      rcases cases' c x hc with ⟨hlt, ho⟩ | ⟨o, ch, rfl, ho, rfl⟩
      · rw [(b1 c hlt).1, (b1 c hlt).2]
        exact (h.mem.chunk c x ho).turn t1 e1 (fun _ _ h => h) (g.same _ ((h.mem.chunk c x ho).lt _ List.mem_cons_self))
      · rw [(b2 o).1, (b2 o).2]
        exact (h1.chunk o ch ho).ren t2 e2
    · intro c x hc
      rcases cases' c x hc with ⟨hlt, ho⟩ | ⟨o, ch, rfl, ho, rfl⟩
      · rw [(b1 c hlt).1, (b1 c hlt).2]; exact h.mem.nodup c x ho
      · rw [(b2 o).1, (b2 o).2]; exact h1.nodup o ch ho
    · intro c d x y hc hd hne b hb
      rcases cases' c x hc with ⟨hlt, ho⟩ | ⟨o, ch, rfl, ho, rfl⟩
      · rw [(b1 c hlt).1, (b1 c hlt).2] at hb
        have hbl := (h.mem.chunk c x ho).lt b hb
        rcases cases' d y hd with ⟨hlt', ho'⟩ | ⟨o', ch', rfl, ho', rfl⟩
        · rw [(b1 d hlt').1, (b1 d hlt').2]; exact h.mem.disj c d x y ho ho' hne b hb
        · rw [(b2 o').1, (b2 o').2]
          intro hm
          have := fresh o' ch' ho' b hm
          omega
      · rw [(b2 o).1, (b2 o).2] at hb
        rcases cases' d y hd with ⟨hlt', ho'⟩ | ⟨o', ch', rfl, ho', rfl⟩
        · rw [(b1 d hlt').1, (b1 d hlt').2]
          intro hm
          have := fresh o ch ho b hb
          have := (h.mem.chunk d y ho').lt b hm
          omega
        · rw [(b2 o').1, (b2 o').2]
          exact h1.disj o o' ch ch' ho ho' (fun e => hne (by rw [e])) b hb
    · intro c x hc b hb
      rcases cases' c x hc with ⟨hlt, ho⟩ | ⟨o, ch, rfl, ho, rfl⟩
      · rw [(b1 c hlt).1, (b1 c hlt).2] at hb; exact h.mem.own c x ho b hb
      · rw [(b2 o).1, (b2 o).2] at hb
        have := fresh o ch ho b hb
        have hs := h.mem.size
        exact ⟨fun hX => by have := h.mem.xlt b hX; omega, .inr (by omega)⟩
    · exact g.os.trans h.mem.os
    · exact g.tape.trans h.mem.tape
    · exact g.output.trans h.mem.output
    · exact Nat.le_trans h.mem.size g.size
    · intro b hb hz
      rw [g.same b (Nat.lt_of_lt_of_le hb h.mem.size)]
      exact h.mem.frame b hb hz
    · exact h.mem.xlt
    · exact Nat.le_trans h.mem.nxt (Nat.le_add_right _ _)
    · intro c x hlt hc
      have hl : c < S.next := Nat.lt_of_lt_of_le hlt h.mem.nxt
      rcases cases' c x hc with ⟨_, ho⟩ | ⟨o, ch, rfl, ho, rfl⟩
      · rw [(b1 c hl).1]; exact h.mem.fix c x hlt ho
      · omega
  · intro q av hq
    obtain ⟨g1, g2⟩ := h.slots q av hq
    exact ⟨g1, by rw [hσ]; exact g2.turn t1 e1⟩

/-- Nothing that may be written is handed over. -/
def plainC : Cell → Bool
  | .pv _ => true
  | .ep _ => true
  | .fn _ caps => match caps with
    | [] => true
    | _ => false
  | _ => false
def plainCs : List Cell → Bool
  | [] => true
  | c :: r => match plainC c with
    | true => plainCs r
    | false => false
def plainA : AV → Bool
  | .one c => plainC c
  | .ag cs => plainCs cs
  | .tp _ => false
def plainAs : List AV → Bool
  | [] => true
  | c :: r => match plainA c with
    | true => plainAs r
    | false => false
theorem plainC_sound {M : Nat → Prop} {env env' : EnvT} {c : Cell} {v : Value} (hb : plainC c = true) (h : RCell w M env c v) : RCell w M env' c v := by
  cases h with
  | pv h => exact .pv h
  | ep hM hk h => exact .ep hM hk h
  | fn h =>
    rename_i f caps vs
    cases caps with
    | nil =>
      generalize hl : vs.toList = l at h
      cases h
      exact .fn (by rw [hl]; exact .nil)
    | cons x r => cases hb
  | _ => cases hb
theorem plainCs_sound {M : Nat → Prop} {env env' : EnvT} : ∀ {cs : List Cell} {vs : List Value}, plainCs cs = true → RCs w M env cs vs → RCs w M env' cs vs
  | [], _, _, h => by cases h; exact .nil
  | c :: cs, _, hb, h => by
    unfold plainCs at hb
    split at hb
    · rename_i h1
      cases h with
      | cons h hr => exact .cons (plainC_sound h1 h) (plainCs_sound hb hr)
    · cases hb
theorem plainA_sound {M : Nat → Prop} {env env' : EnvT} {x : AV} {v : Value} (hb : plainA x = true) (h : RAV w M env x v) : RAV w M env' x v := by
  cases h with
  | one h => exact .one (plainC_sound hb h)
  | ag h => exact .ag (plainCs_sound hb h)
  | tp h => cases hb
theorem plainAs_sound {M : Nat → Prop} {env env' : EnvT} : ∀ {cs : List AV} {vs : List Value}, plainAs cs = true → RAVs w M env cs vs → RAVs w M env' cs vs
  | [], _, _, h => by cases h; exact .nil
  | c :: cs, _, hb, h => by
    unfold plainAs at hb
    split at hb
    · rename_i h1
      cases h with
      | cons h hr => exact .cons (plainA_sound h1 h) (plainAs_sound hb hr)
    · cases hb

/-- A call that is handed nothing to write, and hands back memory of its own. -/
def callPlain (F : List AV → R (AV × Store × Nat)) (args : List AV) (S : St) : R (AV × St) := match plainAs args with
  | true => do
    let (r, σ, n) ← F args
    .ok (renA (shiftR S.next σ) r, adopt S σ n)
  | false => .stuck
theorem callPlain_ok {g : FuncId} {F : List AV → R (AV × Store × Nat)} (hF : ∀ args r σ n, (F args).val = some (r, σ, n) → Ok0 P g args r σ n) {args : List AV} {r : AV} {S' : St} (e : (callPlain F args S).val = some (r, S')) : CallOk P g args S r S' := by
  intro E β O a w vs h hv
  unfold callPlain at e
  split at e
  · rename_i hp
    rw [val_do] at e
    obtain ⟨⟨r0, σ, n⟩, h2, e⟩ := some_bind e
    simp only [val_ok, Option.some.injEq, Prod.mk.injEq] at e
    obtain ⟨rfl, rfl⟩ := e
    have hXs : ∀ b, Mof E β O S.σ b → b < w.heap.size := fun b hb => Mof_lt h.mem hb
    refine (hF _ _ _ _ h2 w (Mof E β O S.σ) vs hXs (plainAs_sound hp hv)).mono ?_
    intro e w' he
    cases e with
    | returned u =>
      obtain ⟨β1, O1, m1, m2⟩ := he
      obtain ⟨β', O', k1, k2⟩ := h.adopt m1
      exact ⟨β', O', k1, k2 m2⟩
    | panicked => exact he.elim
    | outgrown => exact he.elim
  · simp [val_stuck] at e
theorem EntryOk.plain {g : FuncId} {F : List AV → R (AV × Store × Nat)} (he : Enters P g) (hF : ∀ args r σ n, (F args).val = some (r, σ, n) → Ok0 P g args r σ n) : EntryOk P g (callPlain F) :=
  ⟨he, fun _ _ _ _ e => callPlain_ok hF e⟩
end
end Go.Aix
