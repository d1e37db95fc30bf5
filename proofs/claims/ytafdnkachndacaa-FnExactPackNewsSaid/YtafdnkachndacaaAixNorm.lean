/-
  THE CALCULUS, EIGHTEENTH TEXT: a state's chunks by other names, and only what is still wanted.
-/
import Derived.Test.YtafdnkachndacaaAixGo2
set_option linter.unusedSimpArgs false
set_option linter.unusedVariables false
namespace Go.Aix

def renC (ρ : List (Nat × Nat)) : Cell → Cell
  | .pv p => .pv p
  | .ptr c i j => match lk c ρ with
    | some d => .ptr d i j
    | none => .top
  | .arr c o n => match lk c ρ with
    | some d => .arr d o n
    | none => .top
  | .ep cs => .ep cs
  | .fn f caps => match renCaps ρ caps with
    | some caps => .fn f caps
    | none => .top
  | .top => .top
where renCaps (ρ : List (Nat × Nat)) : List (Nat × Nat × Nat) → Option (List (Nat × Nat × Nat))
  | [] => some []
  | (c, i, j) :: r => match lk c ρ with
    | some d => match renCaps ρ r with
      | some r => some ((d, i, j) :: r)
      | none => none
    | none => none
def renCs (ρ : List (Nat × Nat)) : List Cell → List Cell
  | [] => []
  | c :: r => renC ρ c :: renCs ρ r
def renGs (ρ : List (Nat × Nat)) : List (Bool × List Cell) → List (Bool × List Cell)
  | [] => []
  | (g, cs) :: r => (g, renCs ρ cs) :: renGs ρ r
def renA (ρ : List (Nat × Nat)) : AV → AV
  | .one c => .one (renC ρ c)
  | .ag cs => .ag (renCs ρ cs)
  | .tp vs => .tp (renGs ρ vs)
def renK (ρ : List (Nat × Nat)) : Chunk → Chunk
  | .box cs => .box (renCs ρ cs)
  | .row sz es => .row sz es
  | .foc sz es i cs => .foc sz es i (renCs ρ cs)
def renT (ρ : List (Nat × Nat)) (T : List (Nat × AV)) : List Nat → List (Nat × AV)
  | [] => []
  | t :: r => match lk t T with
    | some v => (t, renA ρ v) :: renT ρ T r
    | none => renT ρ T r
def renS (ρ : List (Nat × Nat)) (σ : Store) : List (Nat × Nat) → Store
  | [] => []
  | (o, n) :: r => match lk o σ with
    | some ch => (n, renK ρ ch) :: renS ρ σ r
    | none => renS ρ σ r
def ren (ρ : List (Nat × Nat)) (live : List Nat) (nx : Nat) (S : St) : St := ⟨renT ρ S.T live, renS ρ S.σ ρ, nx⟩

/-- May the names be so? -/
def notOld (o : Nat) : List (Nat × Nat) → Bool
  | [] => true
  | (o', _) :: r => match Nat.beq o o' with
    | true => false
    | false => notOld o r
def notNew (n : Nat) : List (Nat × Nat) → Bool
  | [] => true
  | (_, n') :: r => match Nat.beq n n' with
    | true => false
    | false => notNew n r
def renOk (n0 nx : Nat) : List (Nat × Nat) → Bool
  | [] => Nat.ble n0 nx
  | (o, n) :: r => match notOld o r && notNew n r && Nat.blt n nx with
    | true => match Nat.blt n n0 with
      | true => match Nat.beq o n with
        | true => renOk n0 nx r
        | false => false
      | false => renOk n0 nx r
    | false => false

/-- The cells that a chunk holds. -/
def Chunk.refs : Chunk → List Cell
  | .box cs => cs
  | .row _ _ => []
  | .foc _ _ _ cs => cs
def AV.refs : AV → List Cell
  | .one c => [c]
  | .ag cs => cs
  | .tp vs => vs.flatMap (·.2)
/-- The chunks reached, each by a new name. -/
def reach (σ : Store) : Nat → List Cell → List (Nat × Nat) → Nat → List (Nat × Nat) × Nat
  | 0, _, ρ, nx => (ρ, nx)
  | _ + 1, [], ρ, nx => (ρ, nx)
  | n + 1, x :: r, ρ, nx =>
    let visit (c : Nat) (r : List Cell) : List (Nat × Nat) × Nat := match lk c ρ with
      | some _ => reach σ n r ρ nx
      | none => match lk c σ with
        | some ch => reach σ n (ch.refs ++ r) (ρ ++ [(c, nx)]) (nx + 1)
        | none => reach σ n r ρ nx
    match x with
    | .ptr c _ _ => visit c r
    | .arr c _ _ => visit c r
    | .fn f caps => match caps with
      | [] => reach σ n r ρ nx
      | (c, _, _) :: caps => visit c (.fn f caps :: r)
    | _ => reach σ n r ρ nx
def keep (σ : Store) (n0 : Nat) : Nat → List (Nat × Nat)
  | 0 => []
  | k + 1 => match lk k σ with
    | some _ => match Nat.blt k n0 with
      | true => keep σ n0 k ++ [(k, k)]
      | false => keep σ n0 k
    | none => keep σ n0 k
def liveRefs (T : List (Nat × AV)) : List Nat → List Cell
  | [] => []
  | t :: r => match lk t T with
    | some v => v.refs ++ liveRefs T r
    | none => liveRefs T r
def keptRefs (σ : Store) : List (Nat × Nat) → List Cell
  | [] => []
  | (o, _) :: r => match lk o σ with
    | some ch => ch.refs ++ keptRefs σ r
    | none => keptRefs σ r
/-- The state in its plain form: the slots that live on, the chunks that they reach. -/
def norm (n0 : Nat) (live : List Nat) (S : St) : R St :=
  let k := keep S.σ n0 n0
  match reach S.σ 1000 (keptRefs S.σ k ++ liveRefs S.T live) k n0 with
  | (ρ, nx) => match renOk n0 nx ρ with
    | true => .ok (ren ρ live nx S)
    | false => .stuck

section
variable {P : Program} {X : Ctx} {Y : CallsA} {f : FuncId} {fn : Func} {b : Code} {E : Ent} {R : Value → World → Prop} {β : Nat → Nat × Nat} {O : Nat → List Nat} {S : St} {a : Act} {w : World}
  {M M' : Nat → Prop} {env env' : EnvT}

theorem renCaps_sound {ρ : List (Nat × Nat)} (he : ∀ o n, lk o ρ = some n → ∀ x, env o = some x → env' n = some x) : ∀ {l l' : List (Nat × Nat × Nat)} {vs : List Value}, CapsR env l vs → renC.renCaps ρ l = some l' → CapsR env' l' vs
  | [], l', _, h, e => by
    simp only [renC.renCaps, Option.some.injEq] at e
    subst e
    cases h
    exact .nil
  | (c, i, j) :: l, l', _, h, e => by
    unfold renC.renCaps at e
    split at e
    · rename_i d hd
      split at e
      · rename_i r hr
        simp only [Option.some.injEq] at e
        subst e
        cases h with
        | cons h1 h2 h3 => exact .cons (he _ _ hd _ h1) h2 (renCaps_sound he h3 hr)
      · cases e
    · cases e
theorem RCell.ren {ρ : List (Nat × Nat)} (t : Turn w w M M' (fun _ => False)) (he : ∀ o n, lk o ρ = some n → ∀ x, env o = some x → env' n = some x) {c : Cell} {v : Value} (h : RCell w M env c v) : RCell w M' env' (renC ρ c) v := by
  have h1 := h.oneV
  cases h with
  | pv h => exact .pv (h.turn t (fun _ _ h => h))
  | ptr h2 hi =>
    rename_i c i j b sz n N
    show RCell w M' env' (match lk c ρ with | some d => .ptr d i j | none => .top) _
    split
    · rename_i d hd; exact .ptr (he _ _ hd _ h2) hi
    · exact .top h1
  | arr h2 hm hn hc =>
    rename_i c o n b off sz m N cap
    show RCell w M' env' (match lk c ρ with | some d => .arr d o n | none => .top) _
    split
    · rename_i d hd; exact .arr (he _ _ hd _ h2) hm hn hc
    · exact .top h1
  | ep hM hb h => exact .ep (fun h' => (t.grows _ h').elim hM (fun e => by rw [hb] at e; cases e)) hb (h.turn t (fun _ _ h => h))
  | fn h2 =>
    rename_i f caps vs
    show RCell w M' env' (match renC.renCaps ρ caps with | some caps => .fn f caps | none => .top) _
    split
    · rename_i caps' hc; exact .fn (renCaps_sound he h2 hc)
    · exact .top h1
  | top h => exact .top h
theorem RCs.ren {ρ : List (Nat × Nat)} (t : Turn w w M M' (fun _ => False)) (he : ∀ o n, lk o ρ = some n → ∀ x, env o = some x → env' n = some x) : ∀ {cs : List Cell} {vs : List Value}, RCs w M env cs vs → RCs w M' env' (renCs ρ cs) vs
  | _, _, .nil => .nil
  | _, _, .cons h hr => .cons (h.ren t he) (RCs.ren t he hr)
theorem RGs.ren {ρ : List (Nat × Nat)} (t : Turn w w M M' (fun _ => False)) (he : ∀ o n, lk o ρ = some n → ∀ x, env o = some x → env' n = some x) : ∀ {l : List (Bool × List Cell)} {vs : List Value}, RGs w M env l vs → RGs w M' env' (renGs ρ l) vs
  | _, _, .nil => .nil
  | _, _, .cons (g := g) h hr => by
    refine .cons ?_ (RGs.ren t he hr)
    cases g with
    | true => obtain ⟨vs, h1, h2⟩ := h; exact ⟨vs, h1, h2.ren t he⟩
    | false => obtain ⟨c, rfl, h2⟩ := h; exact ⟨_, rfl, h2.ren t he⟩
theorem RAV.ren {ρ : List (Nat × Nat)} (t : Turn w w M M' (fun _ => False)) (he : ∀ o n, lk o ρ = some n → ∀ x, env o = some x → env' n = some x) {x : AV} {v : Value} (h : RAV w M env x v) : RAV w M' env' (renA ρ x) v := by
  cases h with
  | one h => exact .one (h.ren t he)
  | ag h => exact .ag (h.ren t he)
  | tp h => exact .tp (h.ren t he)
theorem renCs_length (ρ : List (Nat × Nat)) : ∀ cs : List Cell, (renCs ρ cs).length = cs.length
  | [] => rfl
  | c :: cs => by simp [renCs, renCs_length ρ cs]
theorem renK_sz (ρ : List (Nat × Nat)) (ch : Chunk) : (renK ρ ch).sz = ch.sz ∧ (renK ρ ch).cnt = ch.cnt := by
  cases ch with
  | box cs =>
    refine ⟨?_, rfl⟩
    show (renCs ρ cs).length = cs.length
    induction cs with
    | nil => rfl
    | cons c cs ih => simp [renCs, ih]
  | row => exact ⟨rfl, rfl⟩
  | foc => exact ⟨rfl, rfl⟩
theorem ChunkRel.ren {ρ : List (Nat × Nat)} (t : Turn w w M M' (fun _ => False)) (he : ∀ o n, lk o ρ = some n → ∀ x, env o = some x → env' n = some x) {bl N : Nat} {ch : Chunk} {Oc : List Nat} (h : ChunkRel w M env bl N ch Oc) : ChunkRel w M' env' bl N (renK ρ ch) Oc := by
  cases h with
  | box hb hN h => exact .box hb hN (h.ren t he)
  | row hb hN h => exact .row hb hN (h.turn t (fun _ _ h => h))
  | foc hb hN hi hl h1 h2 h3 => exact .foc hb hN hi (by rw [renCs_length]; exact hl) (h1.turn t (fun _ _ h => h)) (h2.ren t he) (h3.turn t (fun _ _ h => h))

/-- The old name. -/
def oldOf (ρ : List (Nat × Nat)) (n : Nat) : Nat := match ρ with
  | [] => 0
  | (o, n') :: r => if n = n' then o else oldOf r n

theorem notOld_spec {o : Nat} : ∀ {ρ : List (Nat × Nat)}, notOld o ρ = true → ∀ n, (o, n) ∉ ρ
  | [], _, n => by simp
  | (o', n') :: r, h, n => by
    unfold notOld at h
    split at h
    · cases h
    · rename_i hb
      intro hm
      rcases List.mem_cons.1 hm with e | hm
      · simp only [Prod.mk.injEq] at e
        exact beq_ne hb e.1
      · exact notOld_spec h n hm
theorem notNew_spec {n : Nat} : ∀ {ρ : List (Nat × Nat)}, notNew n ρ = true → ∀ o, (o, n) ∉ ρ
  | [], _, n => by simp
  | (o', n') :: r, h, o => by
    unfold notNew at h
    split at h
    · cases h
    · rename_i hb
      intro hm
      rcases List.mem_cons.1 hm with e | hm
      · simp only [Prod.mk.injEq] at e
        exact beq_ne hb e.2
      · exact notNew_spec h o hm
structure RenOk (n0 nx : Nat) (ρ : List (Nat × Nat)) : Prop where
  le : n0 ≤ nx
  lt : ∀ o n, (o, n) ∈ ρ → n < nx
  old : ∀ n, (∃ o, (o, n) ∈ ρ) → (oldOf ρ n, n) ∈ ρ
  inj : ∀ o n n', (o, n) ∈ ρ → (o, n') ∈ ρ → n = n'
  fun1 : ∀ o o' n, (o, n) ∈ ρ → (o', n) ∈ ρ → o = o'
  lkn : ∀ o n, (o, n) ∈ ρ ↔ lk o ρ = some n
  fix : ∀ o n, (o, n) ∈ ρ → n < n0 → o = n
theorem renOk_spec {n0 nx : Nat} : ∀ {ρ : List (Nat × Nat)}, renOk n0 nx ρ = true → RenOk n0 nx ρ
  | [], h => ⟨Nat.le_of_ble_eq_true h, by simp, by simp, by simp, by simp, by simp [lk], by simp⟩
  | (o, n) :: r, h => by
    unfold renOk at h
    split at h
    · rename_i hb
      simp only [Bool.and_eq_true] at hb
      obtain ⟨⟨h1, h2⟩, h3⟩ := hb
      have h3 : n < nx := Nat.le_of_ble_eq_true h3
      have hr : renOk n0 nx r = true ∧ (n < n0 → o = n) := by
        split at h
        · split at h
          · rename_i hb; exact ⟨h, fun _ => beq_eq hb⟩
          · cases h
        · rename_i hb
          refine ⟨h, fun hlt => ?_⟩
          have : Nat.blt n n0 = true := Nat.ble_eq_true_of_le hlt
          rw [this] at hb; cases hb
      have ih := renOk_spec hr.1
      have n1 := notOld_spec h1
      have n2 := notNew_spec h2
      refine ⟨ih.le, ?_, ?_, ?_, ?_, ?_, ?_⟩
      · intro o' n' hm
        rcases List.mem_cons.1 hm with e | hm
        · simp only [Prod.mk.injEq] at e; omega
        · exact ih.lt o' n' hm
      · rintro n' ⟨o', hm⟩
        unfold oldOf
        split
        · rename_i e; subst e; exact List.mem_cons_self
        · rename_i hne
          rcases List.mem_cons.1 hm with e | hm
          · simp only [Prod.mk.injEq] at e; exact absurd e.2 hne
          · exact List.mem_cons_of_mem _ (ih.old n' ⟨o', hm⟩)
      · intro o' a b ha hb
        rcases List.mem_cons.1 ha with e | ha'
        · rcases List.mem_cons.1 hb with e' | hb'
          · simp only [Prod.mk.injEq] at e e'; omega
          · simp only [Prod.mk.injEq] at e; rw [e.1] at hb'; exact absurd hb' (n1 _)
        · rcases List.mem_cons.1 hb with e' | hb'
          · simp only [Prod.mk.injEq] at e'; rw [e'.1] at ha'; exact absurd ha' (n1 _)
          · exact ih.inj o' a b ha' hb'
      · intro a b n' ha hb
        rcases List.mem_cons.1 ha with e | ha'
        · rcases List.mem_cons.1 hb with e' | hb'
          · simp only [Prod.mk.injEq] at e e'; omega
          · simp only [Prod.mk.injEq] at e; rw [e.2] at hb'; exact absurd hb' (n2 _)
        · rcases List.mem_cons.1 hb with e' | hb'
          · simp only [Prod.mk.injEq] at e'; rw [e'.2] at ha'; exact absurd ha' (n2 _)
          · exact ih.fun1 a b n' ha' hb'
      · intro o' n'
        unfold lk
        cases hb : Nat.beq o' o with
        | true =>
          have := beq_eq hb
          subst this
          simp only [Option.some.injEq]
          constructor
          · intro hm
            rcases List.mem_cons.1 hm with e | hm
            · simp only [Prod.mk.injEq] at e; exact e.2.symm
            · exact absurd hm (n1 _)
          · rintro rfl; exact List.mem_cons_self
        | false =>
          simp only
          rw [← ih.lkn o' n']
          constructor
          · intro hm
            rcases List.mem_cons.1 hm with e | hm
            · simp only [Prod.mk.injEq] at e; exact absurd e.1 (beq_ne hb)
            · exact hm
          · exact List.mem_cons_of_mem _
      · intro o' n' hm hlt
        rcases List.mem_cons.1 hm with e | hm
        · simp only [Prod.mk.injEq] at e; obtain ⟨rfl, rfl⟩ := e; exact hr.2 hlt
        · exact ih.fix o' n' hm hlt
    · cases h

theorem renS_lk {ρ' : List (Nat × Nat)} {σ : Store} : ∀ {ρ : List (Nat × Nat)} {n : Nat} {x : Chunk}, lk n (renS ρ' σ ρ) = some x → ∃ o ch, (o, n) ∈ ρ ∧ lk o σ = some ch ∧ x = renK ρ' ch
  | [], n, x, h => by simp [renS, lk] at h
  | (o, m) :: r, n, x, h => by
    unfold renS at h
    split at h
    · rename_i ch hch
      unfold lk at h
      cases hb : Nat.beq n m with
      | true =>
        rw [hb] at h
        simp only [Option.some.injEq] at h
        have := beq_eq hb
        subst this
        exact ⟨o, ch, List.mem_cons_self, hch, h.symm⟩
      | false =>
        rw [hb] at h
        obtain ⟨o', ch', h1, h2, h3⟩ := renS_lk h
        exact ⟨o', ch', List.mem_cons_of_mem _ h1, h2, h3⟩
    · obtain ⟨o', ch', h1, h2, h3⟩ := renS_lk h
      exact ⟨o', ch', List.mem_cons_of_mem _ h1, h2, h3⟩
theorem renS_has {ρ' : List (Nat × Nat)} {σ : Store} {o n : Nat} {ch : Chunk} (ho : lk o σ = some ch) : ∀ {ρ : List (Nat × Nat)}, (o, n) ∈ ρ → ∃ x, lk n (renS ρ' σ ρ) = some x
  | [], h => by simp at h
  | (o', m) :: r, h => by
    unfold renS
    rcases List.mem_cons.1 h with e | h
    · simp only [Prod.mk.injEq] at e
      obtain ⟨rfl, rfl⟩ := e
      rw [ho]
      simp [lk]
    · split
      · unfold lk
        split
        · exact ⟨_, rfl⟩
        · exact renS_has ho h
      · exact renS_has ho h

theorem renT_lk {ρ : List (Nat × Nat)} {T : List (Nat × AV)} : ∀ {live : List Nat} {t : Nat} {x : AV}, lk t (renT ρ T live) = some x → ∃ v, lk t T = some v ∧ x = renA ρ v
  | [], t, x, h => by simp [renT, lk] at h
  | s :: r, t, x, h => by
    unfold renT at h
    split at h
    · rename_i v hv
      unfold lk at h
      cases hb : Nat.beq t s with
      | true =>
        rw [hb] at h
        simp only [Option.some.injEq] at h
        have := beq_eq hb
        subst this
        exact ⟨v, hv, h.symm⟩
      | false =>
        rw [hb] at h
        exact renT_lk h
    · exact renT_lk h

theorem Rel.ren (h : Rel E β O S a w) {ρ : List (Nat × Nat)} {live : List Nat} {nx : Nat} (hr : renOk E.n0 nx ρ = true) : ∃ β' O', Rel E β' O' (ren ρ live nx S) a w ∧
    (∀ {x : AV} {v : Value}, RAV w (Mof E β O S.σ) (envOf β S.σ) x v → RAV w (Mof E β' O' (Aix.ren ρ live nx S).σ) (envOf β' (Aix.ren ρ live nx S).σ) (renA ρ x) v) := by
  have ok := renOk_spec hr
  have lkS : ∀ n x, lk n (renS ρ S.σ ρ) = some x → ∃ ch, (oldOf ρ n, n) ∈ ρ ∧ lk (oldOf ρ n) S.σ = some ch ∧ x = renK ρ ch := by
    intro n x hx
    obtain ⟨o, ch, h1, h2, h3⟩ := renS_lk hx
    have ho := ok.old n ⟨o, h1⟩
    have := ok.fun1 _ _ _ h1 ho
    subst this
    exact ⟨ch, ho, h2, h3⟩
  have hM : ∀ b, Mof E (fun n => β (oldOf ρ n)) (fun n => O (oldOf ρ n)) (renS ρ S.σ ρ) b → Mof E β O S.σ b := by
    rintro b (hx | ⟨c, x, hc, e⟩)
    · exact .inl hx
    · obtain ⟨ch, h1, h2, _⟩ := lkS c x hc
      exact .inr ⟨_, ch, h2, e⟩
  have t : Turn w w (Mof E β O S.σ) (Mof E (fun n => β (oldOf ρ n)) (fun n => O (oldOf ρ n)) (renS ρ S.σ ρ)) (fun _ => False) := ⟨fun _ _ _ h => h, fun _ h => h.elim, fun b hb => .inl (hM b hb)⟩
  have he : ∀ o n, lk o ρ = some n → ∀ x, envOf β S.σ o = some x → envOf (fun n => β (oldOf ρ n)) (renS ρ S.σ ρ) n = some x := by
    intro o n hon x hx
    have hm := (ok.lkn o n).2 hon
    unfold envOf at *
    obtain ⟨ch, hch, hx⟩ := Option.map_eq_some_iff.1 hx
    obtain ⟨y, hy⟩ := renS_has (ρ' := ρ) hch hm
    obtain ⟨ch', h1, h2, h3⟩ := lkS n y hy
    have := ok.fun1 _ _ _ hm h1
    rw [← this] at h2
    rw [hch] at h2
    obtain rfl := Option.some.inj h2
    rw [hy, h3, Option.map_some, (renK_sz ρ ch).1, (renK_sz ρ ch).2]
    show some ((β (oldOf ρ n)).1, ch.sz, ch.cnt, (β (oldOf ρ n)).2) = some x
    rw [← this, hx]
  refine ⟨fun n => β (oldOf ρ n), fun n => O (oldOf ρ n), ⟨?_, ?_, h.nodef⟩, fun hv => hv.ren t he⟩
  · constructor
    · intro c x hc
      obtain ⟨ch, h1, h2, _⟩ := lkS c x hc
      exact ok.lt _ _ h1
    · intro c x hc
      obtain ⟨ch, h1, h2, rfl⟩ := lkS c x hc
      exact (h.mem.chunk _ ch h2).ren t he
    · intro c x hc
      obtain ⟨ch, h1, h2, rfl⟩ := lkS c x hc
      exact h.mem.nodup _ ch h2
    · intro c d x y hc hd hne
      obtain ⟨ch, h1, h2, _⟩ := lkS c x hc
      obtain ⟨dh, h3, h4, _⟩ := lkS d y hd
      exact h.mem.disj _ _ ch dh h2 h4 (fun e => hne (ok.inj _ _ _ h1 (e ▸ h3)))
    · intro c x hc
      obtain ⟨ch, h1, h2, rfl⟩ := lkS c x hc
      exact h.mem.own _ ch h2
    · exact h.mem.os
    · exact h.mem.tape
    · exact h.mem.output
    · exact h.mem.size
    · exact h.mem.frame
    · exact h.mem.xlt
    · exact ok.le
    · intro c x hlt hc
      obtain ⟨ch, h1, h2, _⟩ := lkS c x hc
      have := ok.fix _ _ h1 hlt
      show β (oldOf ρ c) = _
      rw [this]
      rw [this] at h2
      exact h.mem.fix c ch hlt h2
  · intro q av hq
    obtain ⟨v, h1, rfl⟩ := renT_lk hq
    obtain ⟨g1, g2⟩ := h.slots q v h1
    exact ⟨g1, g2.ren t he⟩

theorem norm_sound {n0 : Nat} {live : List Nat} {S' : St} (e : (norm n0 live S).val = some S') : ∃ ρ nx, renOk n0 nx ρ = true ∧ S' = ren ρ live nx S := by
  unfold norm at e
  generalize hz : reach S.σ 1000 (keptRefs S.σ (keep S.σ n0 n0) ++ liveRefs S.T live) (keep S.σ n0 n0) n0 = z at e
  simp only [hz] at e
  split at e
  · rename_i hr
    simp only [val_ok, Option.some.injEq] at e
    exact ⟨z.1, z.2, hr, e.symm⟩
  · simp [val_stuck] at e

/-- It is enough to show it of the plain form. -/
theorem W_norm (live : List Nat) {k : List Item} {S' : St} (e : (norm E.n0 live S).val = some S') (h : W P f fn E R k S') : W P f fn E R k S := by
  intro β O a w hr hs
  obtain ⟨ρ, nx, h1, rfl⟩ := norm_sound e
  obtain ⟨β', O', h2, _⟩ := hr.ren (live := live) h1
  exact h β' O' a w h2 hs
end
end Go.Aix
