/-
  THE CALCULUS, FOURTH TEXT: the state of a call in a world; new chunks, chunks that go, chunks that turn.
-/
import Derived.Test.YtafdnkachndacaaAixState
set_option linter.unusedSimpArgs false
set_option linter.unusedVariables false
namespace Go.Aix

/-- Where a call began: the world; blocks that nothing mutable of it may be (X); what came in as its own and may be written (Z). -/
structure Ent where
  w0 : World
  X : Nat → Prop
  Z : Nat → Prop
  n0 : Nat
  β0 : Nat → Nat × Nat

/-- Blocks that no value held by others lies in. -/
def Mof (E : Ent) (β : Nat → Nat × Nat) (O : Nat → List Nat) (σ : Store) (b : Nat) : Prop := E.X b ∨ ∃ c ch, lk c σ = some ch ∧ b ∈ (β c).1 :: O c
def envOf (β : Nat → Nat × Nat) (σ : Store) : EnvT := fun c => (lk c σ).map fun ch => ((β c).1, ch.sz, ch.cnt, (β c).2)

structure MemM (M : Nat → Prop) (E : Ent) (β : Nat → Nat × Nat) (O : Nat → List Nat) (σ : Store) (next : Nat) (w : World) : Prop where
  keys : ∀ c ch, lk c σ = some ch → c < next
  chunk : ∀ c ch, lk c σ = some ch → ChunkRel w M (envOf β σ) (β c).1 (β c).2 ch (O c)
  nodup : ∀ c ch, lk c σ = some ch → ((β c).1 :: O c).Nodup
  disj : ∀ c d ch dh, lk c σ = some ch → lk d σ = some dh → c ≠ d → ∀ b, b ∈ (β c).1 :: O c → b ∉ (β d).1 :: O d
  own : ∀ c ch, lk c σ = some ch → ∀ b, b ∈ (β c).1 :: O c → ¬ E.X b ∧ (E.Z b ∨ E.w0.heap.size ≤ b)
  os : w.os = E.w0.os
  tape : w.tape = E.w0.tape
  output : w.output = E.w0.output
  size : E.w0.heap.size ≤ w.heap.size
  frame : ∀ b, b < E.w0.heap.size → ¬ E.Z b → w.heap[b]? = E.w0.heap[b]?
  xlt : ∀ b, E.X b → b < E.w0.heap.size
  nxt : E.n0 ≤ next
  fix : ∀ c ch, c < E.n0 → lk c σ = some ch → β c = E.β0 c
abbrev Mem (E : Ent) (β : Nat → Nat × Nat) (O : Nat → List Nat) (σ : Store) (next : Nat) (w : World) : Prop := MemM (Mof E β O σ) E β O σ next w

structure RelM (M : Nat → Prop) (E : Ent) (β : Nat → Nat × Nat) (O : Nat → List Nat) (S : St) (a : Act) (w : World) : Prop where
  mem : MemM M E β O S.σ S.next w
  slots : ∀ t av, lk t S.T = some av → t < a.tmps.size ∧ RAV w M (envOf β S.σ) av (a.tmps.getD t undef)
  nodef : a.defers = []
abbrev Rel (E : Ent) (β : Nat → Nat × Nat) (O : Nat → List Nat) (S : St) (a : Act) (w : World) : Prop := RelM (Mof E β O S.σ) E β O S a w

def upd {α : Type} (f : Nat → α) (c : Nat) (x : α) : Nat → α := fun d => if d = c then x else f d
theorem upd_self {α : Type} (f : Nat → α) (c : Nat) (x : α) : upd f c x c = x := by simp [upd]
theorem upd_ne {α : Type} (f : Nat → α) {c d : Nat} (x : α) (h : d ≠ c) : upd f c x d = f d := by simp [upd, h]

mutual
theorem RPV.lt {w : World} {M : Nat → Prop} : ∀ {p : PV} {v : Value} {O : List Nat}, RPV w M p v O → ∀ b ∈ O, b < w.heap.size
  | _, _, _, .sc _, _, h => by simp at h
  | _, _, _, .nl, _, h => by simp at h
  | _, _, _, .nil, _, h => by simp at h
  | _, _, _, .sh .., _, h => by simp at h
  | _, _, _, .dd _, _, h => by simp at h
  | _, _, _, .un _ hb _ _ h, b, hO => (List.mem_cons.1 hO).elim (fun e => e ▸ blk_lt (blk_some hb)) (RLL.lt h b)
theorem RL.lt {w : World} {M : Nat → Prop} : ∀ {ps : List PV} {vs : List Value} {O : List Nat}, RL w M ps vs O → ∀ b ∈ O, b < w.heap.size
  | _, _, _, .nil, _, h => by simp at h
  | _, _, _, .cons h hr, b, hO => (List.mem_append.1 hO).elim (RPV.lt h b) (RL.lt hr b)
theorem RLL.lt {w : World} {M : Nat → Prop} : ∀ {sz : Nat} {es : List (List PV)} {vs : List Value} {O : List Nat}, RLL w M sz es vs O → ∀ b ∈ O, b < w.heap.size
  | _, _, _, _, .nil, _, h => by simp at h
  | _, _, _, _, .cons _ h hr, b, hO => (List.mem_append.1 hO).elim (RL.lt h b) (RLL.lt hr b)
end

section
variable {E : Ent} {β : Nat → Nat × Nat} {O : Nat → List Nat} {σ : Store} {next : Nat} {w : World}

theorem ChunkRel.blk {M : Nat → Prop} {env : EnvT} {b N : Nat} {ch : Chunk} {Oc : List Nat} (h : ChunkRel w M env b N ch Oc) : ∃ vs t, w.heap[b]? = some (.cells vs t (0, 0)) ∧ vs.size = N := by
  cases h with
  | box hb hN _ => exact ⟨_, _, hb, hN⟩
  | row hb hN _ => exact ⟨_, _, hb, hN⟩
  | foc hb hN => exact ⟨_, _, hb, hN⟩
theorem ChunkRel.lt {M : Nat → Prop} {env : EnvT} {b N : Nat} {ch : Chunk} {Oc : List Nat} (h : ChunkRel w M env b N ch Oc) : ∀ x ∈ b :: Oc, x < w.heap.size := by
  intro x hx
  rcases List.mem_cons.1 hx with rfl | hx
  · obtain ⟨vs, t, hb, _⟩ := h.blk; exact blk_lt (blk_some hb)
  · cases h with
    | box _ _ _ => simp at hx
    | row _ _ h => exact h.lt x hx
    | foc _ _ _ _ h1 h2 h3 => exact (List.mem_append.1 hx).elim (h1.lt x) (h3.lt x)
theorem ChunkRel.turn {w' : World} {M M' D : Nat → Prop} {env env' : EnvT} {b N : Nat} {ch : Chunk} {Oc : List Nat} (h : ChunkRel w M env b N ch Oc) (t : Turn w w' M M' D)
    (he : ∀ c x, env c = some x → env' c = some x) (hD : ∀ x ∈ Oc, ¬ D x) (hb' : w'.heap[b]? = w.heap[b]?) : ChunkRel w' M' env' b N ch Oc := by
  cases h with
  | box hb hN h => exact .box (hb'.trans hb) hN (h.turn t he)
  | row hb hN h => exact .row (hb'.trans hb) hN (h.turn t hD)
  | foc hb hN hi hl h1 h2 h3 => exact .foc (hb'.trans hb) hN hi hl (h1.turn t (fun b hb => hD b (List.mem_append_left _ hb))) (h2.turn t he) (h3.turn t (fun b hb => hD b (List.mem_append_right _ hb)))
theorem ChunkRel.kill {w' : World} {M M' D : Nat → Prop} {env env' : EnvT} {k b N : Nat} {ch : Chunk} {Oc : List Nat} (h : ChunkRel w M env b N ch Oc) (t : Turn w w' M M' D)
    (he : ∀ c, c ≠ k → env' c = env c) (hD : ∀ x ∈ Oc, ¬ D x) (hb' : w'.heap[b]? = w.heap[b]?) : ChunkRel w' M' env' b N (killK k ch) Oc := by
  cases h with
  | box hb hN h => exact .box (hb'.trans hb) hN (h.kill t he)
  | row hb hN h => exact .row (hb'.trans hb) hN (h.turn t hD)
  | foc hb hN hi hl h1 h2 h3 => exact .foc (hb'.trans hb) hN hi (by simpa using hl) (h1.turn t (fun b hb => hD b (List.mem_append_left _ hb))) (h2.kill t he) (h3.turn t (fun b hb => hD b (List.mem_append_right _ hb)))

theorem MemM.zz {M : Nat → Prop} (h : MemM M E β O σ next w) : ∀ c ch, lk c σ = some ch → E.Z (β c).1 ∨ E.w0.heap.size ≤ (β c).1 := fun c ch hc => (h.own c ch hc _ List.mem_cons_self).2
theorem MemM.less {M M' : Nat → Prop} (h : MemM M E β O σ next w) (hs : ∀ b, M' b → M b) : MemM M' E β O σ next w :=
  ⟨h.keys, fun c ch hc => (h.chunk c ch hc).turn (D := fun _ => False) ⟨fun _ _ _ h => h, fun _ h => h.elim, fun b hb => .inl (hs b hb)⟩ (fun _ _ h => h) (fun _ _ h => h) rfl, h.nodup, h.disj, h.own, h.os, h.tape, h.output, h.size, h.frame, h.xlt, h.nxt, h.fix⟩

/-! ### A new chunk -/
theorem alloc_heap {o : Obj} (k : Nat) (h : k < w.heap.size) : (w.alloc o).heap[k]? = w.heap[k]? := by
  show (w.heap.push o)[k]? = _
  rw [Array.getElem?_push, if_neg (by omega)]
theorem alloc_self {o : Obj} : (w.alloc o).heap[w.heap.size]? = some o := by
  show (w.heap.push o)[w.heap.size]? = _
  rw [Array.getElem?_push, if_pos rfl]
theorem blk_alloc {o : Obj} {b : Nat} {cs : List Value} (h : blk w b = some cs) : blk (w.alloc o) b = some cs := by
  have := blk_lt h
  unfold Aix.blk at *
  rw [alloc_heap b this]; exact h
theorem lk_new {ch : Chunk} (hk : ∀ c x, lk c σ = some x → c < next) (c : Nat) : lk c (σ ++ [(next, ch)]) = if c = next then some ch else lk c σ := by
  rw [lk_snoc]
  by_cases h : c = next
  · subst h
    cases e : lk c σ with
    | none => simp
    | some x => have := hk _ _ e; omega
  · simp only [h, if_false]
    cases e : lk c σ <;> rfl

theorem new_turn {M : Nat → Prop} (h : MemM M E β O σ next w) (hM : ∀ b, Mof E β O σ b → M b) {Oc : List Nat} (hOc : ∀ b ∈ Oc, M b) (ch : Chunk) (o : Obj) (N : Nat) : Turn w (w.alloc o) M (Mof E (upd β next (w.heap.size, N)) (upd O next Oc) (σ ++ [(next, ch)])) (fun _ => False) where
  same := fun b o' _ hb => by
    rw [alloc_heap b (by
      rcases Nat.lt_or_ge b w.heap.size with h | h
      · exact h
      · rw [Array.getElem?_eq_none h] at hb; cases hb)]
    exact hb
  within := fun _ h => h.elim
  grows := fun b hb => by
    rcases hb with hx | ⟨c, x, hc, e⟩
    · exact .inl (hM b (.inl hx))
    · rw [lk_new h.keys] at hc
      by_cases hcn : c = next
      · subst hcn
        rw [upd_self, upd_self] at e
        rcases List.mem_cons.1 e with rfl | e
        · refine .inr ?_
          dsimp only
          unfold Aix.blk
          rw [Array.getElem?_eq_none (Nat.le_refl _)]
        · exact .inl (hOc b e)
      · rw [if_neg hcn] at hc
        rw [upd_ne _ _ hcn, upd_ne _ _ hcn] at e
        exact .inl (hM b (.inr ⟨c, x, hc, e⟩))
theorem new_env {M : Nat → Prop} (h : MemM M E β O σ next w) (ch : Chunk) (N : Nat) : ∀ c x, envOf β σ c = some x → envOf (upd β next (w.heap.size, N)) (σ ++ [(next, ch)]) c = some x := by
  intro c x hc
  unfold envOf at *
  cases e : lk c σ with
  | none => rw [e] at hc; cases hc
  | some y =>
    have hne : c ≠ next := by have := h.keys _ _ e; omega
    rw [lk_new h.keys, if_neg hne, e, upd_ne _ _ hne]
    rw [e] at hc
    exact hc

theorem MemM.new {M : Nat → Prop} (h : MemM M E β O σ next w) (hM : ∀ b, Mof E β O σ b → M b) {ch : Chunk} {vs : Array Value} {t : TypeId} {Oc : List Nat}
    (hch : ∀ w' M' env', Turn w w' M M' (fun _ => False) → (∀ c x, envOf β σ c = some x → env' c = some x) → w'.heap[w.heap.size]? = some (.cells vs t (0, 0)) → ChunkRel w' M' env' w.heap.size vs.size ch Oc)
    (hOc : ∀ b ∈ Oc, M b) (hn : Oc.Nodup) (hlt : ∀ b ∈ Oc, b < w.heap.size) (hd : ∀ c x, lk c σ = some x → ∀ b ∈ Oc, b ∉ (β c).1 :: O c) (ho : ∀ b ∈ Oc, ¬ E.X b ∧ (E.Z b ∨ E.w0.heap.size ≤ b)) :
    Mem E (upd β next (w.heap.size, vs.size)) (upd O next Oc) (σ ++ [(next, ch)]) (next + 1) (w.alloc (.cells vs t (0, 0))) := by
  have hT := new_turn h hM hOc ch (.cells vs t (0, 0)) vs.size
  have hE := new_env h ch vs.size
  have hlk := lk_new (ch := ch) h.keys
  have old : ∀ c x, lk c σ = some x → c ≠ next := fun c x e => by have := h.keys _ _ e; omega
  have oldlt : ∀ c x, lk c σ = some x → ∀ b ∈ (β c).1 :: O c, b < w.heap.size := fun c x e => (h.chunk c x e).lt
  constructor
  · intro c x hc
    rw [hlk] at hc
    by_cases e : c = next
    · omega
    · rw [if_neg e] at hc; have := h.keys _ _ hc; omega
  · intro c x hc
    rw [hlk] at hc
    by_cases e : c = next
    · subst e
      rw [if_pos rfl] at hc
      obtain rfl := Option.some.inj hc
      rw [upd_self, upd_self]
      exact hch _ _ _ hT hE alloc_self
    · rw [if_neg e] at hc
      rw [upd_ne _ _ e, upd_ne _ _ e]
      exact (h.chunk c x hc).turn hT hE (fun _ _ h => h) (alloc_heap _ (oldlt c x hc _ List.mem_cons_self))
  · intro c x hc
    rw [hlk] at hc
    by_cases e : c = next
    · subst e
      rw [upd_self, upd_self]
      exact List.nodup_cons.2 ⟨fun hm => Nat.lt_irrefl _ (hlt _ hm), hn⟩
    · rw [if_neg e] at hc
      rw [upd_ne _ _ e, upd_ne _ _ e]
      exact h.nodup c x hc
  · intro c d x y hc hdd hne b hb
    rw [hlk] at hc hdd
    by_cases e : c = next
    · subst e
      rw [if_neg (Ne.symm hne)] at hdd
      rw [upd_self, upd_self] at hb
      rw [upd_ne _ _ (Ne.symm hne), upd_ne _ _ (Ne.symm hne)]
      rcases List.mem_cons.1 hb with rfl | hb
      · exact fun hm => Nat.lt_irrefl _ (oldlt d y hdd _ hm)
      · exact hd d y hdd b hb
    · rw [if_neg e] at hc
      rw [upd_ne _ _ e, upd_ne _ _ e] at hb
      by_cases e2 : d = next
      · subst e2
        rw [upd_self, upd_self]
        intro hm
        rcases List.mem_cons.1 hm with rfl | hm
        · exact Nat.lt_irrefl _ (oldlt c x hc _ hb)
        · exact hd c x hc b hm hb
      · rw [if_neg e2] at hdd
        rw [upd_ne _ _ e2, upd_ne _ _ e2]
        exact h.disj c d x y hc hdd hne b hb
  · intro c x hc b hb
    rw [hlk] at hc
    by_cases e : c = next
    · subst e
      rw [upd_self, upd_self] at hb
      rcases List.mem_cons.1 hb with rfl | hb
      · exact ⟨fun hx => by have := h.xlt _ hx; have := h.size; omega, .inr h.size⟩
      · exact ho b hb
    · rw [if_neg e] at hc
      rw [upd_ne _ _ e, upd_ne _ _ e] at hb
      exact h.own c x hc b hb
  · exact h.os
  · exact h.tape
  · exact h.output
  · exact Nat.le_trans h.size (by show _ ≤ (w.heap.push _).size; simp)
  · intro b hb hz
    rw [alloc_heap b (Nat.lt_of_lt_of_le hb h.size)]
    exact h.frame b hb hz
  · exact h.xlt
  · exact Nat.le_succ_of_le h.nxt
  · intro c x hlt hc
    rw [hlk] at hc
    have e : c ≠ next := by have := h.nxt; omega
    rw [if_neg e] at hc
    rw [upd_ne _ _ e]
    exact h.fix c x hlt hc

/-! ### A chunk that goes -/
theorem kill_lk (k c : Nat) : lk c ((rm k σ).map fun e => (e.1, killK k e.2)) = if c = k then none else (lk c σ).map (killK k) := by
  rw [lk_map (killK k)]
  by_cases h : c = k
  · subst h; rw [if_pos rfl, lk_rm_self]; rfl
  · rw [if_neg h, lk_rm_ne h]
theorem kill_M (k b : Nat) (hb : Mof E β O ((rm k σ).map fun e => (e.1, killK k e.2)) b) : Mof E β O σ b := by
  rcases hb with hx | ⟨c, x, hc, e⟩
  · exact .inl hx
  · rw [kill_lk] at hc
    by_cases hk : c = k
    · rw [if_pos hk] at hc; cases hc
    · rw [if_neg hk] at hc
      obtain ⟨y, hy, _⟩ := Option.map_eq_some_iff.1 hc
      exact .inr ⟨c, y, hy, e⟩
theorem kill_turn (k : Nat) : Turn w w (Mof E β O σ) (Mof E β O ((rm k σ).map fun e => (e.1, killK k e.2))) (fun _ => False) :=
  ⟨fun _ _ _ h => h, fun _ h => h.elim, fun b hb => .inl (kill_M k b hb)⟩
theorem killK_sz (k : Nat) (ch : Chunk) : (killK k ch).sz = ch.sz ∧ (killK k ch).cnt = ch.cnt := by
  cases ch <;> simp [killK, Chunk.sz, Chunk.cnt]
theorem kill_env (k : Nat) : ∀ c, c ≠ k → envOf β ((rm k σ).map fun e => (e.1, killK k e.2)) c = envOf β σ c := by
  intro c hc
  unfold envOf
  rw [kill_lk, if_neg hc]
  cases lk c σ with
  | none => rfl
  | some x => simp [killK_sz]
theorem MemM.kill {M : Nat → Prop} (h : MemM M E β O σ next w) (k : Nat) : MemM M E β O ((rm k σ).map fun e => (e.1, killK k e.2)) next w := by
  have old : ∀ c x, lk c ((rm k σ).map fun e => (e.1, killK k e.2)) = some x → ∃ y, lk c σ = some y ∧ x = killK k y := by
    intro c x hc
    rw [kill_lk] at hc
    by_cases e : c = k
    · rw [if_pos e] at hc; cases hc
    · rw [if_neg e] at hc
      obtain ⟨y, hy, rfl⟩ := Option.map_eq_some_iff.1 hc
      exact ⟨y, hy, rfl⟩
  constructor
  · intro c x hc; obtain ⟨y, hy, _⟩ := old c x hc; exact h.keys c y hy
  · intro c x hc
    obtain ⟨y, hy, rfl⟩ := old c x hc
    exact (h.chunk c y hy).kill Turn.refl (kill_env k) (fun _ _ h => h) rfl
  · intro c x hc; obtain ⟨y, hy, _⟩ := old c x hc; exact h.nodup c y hy
  · intro c d x z hc hd; obtain ⟨y, hy, _⟩ := old c x hc; obtain ⟨u, hu, _⟩ := old d z hd; exact h.disj c d y u hy hu
  · intro c x hc; obtain ⟨y, hy, _⟩ := old c x hc; exact h.own c y hy
  · exact h.os
  · exact h.tape
  · exact h.output
  · exact h.size
  · exact h.frame
  · exact h.xlt
  · exact h.nxt
  · intro c x hlt hc; obtain ⟨y, hy, _⟩ := old c x hc; exact h.fix c y hlt hy

/-! ### A chunk that turns in its place -/
theorem setRow_turn_same {b0 : Nat} {vs : Array Value} {t : TypeId} : ∀ (b : Nat) (o : Obj), ¬ b = b0 → w.heap[b]? = some o → (World.setRow w b0 vs t).heap[b]? = some o := fun b o hb e => by
  rw [setRow_heap b hb]; exact e
theorem put_M {M : Nat → Prop} (hM : ∀ b, Mof E β O σ b → M b) {k : Nat} {ch ch' : Chunk} (hk : lk k σ = some ch) {Ok : List Nat} (hOk : ∀ b ∈ Ok, M b) (b : Nat) (hb : Mof E β (upd O k Ok) (put k ch' σ) b) : M b := by
  rcases hb with hx | ⟨c, x, hc, e⟩
  · exact hM b (.inl hx)
  · by_cases hck : c = k
    · subst hck
      rw [upd_self] at e
      rcases List.mem_cons.1 e with rfl | e
      · exact hM _ (.inr ⟨c, ch, hk, List.mem_cons_self⟩)
      · exact hOk b e
    · rw [lk_put_ne _ hck] at hc
      rw [upd_ne _ _ hck] at e
      exact hM b (.inr ⟨c, x, hc, e⟩)
theorem put_turn {M : Nat → Prop} (hM : ∀ b, Mof E β O σ b → M b) {k : Nat} {ch ch' : Chunk} (hk : lk k σ = some ch) {Ok : List Nat} (hOk : ∀ b ∈ Ok, M b) {vs : Array Value} {t : TypeId} :
    Turn w (World.setRow w (β k).1 vs t) M (Mof E β (upd O k Ok) (put k ch' σ)) (fun b => b = (β k).1) where
  same := setRow_turn_same
  within := fun b e => hM b (.inr ⟨k, ch, hk, by rw [e]; exact List.mem_cons_self⟩)
  grows := fun b hb => .inl (put_M hM hk hOk b hb)
theorem put_env {k : Nat} {ch ch' : Chunk} (hk : lk k σ = some ch) (hs : ch'.sz = ch.sz) (hc : ch'.cnt = ch.cnt) : ∀ c x, envOf β σ c = some x → envOf β (put k ch' σ) c = some x := by
  intro c x h
  unfold envOf at *
  by_cases hck : c = k
  · subst hck; rw [lk_put_self]; rw [hk] at h; simp only [Option.map_some] at h ⊢; rw [hs, hc]; exact h
  · rw [lk_put_ne _ hck]; exact h
theorem MemM.put {M : Nat → Prop} (h : MemM M E β O σ next w) (hM : ∀ b, Mof E β O σ b → M b) {k : Nat} {ch ch' : Chunk} (hk : lk k σ = some ch) (hs : ch'.sz = ch.sz) (hcn : ch'.cnt = ch.cnt) {vs : Array Value} {t : TypeId} {Ok : List Nat}
    (hsz : vs.size = (β k).2) (hOk : ∀ b ∈ Ok, M b)
    (hch : ChunkRel (World.setRow w (β k).1 vs t) (Mof E β (upd O k Ok) (put k ch' σ)) (envOf β (put k ch' σ)) (β k).1 (β k).2 ch' Ok)
    (hn : ((β k).1 :: Ok).Nodup) (hd : ∀ c x, c ≠ k → lk c σ = some x → ∀ b ∈ Ok, b ∉ (β c).1 :: O c) (ho : ∀ b ∈ Ok, ¬ E.X b ∧ (E.Z b ∨ E.w0.heap.size ≤ b)) :
    Mem E β (upd O k Ok) (Aix.put k ch' σ) next (World.setRow w (β k).1 vs t) := by
  have hT := put_turn (E := E) (w := w) (β := β) (ch' := ch') (vs := vs) (t := t) hM hk hOk
  have hE := put_env (β := β) (ch' := ch') hk hs hcn
  have hblt : (β k).1 < w.heap.size := (h.chunk k ch hk).lt _ List.mem_cons_self
  constructor
  · intro c x hc
    by_cases e : c = k
    · subst e; exact h.keys c ch hk
    · rw [lk_put_ne _ e] at hc; exact h.keys c x hc
  · intro c x hc
    by_cases e : c = k
    · subst e
      rw [lk_put_self] at hc
      obtain rfl := Option.some.inj hc
      rw [upd_self]
      exact hch
    · rw [lk_put_ne _ e] at hc
      rw [upd_ne _ _ e]
      have hne : ∀ y ∈ (β c).1 :: O c, y ≠ (β k).1 := fun y hy e' => h.disj c k x ch hc hk e y hy (by rw [e']; exact List.mem_cons_self)
      exact (h.chunk c x hc).turn hT hE (fun y hy => hne y (List.mem_cons_of_mem _ hy)) (setRow_heap _ (hne _ List.mem_cons_self))
  · intro c x hc
    by_cases e : c = k
    · subst e; rw [upd_self]; exact hn
    · rw [lk_put_ne _ e] at hc; rw [upd_ne _ _ e]; exact h.nodup c x hc
  · intro c d x y hc hdd hne b hb
    by_cases e : c = k
    · subst e
      rw [upd_self] at hb
      rw [lk_put_ne _ (Ne.symm hne)] at hdd
      rw [upd_ne _ _ (Ne.symm hne)]
      rcases List.mem_cons.1 hb with rfl | hb
      · exact h.disj c d ch y hk hdd hne _ List.mem_cons_self
      · exact hd d y (Ne.symm hne) hdd b hb
    · rw [lk_put_ne _ e] at hc
      rw [upd_ne _ _ e] at hb
      by_cases e2 : d = k
      · subst e2
        rw [upd_self]
        intro hm
        rcases List.mem_cons.1 hm with rfl | hm
        · exact h.disj c d x ch hc hk hne _ hb List.mem_cons_self
        · exact hd c x e hc b hm hb
      · rw [lk_put_ne _ e2] at hdd
        rw [upd_ne _ _ e2]
        exact h.disj c d x y hc hdd hne b hb
  · intro c x hc b hb
    by_cases e : c = k
    · subst e
      rw [upd_self] at hb
      rcases List.mem_cons.1 hb with rfl | hb
      · exact h.own c ch hk _ List.mem_cons_self
      · exact ho b hb
    · rw [lk_put_ne _ e] at hc
      rw [upd_ne _ _ e] at hb
      exact h.own c x hc b hb
  · exact h.os
  · exact h.tape
  · exact h.output
  · exact Nat.le_trans h.size (by simp [World.setRow])
  · intro b hb hz
    rw [setRow_heap]
    · exact h.frame b hb hz
    · intro e
      rcases h.zz k ch hk with hz' | hge
      · exact hz (e ▸ hz')
      · omega
  · exact h.xlt
  · exact h.nxt
  · intro c x hlt hc
    by_cases e : c = k
    · subst e; exact h.fix c ch hlt hk
    · rw [lk_put_ne _ e] at hc; exact h.fix c x hlt hc
end
end Go.Aix
