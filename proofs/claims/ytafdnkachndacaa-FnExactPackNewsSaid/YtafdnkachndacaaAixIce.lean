/-
  THE CALCULUS, TWENTY-SECOND TEXT: a row that is written no more becomes a value.
-/
import Derived.Test.YtafdnkachndacaaAixAdopt
set_option linter.unusedSimpArgs false
set_option linter.unusedVariables false
namespace Go.Aix
section
variable (I : Ops) (c sz : Nat) (es : List (List PV))
def iceC : Cell → Cell
  | .ptr d i j => match Nat.beq c d with
    | true => .top
    | false => .ptr d i j
  | .arr d o n => match Nat.beq c d with
    | true => .pv (.sl false sz (I.downs (I.ext es o n)))
    | false => .arr d o n
  | .fn f caps => match caps.any (fun x => Nat.beq c x.1) with
    | true => .top
    | false => .fn f caps
  | x => x
def iceA : AV → AV
  | .one x => .one (iceC I c sz es x)
  | .ag xs => .ag (xs.map (iceC I c sz es))
  | .tp vs => .tp (vs.map fun v => (v.1, v.2.map (iceC I c sz es)))
def iceK : Chunk → Chunk
  | .box cs => .box (cs.map (iceC I c sz es))
  | .row sz es => .row sz es
  | .foc sz' es' i cs => .foc sz' es' i (cs.map (iceC I c sz es))
def ice (S : St) : St := ⟨S.T.map fun e => (e.1, iceA I c sz es e.2), (rm c S.σ).map fun e => (e.1, iceK I c sz es e.2), S.next⟩
end

section
variable {P : Program} {E : Ent} {β : Nat → Nat × Nat} {O : Nat → List Nat} {S : St} {a : Act} {w : World} {c sz : Nat} {es : List (List PV)} {M M' : Nat → Prop} {env env' : EnvT}

theorem ice_lk (k : Nat) : lk k (ice real c sz es S).σ = if k = c then none else (lk k S.σ).map (iceK real c sz es) := by
  show lk k ((rm c S.σ).map fun e => (e.1, iceK real c sz es e.2)) = _
  rw [lk_map (iceK real c sz es)]
  by_cases h : k = c
  · subst h; rw [if_pos rfl, lk_rm_self]; rfl
  · rw [if_neg h, lk_rm_ne h]
theorem iceK_sz (ch : Chunk) : (iceK real c sz es ch).sz = ch.sz ∧ (iceK real c sz es ch).cnt = ch.cnt := by
  cases ch <;> simp [iceK, Chunk.sz, Chunk.cnt]

def Iced (w : World) (M' : Nat → Prop) (b sz N : Nat) (es : List (List PV)) : Prop := ∀ o n off cap, o + n ≤ es.length → n ≤ cap → (cap = 0 ∨ (off = o * sz ∧ o * sz + cap * sz ≤ N)) →
  RPV w M' (.sl false sz (downs ((es.drop o).take n))) (.slice (some ⟨b, off, none⟩) n cap) []

theorem RCell.ice {b N : Nat} (t : Turn w w M M' (fun _ => False)) (hc : env c = some (b, sz, es.length, N)) (hi : Iced w M' b sz N es) (he : ∀ d, d ≠ c → env' d = env d) {x : Cell} {v : Value} (h : RCell w M env x v) : RCell w M' env' (iceC real c sz es x) v := by
  have h1 := h.oneV
  cases h with
  | pv h => exact .pv (h.turn t (fun _ _ h => h))
  | ptr h2 hlt =>
    rename_i d i j b' sz' n N'
    show RCell w M' env' (match Nat.beq c d with | true => .top | false => .ptr d i j) _
    cases hb : Nat.beq c d with
    | true => exact .top h1
    | false => exact .ptr (by rw [he d (fun e => by subst e; simp at hb)]; exact h2) hlt
  | arr h2 hm hn hcap =>
    rename_i d o n b' off sz' m N' cap
    show RCell w M' env' (match Nat.beq c d with | true => .pv (.sl false sz (downs ((es.drop o).take n))) | false => .arr d o n) _
    cases hb : Nat.beq c d with
    | true =>
      have := beq_eq hb
      subst this
      rw [hc] at h2
      simp only [Option.some.injEq, Prod.mk.injEq] at h2
      obtain ⟨rfl, rfl, rfl, rfl⟩ := h2
      exact .pv (hi o n off cap hm hn hcap)
    | false => exact .arr (by rw [he d (fun e => by subst e; simp at hb)]; exact h2) hm hn hcap
  | ep hM hb h => exact .ep (fun h' => (t.grows _ h').elim hM (fun e => by rw [hb] at e; cases e)) hb (h.turn t (fun _ _ h => h))
  | fn h2 =>
    rename_i f caps vs
    show RCell w M' env' (match caps.any (fun x => Nat.beq c x.1) with | true => .top | false => .fn f caps) _
    cases hb : caps.any (fun x => Nat.beq c x.1) with
    | true => exact .top h1
    | false => exact .fn (h2.kill he hb)
  | top h => exact .top h
theorem RCs.ice {b N : Nat} (t : Turn w w M M' (fun _ => False)) (hc : env c = some (b, sz, es.length, N)) (hi : Iced w M' b sz N es) (he : ∀ d, d ≠ c → env' d = env d) : ∀ {cs : List Cell} {vs : List Value}, RCs w M env cs vs → RCs w M' env' (cs.map (iceC real c sz es)) vs
  | _, _, .nil => .nil
  | _, _, .cons h hr => .cons (h.ice t hc hi he) (RCs.ice t hc hi he hr)
theorem RGs.ice {b N : Nat} (t : Turn w w M M' (fun _ => False)) (hc : env c = some (b, sz, es.length, N)) (hi : Iced w M' b sz N es) (he : ∀ d, d ≠ c → env' d = env d) : ∀ {l : List (Bool × List Cell)} {vs : List Value}, RGs w M env l vs → RGs w M' env' (l.map fun v => (v.1, v.2.map (iceC real c sz es))) vs
  | _, _, .nil => .nil
  | _, _, .cons (g := g) h hr => by
    refine .cons ?_ (RGs.ice t hc hi he hr)
    cases g with
    | true => obtain ⟨vs, h1, h2⟩ := h; exact ⟨vs, h1, h2.ice t hc hi he⟩
    | false => obtain ⟨x, rfl, h2⟩ := h; exact ⟨_, rfl, h2.ice t hc hi he⟩
theorem RAV.ice {b N : Nat} (t : Turn w w M M' (fun _ => False)) (hc : env c = some (b, sz, es.length, N)) (hi : Iced w M' b sz N es) (he : ∀ d, d ≠ c → env' d = env d) {x : AV} {v : Value} (h : RAV w M env x v) : RAV w M' env' (iceA real c sz es x) v := by
  cases h with
  | one h => exact .one (h.ice t hc hi he)
  | ag h => exact .ag (h.ice t hc hi he)
  | tp h => exact .tp (h.ice t hc hi he)
theorem ChunkRel.ice {b N bl Nl : Nat} {ch : Chunk} {Oc : List Nat} (t : Turn w w M M' (fun _ => False)) (hc : env c = some (b, sz, es.length, N)) (hi : Iced w M' b sz N es) (he : ∀ d, d ≠ c → env' d = env d) (h : ChunkRel w M env bl Nl ch Oc) : ChunkRel w M' env' bl Nl (iceK real c sz es ch) Oc := by
  cases h with
  | box hb hN h => exact .box hb hN (h.ice t hc hi he)
  | row hb hN h => exact .row hb hN (h.turn t (fun _ _ h => h))
  | foc hb hN hi' hl h1 h2 h3 => exact .foc hb hN hi' (by simpa using hl) (h1.turn t (fun _ _ h => h)) (h2.ice t hc hi he) (h3.turn t (fun _ _ h => h))

theorem Rel.ice (h : Rel E β O S a w) (hlk : lk c S.σ = some (.row sz es)) : Rel E β O (ice real c sz es S) a w ∧ (∀ {x : AV} {v : Value}, RAV w (Mof E β O S.σ) (envOf β S.σ) x v → RAV w (Mof E β O (Aix.ice real c sz es S).σ) (envOf β (Aix.ice real c sz es S).σ) (iceA real c sz es x) v) := by
  have hcr := h.mem.chunk c _ hlk
  have hown := h.mem.own c _ hlk
  have hdis := h.mem.disj c
  generalize hO : O c = Oc at hcr hown
  have old : ∀ k x, lk k (Aix.ice real c sz es S).σ = some x → k ≠ c ∧ ∃ y, lk k S.σ = some y ∧ x = iceK real c sz es y := by
    intro k x hk
    rw [ice_lk] at hk
    by_cases e : k = c
    · rw [if_pos e] at hk; cases hk
    · rw [if_neg e] at hk
      obtain ⟨y, hy, rfl⟩ := Option.map_eq_some_iff.1 hk
      exact ⟨e, y, hy, rfl⟩
  have hMs : ∀ b, Mof E β O (Aix.ice real c sz es S).σ b → Mof E β O S.σ b := by
    rintro b (hx | ⟨d, x, hd, e⟩)
    · exact .inl hx
    · obtain ⟨_, y, hy, _⟩ := old d x hd
      exact .inr ⟨d, y, hy, e⟩
  have t : Turn w w (Mof E β O S.σ) (Mof E β O (Aix.ice real c sz es S).σ) (fun _ => False) := ⟨fun _ _ _ h => h, fun _ h => h.elim, fun b hb => .inl (hMs b hb)⟩
  have hc : envOf β S.σ c = some ((β c).1, sz, es.length, (β c).2) := by unfold envOf; rw [hlk]; rfl
  have he : ∀ d, d ≠ c → envOf β (Aix.ice real c sz es S).σ d = envOf β S.σ d := by
    intro d hd
    unfold envOf
    rw [ice_lk, if_neg hd]
    cases lk d S.σ with
    | none => rfl
    | some x => simp [iceK_sz]
  have hnO : ∀ b ∈ (β c).1 :: Oc, ¬ Mof E β O (Aix.ice real c sz es S).σ b := by
    rintro b hb (hx | ⟨d, x, hd, e⟩)
    · exact (hown _ hb).1 hx
    · obtain ⟨hdc, y, hy, _⟩ := old d x hd
      exact h.mem.disj d c y _ hy hlk hdc _ e (by rw [hO]; exact hb)
  have hnb := hnO _ List.mem_cons_self
  have hi : Iced w (Mof E β O (Aix.ice real c sz es S).σ) (β c).1 sz (β c).2 es := by
    cases hcr with
    | row hb' hN' hR =>
      rename_i vs ty
      intro o n off cap hm hn hcap
      obtain ⟨A, B, C, hABC, hext⟩ := hR.ext o n
      have hlen : ((es.drop o).take n).length = n := by rw [List.length_take, List.length_drop]; omega
      have hd := RLL.downs (hext.turn t (fun _ _ h => h)) (fun x hx => hnO x (List.mem_cons_of_mem _ (by rw [hABC]; simp [hx])))
      have hdl : (downs ((es.drop o).take n)).length = n := by rw [downs_length, hlen]
      rcases Nat.eq_zero_or_pos n with h0 | hpos
      · subst h0
        have : downs ((es.drop o).take 0) = [] := by simp [downs]
        rw [this]
        exact .nil
      · rcases hcap with h0 | ⟨rfl, hroom⟩
        · omega
        · have hd' := hd
          have := RPV.sh (w := w) (M := Mof E β O (Aix.ice real c sz es S).σ) (sz := sz) (b := (β c).1) (off := o * sz) (cap := cap) (es := downs ((es.drop o).take n)) (cs := vs.toList)
            (by rw [← List.length_pos_iff, hdl]; exact hpos) hnb (blk_some hb') (by rw [hdl]; exact hn) hd'
          rw [hdl] at this
          exact this
  refine ⟨⟨?_, ?_, h.nodef⟩, fun hv => hv.ice t hc hi he⟩
  · constructor
    · intro k x hk; obtain ⟨_, y, hy, _⟩ := old k x hk; exact h.mem.keys k y hy
    · intro k x hk
      obtain ⟨_, y, hy, rfl⟩ := old k x hk
      exact (h.mem.chunk k y hy).ice t hc hi he
    · intro k x hk; obtain ⟨_, y, hy, _⟩ := old k x hk; exact h.mem.nodup k y hy
    · intro k d x z hk hd; obtain ⟨_, y, hy, _⟩ := old k x hk; obtain ⟨_, u, hu, _⟩ := old d z hd; exact h.mem.disj k d y u hy hu
    · intro k x hk; obtain ⟨_, y, hy, _⟩ := old k x hk; exact h.mem.own k y hy
    · exact h.mem.os
    · exact h.mem.tape
    · exact h.mem.output
    · exact h.mem.size
    · exact h.mem.frame
    · exact h.mem.xlt
    · exact h.mem.nxt
    · intro k x hlt hk; obtain ⟨_, y, hy, _⟩ := old k x hk; exact h.mem.fix k y hlt hy
  · intro q av hq
    have hq' : lk q (S.T.map fun e => (e.1, iceA real c sz es e.2)) = some av := hq
    rw [lk_map (iceA real c sz es)] at hq'
    obtain ⟨av0, h0, rfl⟩ := Option.map_eq_some_iff.1 hq'
    obtain ⟨h1, h2⟩ := h.slots q av0 h0
    exact ⟨h1, h2.ice t hc hi he⟩
theorem RAVs.ice (hR : ∀ {x : AV} {v : Value}, RAV w M env x v → RAV w M' env' (iceA real c sz es x) v) : ∀ {l : List AV} {vs : List Value}, RAVs w M env l vs → RAVs w M' env' (l.map (iceA real c sz es)) vs
  | _, _, .nil => .nil
  | _, _, .cons h hr => .cons (hR h) (RAVs.ice hR hr)

/-- The first row among these. -/
def arrCs : List Cell → Option Nat
  | [] => none
  | x :: r => match x with
    | .arr c _ _ => some c
    | _ => arrCs r
def arrAs : List AV → Option Nat
  | [] => none
  | x :: r => match x with
    | .one x => match arrCs [x] with
      | some c => some c
      | none => arrAs r
    | .ag xs => match arrCs xs with
      | some c => some c
      | none => arrAs r
    | .tp _ => arrAs r
def iceArgs (I : Ops) : Nat → List AV → St → R (List AV × St)
  | 0, _, _ => .stuck
  | n + 1, args, S => match arrAs args with
    | none => .ok (args, S)
    | some c => match lk c S.σ with
      | some (.row sz es) => iceArgs I n (args.map (iceA I c sz es)) (ice I c sz es S)
      | _ => .stuck
theorem iceArgs_sound : ∀ {n : Nat} {args args' : List AV} {S S' : St} {vs : List Value}, Rel E β O S a w → RAVs w (Mof E β O S.σ) (envOf β S.σ) args vs → (iceArgs real n args S).val = some (args', S') →
    Rel E β O S' a w ∧ RAVs w (Mof E β O S'.σ) (envOf β S'.σ) args' vs
  | 0, _, _, _, _, _, _, _, e => by simp [iceArgs, val_stuck] at e
  | n + 1, args, args', S, S', vs, h, hv, e => by
    unfold iceArgs at e
    split at e
    · simp only [val_ok, Option.some.injEq, Prod.mk.injEq] at e
      obtain ⟨rfl, rfl⟩ := e
      exact ⟨h, hv⟩
    · split at e
      · rename_i sz es hlk
        obtain ⟨h1, h2⟩ := h.ice hlk
        exact iceArgs_sound h1 (RAVs.ice h2 hv) e
      · simp [val_stuck] at e

/-- A call whose rows are written no more; it hands back memory of its own. -/
def callIce (I : Ops) (F : List AV → R (AV × Store × Nat)) (args : List AV) (S : St) : R (AV × St) := do
  let (as, S) ← iceArgs I 20 args S
  callPlain F as S
theorem callIce_ok {g : FuncId} {F : List AV → R (AV × Store × Nat)} (hF : ∀ args r σ n, (F args).val = some (r, σ, n) → Ok0 P g args r σ n) {args : List AV} {r : AV} {S' : St} (e : (callIce real F args S).val = some (r, S')) : CallOk P g args S r S' := by
  intro E β O a w vs h hv
  unfold callIce at e
  rw [val_do] at e
  obtain ⟨⟨as, S1⟩, h1, e⟩ := some_bind e
  obtain ⟨h2, h3⟩ := iceArgs_sound h hv h1
  exact callPlain_ok hF e E β O a w vs h2 h3
theorem EntryOk.ice {g : FuncId} {F : List AV → R (AV × Store × Nat)} (he : Enters P g) (hF : ∀ args r σ n, (F args).val = some (r, σ, n) → Ok0 P g args r σ n) {I : Ops} (hI : I = real) : EntryOk P g (callIce I F) := by
  subst hI
  exact ⟨he, fun _ _ _ _ e => callIce_ok hF e⟩
end
end Go.Aix
