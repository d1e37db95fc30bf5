/-
  THE CALCULUS, NINETEENTH TEXT: what is shown of a function, and what its callers have of it.
-/
import Derived.Test.YtafdnkachndacaaAixNorm
set_option linter.unusedSimpArgs false
set_option linter.unusedVariables false
namespace Go.Aix

def Ent0 (w : World) (Xs : Nat → Prop) : Ent := ⟨w, Xs, fun _ => False, 0, fun _ => (0, 0)⟩

/-- Of a function that is handed nothing to write: what it hands back, with memory of its own. -/
def Ok0 (P : Program) (g : FuncId) (args : List AV) (r : AV) (σ : Store) (n : Nat) : Prop :=
  ∀ (w : World) (Xs : Nat → Prop) (vs : List Value), (∀ b, Xs b → b < w.heap.size) → RAVs w Xs (fun _ => none) args vs →
    Calls P g vs.toArray w fun
      | .returned u, w' => ∃ β O, Mem (Ent0 w Xs) β O σ n w' ∧ RAV w' (Mof (Ent0 w Xs) β O σ) (envOf β σ) r u
      | _, _ => False

/-- The slots of a call at its beginning. -/
def argT : Nat → List AV → List (Nat × AV)
  | _, [] => []
  | k, x :: r => (k, x) :: argT (k + 1) r
def S0 (args : List AV) : St := ⟨argT 0 args, [], 0⟩
def lenA0 : List AV → Nat
  | [] => 0
  | _ :: r => lenA0 r + 1

/-- What is handed back, in its plain form. -/
def endR (r : AV) (S : St) : R (AV × Store × Nat) := match reach S.σ 1000 r.refs [] 0 with
  | (ρ, nx) => match renOk 0 nx ρ with
    | true => .ok (renA ρ r, renS ρ S.σ ρ, nx)
    | false => .stuck

section
variable {P : Program} {X : Ctx} {Y : CallsA} {f : FuncId} {fn : Func} {b : Code} {E : Ent} {Rr : Value → World → Prop} {β : Nat → Nat × Nat} {O : Nat → List Nat} {S : St} {a : Act} {w : World}
  {M M' : Nat → Prop} {env env' : EnvT}

/-- What the end of a call must show. -/
def Back (E : Ent) (r : AV) (σ : Store) (n : Nat) (u : Value) (w : World) : Prop := ∃ β O, Mem E β O σ n w ∧ RAV w (Mof E β O σ) (envOf β σ) r u

theorem Ended_of {r r' : AV} {σ : Store} {n : Nat} (h0 : E.n0 = 0) (e : (endR r S).val = some (r', σ, n)) : Ended E (Back E r' σ n) r S := by
  intro β O a w u h hr
  unfold endR at e
  generalize hz : reach S.σ 1000 r.refs [] 0 = z at e
  simp only at e
  split at e
  · rename_i hok
    simp only [val_ok, Option.some.injEq, Prod.mk.injEq] at e
    obtain ⟨rfl, rfl, rfl⟩ := e
    obtain ⟨β', O', h1, h2⟩ := h.ren (live := []) (by rw [h0]; exact hok)
    exact ⟨β', O', h1.mem, h2 hr⟩
  · simp [val_stuck] at e

theorem argT_lk : ∀ {l : List AV} {k t : Nat} {x : AV}, lk t (argT k l) = some x → k ≤ t ∧ l[t - k]? = some x
  | [], k, t, x, h => by simp [argT, lk] at h
  | y :: l, k, t, x, h => by
    unfold argT lk at h
    cases hb : Nat.beq t k with
    | true =>
      rw [hb] at h
      have := beq_eq hb
      subst this
      simp only [Option.some.injEq] at h
      subst h
      exact ⟨Nat.le_refl _, by simp⟩
    | false =>
      rw [hb] at h
      obtain ⟨h1, h2⟩ := argT_lk h
      refine ⟨by omega, ?_⟩
      rw [show t - k = (t - (k + 1)) + 1 from by omega, List.getElem?_cons_succ]
      exact h2
theorem RAVs.get : ∀ {l : List AV} {vs : List Value}, RAVs w M env l vs → ∀ (i : Nat) (x : AV), l[i]? = some x → ∃ v, vs[i]? = some v ∧ RAV w M env x v
  | _, _, .nil, i, x, hx => by simp at hx
  | _, _, .cons h hr, 0, x, hx => by
    simp only [List.getElem?_cons_zero, Option.some.injEq] at hx
    subst hx
    exact ⟨_, rfl, h⟩
  | _, _, .cons h hr, i + 1, x, hx => by
    simp only [List.getElem?_cons_succ] at hx ⊢
    exact RAVs.get hr i x hx
theorem RAVs.length : ∀ {l : List AV} {vs : List Value}, RAVs w M env l vs → l.length = vs.length
  | _, _, .nil => rfl
  | _, _, .cons _ hr => congrArg (· + 1) (RAVs.length hr)
theorem lenA0_eq : ∀ (l : List AV), lenA0 l = l.length
  | [] => rfl
  | _ :: l => by simp [lenA0, lenA0_eq l]

/-- A function is as its body shows. -/
theorem Ok0_of {args : List AV} {r : AV} {σ : Store} {n : Nat} (hf : P.funcs[f]? = some fn) (hb : fn.body = some b) (hn : Nat.ble (lenA0 args) fn.ntmps = true)
    (h : ∀ w Xs, W P f fn (Ent0 w Xs) (Back (Ent0 w Xs) r σ n) (place b [] []) (S0 args)) : Ok0 P f args r σ n := by
  intro w Xs vs hX hv
  have hl := hv.length
  rw [lenA0_eq] at hn
  have hn := Nat.le_of_ble_eq_true hn
  have hm : Mem (Ent0 w Xs) (fun _ => (0, 0)) (fun _ => []) [] 0 w := by
    refine ⟨?_, ?_, ?_, ?_, ?_, rfl, rfl, rfl, Nat.le_refl _, fun _ _ _ => rfl, hX, Nat.le_refl _, ?_⟩ <;> (intros; simp [lk] at *)
  have hM : ∀ b, Mof (Ent0 w Xs) (fun _ => (0, 0)) (fun _ => []) [] b ↔ Xs b := by
    intro b
    constructor
    · rintro (h | ⟨c, ch, hc, _⟩)
      · exact h
      · simp [lk] at hc
    · exact fun h => .inl h
  have t : Turn w w Xs (Mof (Ent0 w Xs) (fun _ => (0, 0)) (fun _ => []) []) (fun _ => False) := ⟨fun _ _ _ h => h, fun _ h => h.elim, fun b hb => .inl ((hM b).1 hb)⟩
  have hsz : (vs.toArray ++ Array.replicate (fn.ntmps - vs.toArray.size) undef).size = fn.ntmps := by simp; omega
  have hR : Rel (Ent0 w Xs) (fun _ => (0, 0)) (fun _ => []) (S0 args) { tmps := vs.toArray ++ Array.replicate (fn.ntmps - vs.toArray.size) undef, defers := [] } w := by
    refine ⟨hm, ?_, rfl⟩
    intro q av hq
    obtain ⟨_, h2⟩ := argT_lk hq
    rw [Nat.sub_zero] at h2
    obtain ⟨v, h3, h4⟩ := hv.get q av h2
    have hlt : q < vs.length := (List.getElem?_eq_some_iff.1 h3).1
    refine ⟨by rw [hsz]; omega, ?_⟩
    have : (vs.toArray ++ Array.replicate (fn.ntmps - vs.toArray.size) undef).getD q undef = v := by
      have h5 : (vs.toArray ++ Array.replicate (fn.ntmps - vs.toArray.size) undef)[q]? = some v := by
        rw [Array.getElem?_append_left (by simpa using hlt)]
        simpa using h3
      rw [Array.getD_eq_getD_getElem?, h5]; rfl
    show RAV w _ _ av _
    rw [this]
    exact h4.turn t (fun _ _ h => by cases h)
  have hat := h w Xs _ _ _ w hR hsz
  intro cs
  obtain ⟨v, w', fr, hB, hs, h1, h2⟩ := hat cs
  have hp : place b [] [] = [.code b] := by cases b <;> rfl
  have henter : Frame.enter P f vs.toArray .normal = (base f).at { tmps := vs.toArray ++ Array.replicate (fn.ntmps - vs.toArray.size) undef, defers := [] } [.code b] := by
    simp [Frame.enter, Frame.at, hf, hb, base]
  rw [hp] at hs
  rw [henter]
  exact ⟨.returned v, w', fr, hB, hs, h1, h2⟩

/-! ### The caller's side -/
/-- A world that has only grown. -/
structure Grown (w w' : World) : Prop where
  same : ∀ b, b < w.heap.size → w'.heap[b]? = w.heap[b]?
  size : w.heap.size ≤ w'.heap.size
  os : w'.os = w.os
  tape : w'.tape = w.tape
  output : w'.output = w.output
theorem Grown.blk {w' : World} (g : Grown w w') {b : Nat} {l : List Value} (h : blk w b = some l) : blk w' b = some l := by
  have := blk_lt h
  unfold Aix.blk at *
  rw [g.same b this]; exact h
theorem Grown.heap {w' : World} (g : Grown w w') {b : Nat} {o : Obj} (h : w.heap[b]? = some o) : w'.heap[b]? = some o := by
  rcases Nat.lt_or_ge b w.heap.size with h' | h'
  · rw [g.same b h']; exact h
  · rw [Array.getElem?_eq_none h'] at h; cases h
theorem Mof_lt {M : Nat → Prop} {σ : Store} {next : Nat} (h : MemM M E β O σ next w) {b : Nat} (hb : Mof E β O σ b) : b < w.heap.size := by
  rcases hb with hX | ⟨c, x, hc, e⟩
  · exact Nat.lt_of_lt_of_le (h.xlt b hX) h.size
  · exact (h.chunk c x hc).lt _ e
theorem Grown.of {w' : World} {Xs : Nat → Prop} {σ : Store} {n : Nat} (h : Mem (Ent0 w Xs) β O σ n w') : Grown w w' :=
  ⟨fun b hb => h.frame b hb (fun h => h), h.size, h.os, h.tape, h.output⟩
theorem Rel.grown {w' : World} (h : Rel E β O S a w) (g : Grown w w') : Rel E β O S a w' := by
  have t : Turn w w' (Mof E β O S.σ) (Mof E β O S.σ) (fun _ => False) := ⟨fun b o _ h => by
    rcases Nat.lt_or_ge b w.heap.size with h' | h'
    · rw [g.same b h']; exact h
    · rw [Array.getElem?_eq_none h'] at h; exact (nomatch h), fun _ h => h.elim, fun _ h => .inl h⟩
  refine ⟨⟨h.mem.keys, ?_, h.mem.nodup, h.mem.disj, h.mem.own, g.os.trans h.mem.os, g.tape.trans h.mem.tape, g.output.trans h.mem.output, Nat.le_trans h.mem.size g.size, ?_, h.mem.xlt, h.mem.nxt, h.mem.fix⟩, ?_, h.nodef⟩
  · intro c ch hc
    exact (h.mem.chunk c ch hc).turn t (fun _ _ h => h) (fun _ _ h => h) (g.same _ ((h.mem.chunk c ch hc).lt _ List.mem_cons_self))
  · intro b hb hz
    rw [g.same b (Nat.lt_of_lt_of_le hb h.mem.size)]
    exact h.mem.frame b hb hz
  · intro k av hk
    obtain ⟨h1, h2⟩ := h.slots k av hk
    exact ⟨h1, h2.turn t (fun _ _ h => h)⟩

/-- Handed over to be read. -/
def viewC (I : Ops) (S : St) : Cell → R Cell
  | .pv p => .ok (.pv p)
  | .arr c o n => match lk c S.σ with
    | some (.row sz es) => .ok (.pv (.sl false sz (I.downs (I.ext es o n))))
    | _ => .stuck
  | .ep cs => .ok (.ep cs)
  | .fn f caps => match caps with
    | [] => .ok (.fn f [])
    | _ => .stuck
  | _ => .stuck
def viewCs (I : Ops) (S : St) : List Cell → R (List Cell)
  | [] => .ok []
  | c :: r => do
    let c ← viewC I S c
    let r ← viewCs I S r
    .ok (c :: r)
def viewA (I : Ops) (S : St) : AV → R AV
  | .one c => do
    let c ← viewC I S c
    .ok (.one c)
  | .ag cs => do
    let cs ← viewCs I S cs
    .ok (.ag cs)
  | .tp _ => .stuck
def viewAs (I : Ops) (S : St) : List AV → R (List AV)
  | [] => .ok []
  | c :: r => do
    let c ← viewA I S c
    let r ← viewAs I S r
    .ok (c :: r)

theorem viewC_sound (h : Rel E β O S a w) {c c' : Cell} {v : Value} (hc : RCell w (Mof E β O S.σ) (envOf β S.σ) c v) (e : (viewC real S c).val = some c') : RCell w E.X (fun _ => none) c' v := by
  have t : Turn w w (Mof E β O S.σ) E.X (fun _ => False) := ⟨fun _ _ _ h => h, fun _ h => h.elim, fun b hb => .inl (.inl hb)⟩
  unfold viewC at e
  split at e
  · simp only [val_ok, Option.some.injEq] at e
    subst e
    cases hc with
    | pv hc => exact .pv (hc.turn t (fun _ _ h => h))
  · rename_i c o n
    split at e
    · rename_i sz es hlk
      simp only [val_ok, Option.some.injEq] at e
      subst e
      cases hc with
      | arr he hm hn hcap =>
        rename_i b off sz' m N cap
        obtain ⟨ch, hc', hbb, hs, hcn, hN⟩ := envOf_some he
        rw [hlk] at hc'
        obtain rfl := Option.some.inj hc'
        have hcr := h.mem.chunk c _ hlk
        have hown := h.mem.own c _ hlk
        generalize hO : O c = Oc at hcr hown
        simp only [Chunk.sz] at hs
        simp only [Chunk.cnt] at hcn
        subst hcn hs
        cases hcr with
        | row hb' hN' hR =>
          rename_i vs ty
          obtain ⟨A, B, C, hABC, hext⟩ := hR.ext o n
          have hlen : ((es.drop o).take n).length = n := by rw [List.length_take, List.length_drop]; omega
          have hd := RLL.downs (hext.turn t (fun _ _ h => h)) (fun x hx => (hown x (List.mem_cons_of_mem _ (by rw [hABC]; simp [hx]))).1)
          refine .pv ?_
          show RPV w E.X (.sl false sz (downs ((es.drop o).take n))) _ []
          have hdl : (downs ((es.drop o).take n)).length = n := by rw [downs_length, hlen]
          rcases Nat.eq_zero_or_pos n with h0 | hpos
          · subst h0
            have : downs ((es.drop o).take 0) = [] := by simp [downs]
            rw [this]
            exact .nil
          · rcases hcap with h0 | ⟨rfl, hroom⟩
            · omega
            · have hd' := hd
              have := RPV.sh (w := w) (M := E.X) (sz := sz) (b := b) (off := o * sz) (cap := cap) (es := downs ((es.drop o).take n)) (cs := vs.toList)
                (by rw [← List.length_pos_iff, hdl]; exact hpos) (by rw [← hbb]; exact (hown _ List.mem_cons_self).1) (by rw [← hbb]; exact blk_some hb') (by rw [hdl]; exact hn) hd'
              rw [hdl] at this
              exact this
    · simp [val_stuck] at e
  · simp only [val_ok, Option.some.injEq] at e
    subst e
    cases hc with
    | ep hM hb hR => exact .ep (fun hx => hM (.inl hx)) hb (hR.turn t (fun _ _ h => h))
  · split at e
    · simp only [val_ok, Option.some.injEq] at e
      subst e
      cases hc with
      | fn hc =>
        rename_i vs
        generalize hvs : vs.toList = l at hc
        cases hc
        exact .fn (by rw [hvs]; exact .nil)
    · simp [val_stuck] at e
  · simp [val_stuck] at e
theorem viewCs_sound (h : Rel E β O S a w) : ∀ {cs cs' : List Cell} {vs : List Value}, RCs w (Mof E β O S.σ) (envOf β S.σ) cs vs → (viewCs real S cs).val = some cs' → RCs w E.X (fun _ => none) cs' vs
  | [], cs', _, hc, e => by
    cases hc
    simp only [viewCs, val_ok, Option.some.injEq] at e
    subst e
    exact .nil
  | c :: cs, cs', _, hc, e => by
    cases hc with
    | cons hc hr =>
      simp only [viewCs, val_do] at e
      obtain ⟨c1, h1, e⟩ := some_bind e
      obtain ⟨r1, h2, e⟩ := some_bind e
      simp only [val_ok, Option.some.injEq] at e
      subst e
      exact .cons (viewC_sound h hc h1) (viewCs_sound h hr h2)
theorem viewA_sound (h : Rel E β O S a w) {x x' : AV} {v : Value} (hc : RAV w (Mof E β O S.σ) (envOf β S.σ) x v) (e : (viewA real S x).val = some x') : RAV w E.X (fun _ => none) x' v := by
  unfold viewA at e
  split at e
  · rw [val_do] at e
    obtain ⟨c1, h1, e⟩ := some_bind e
    simp only [val_ok, Option.some.injEq] at e
    subst e
    cases hc with
    | one hc => exact .one (viewC_sound h hc h1)
  · rw [val_do] at e
    obtain ⟨c1, h1, e⟩ := some_bind e
    simp only [val_ok, Option.some.injEq] at e
    subst e
    cases hc with
    | ag hc => exact .ag (viewCs_sound h hc h1)
  · simp [val_stuck] at e
theorem viewAs_sound (h : Rel E β O S a w) : ∀ {cs cs' : List AV} {vs : List Value}, RAVs w (Mof E β O S.σ) (envOf β S.σ) cs vs → (viewAs real S cs).val = some cs' → RAVs w E.X (fun _ => none) cs' vs
  | [], cs', _, hc, e => by
    cases hc
    simp only [viewAs, val_ok, Option.some.injEq] at e
    subst e
    exact .nil
  | c :: cs, cs', _, hc, e => by
    cases hc with
    | cons hc hr =>
      simp only [viewAs, val_do] at e
      obtain ⟨c1, h1, e⟩ := some_bind e
      obtain ⟨r1, h2, e⟩ := some_bind e
      simp only [val_ok, Option.some.injEq] at e
      subst e
      exact .cons (viewA_sound h hc h1) (viewAs_sound h hr h2)

/-- Nothing that hangs on the memory. -/
def bareC : Cell → Bool
  | .pv (.sc _) => true
  | .pv .nl => true
  | _ => false
def bareCs : List Cell → Bool
  | [] => true
  | c :: r => match bareC c with
    | true => bareCs r
    | false => false
def bareGs : List (Bool × List Cell) → Bool
  | [] => true
  | (_, cs) :: r => match bareCs cs with
    | true => bareGs r
    | false => false
def bareA : AV → Bool
  | .one c => bareC c
  | .ag cs => bareCs cs
  | .tp vs => bareGs vs
theorem bareC_sound {c : Cell} {v : Value} {w' : World} (hb : bareC c = true) (h : RCell w M env c v) : RCell w' M' env' c v := by
  unfold bareC at hb
  split at hb
  · cases h with
    | pv h => cases h with
      | sc h => exact .pv (.sc h)
  · cases h with
    | pv h => cases h; exact .pv .nl
  · cases hb
theorem bareCs_sound {w' : World} : ∀ {cs : List Cell} {vs : List Value}, bareCs cs = true → RCs w M env cs vs → RCs w' M' env' cs vs
  | [], _, _, h => by cases h; exact .nil
  | c :: cs, _, hb, h => by
    unfold bareCs at hb
    split at hb
    · rename_i h1
      cases h with
      | cons h hr => exact .cons (bareC_sound h1 h) (bareCs_sound hb hr)
    · cases hb
theorem bareGs_sound {w' : World} : ∀ {cs : List (Bool × List Cell)} {vs : List Value}, bareGs cs = true → RGs w M env cs vs → RGs w' M' env' cs vs
  | [], _, _, h => by cases h; exact .nil
  | (g, c) :: cs, _, hb, h => by
    unfold bareGs at hb
    split at hb
    · rename_i h1
      cases h with
      | cons h hr =>
        refine .cons ?_ (bareGs_sound hb hr)
        cases g with
        | true => obtain ⟨vs, h2, h3⟩ := h; exact ⟨vs, h2, bareCs_sound h1 h3⟩
        | false =>
          obtain ⟨x, rfl, h3⟩ := h
          exact ⟨x, rfl, bareC_sound (by unfold bareCs at h1; split at h1 <;> first | assumption | cases h1) h3⟩
    · cases hb
theorem bareA_sound {w' : World} {x : AV} {v : Value} (hb : bareA x = true) (h : RAV w M env x v) : RAV w' M' env' x v := by
  cases h with
  | one h => exact .one (bareC_sound hb h)
  | ag h => exact .ag (bareCs_sound hb h)
  | tp h => exact .tp (bareGs_sound hb h)

/-- A call that only reads what it is handed, and hands back what hangs on no memory. -/
def callSnap (I : Ops) (F : List AV → R AV) (args : List AV) (S : St) : R (AV × St) := do
  let vs ← viewAs I S args
  let r ← F vs
  match bareA r with
  | true => .ok (r, S)
  | false => .stuck
theorem callSnap_ok {g : FuncId} {F : List AV → R AV} (hF : ∀ args r, (F args).val = some r → ∃ σ n, Ok0 P g args r σ n) {args : List AV} {r : AV} {S' : St} (e : (callSnap real F args S).val = some (r, S')) : CallOk P g args S r S' := by
  intro E β O a w vs h hv
  unfold callSnap at e
  rw [val_do] at e
  obtain ⟨us, h1, e⟩ := some_bind e
  rw [val_do] at e
  obtain ⟨r', h2, e⟩ := some_bind e
  split at e
  · rename_i hb
    simp only [val_ok, Option.some.injEq, Prod.mk.injEq] at e
    obtain ⟨rfl, rfl⟩ := e
    obtain ⟨σ, n, hok⟩ := hF _ _ h2
    refine (hok w E.X vs (fun b hb => Nat.lt_of_lt_of_le (h.mem.xlt b hb) h.mem.size) (viewAs_sound h hv h1)).mono ?_
    intro e w' he
    cases e with
    | returned u =>
      obtain ⟨β', O', m1, m2⟩ := he
      exact ⟨β, O, h.grown (Grown.of m1), bareA_sound hb m2⟩
    | panicked => exact he.elim
    | outgrown => exact he.elim
  · simp [val_stuck] at e
end
end Go.Aix
namespace Go.Aix
/-- A table of types. -/
def tabled (P : Program) : List (Nat × TyI) → Prop
  | [] => True
  | e :: r => tyOf P e.1 = some { e.2 with kinds := [] } ∧ tabled P r
theorem tabled_lk {P : Program} : ∀ {l : List (Nat × TyI)}, tabled P l → ∀ {t : Nat} {y : TyI}, lk t l = some y → tyOf P t = some { y with kinds := [] }
  | [], _, t, y, e => by simp [lk] at e
  | (k, x) :: l, h, t, y, e => by
    unfold lk at e
    cases hb : Nat.beq t k with
    | true =>
      rw [hb] at e
      obtain rfl := Option.some.inj e
      have := beq_eq hb
      subst this
      exact h.1
    | false =>
      rw [hb] at e
      exact tabled_lk h.2 e
theorem tabled_app {P : Program} : ∀ {l r : List (Nat × TyI)}, tabled P l → tabled P r → tabled P (l ++ r)
  | [], _, _, h => h
  | _ :: _, _, h, h' => ⟨h.1, tabled_app h.2 h'⟩
end Go.Aix
