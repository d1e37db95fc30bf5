/-
  THE CALCULUS: an element of a row is taken to hand, what it owns with it; and laid back.
-/
import Derived.Test.YtafdnkachndacaaAixMove
import Derived.Test.YtafdnkachndacaaAixTypes
set_option linter.unusedSimpArgs false
set_option linter.unusedVariables false
namespace Go.Aix

/-- A cell of an element: what it owns becomes a chunk. -/
def openP (I : Ops) (k : Kd) (p : PV) (next : Nat) : R (Cell × Store) := match k with
  | .int k => .must (I.isInt k p) (.ok (.pv (.sc (.int k (I.asInt p))), []))
  | .bool => .must (I.isBool p) (.ok (.pv (.sc (.bool (I.asBool p))), []))
  | .str => .must (I.isStr p) (.ok (.pv (.sc (.string (I.asStr p))), []))
  | .sl s => .ask (I.isNo p) fun t => match t with
    | true => .ok (.pv (.sl true s []), [])
    | false => .must (I.isOwn s p) (.ok (.arr next 0 (I.len (I.els p)), [(next, .row s (I.els p))]))
  | .other => .must (I.isOne p) (.ok (.pv p, []))
def opens (I : Ops) : List Kd → List PV → Nat → R (List Cell × Store)
  | [], ps, _ => match ps with
    | [] => .ok ([], [])
    | _ :: _ => .stuck
  | k :: ks, ps, next => match ps with
    | [] => .stuck
    | p :: ps => do
      let (c, s1) ← openP I k p next
      let (cs, s2) ← opens I ks ps (next + s1.length)
      .ok (c :: cs, s1 ++ s2)
def focusA (I : Ops) (c i : Nat) (ks : List Kd) (S : St) : R St := match lk c S.σ with
  | some (.row sz es) => do
    demand (I.nle (I.add i 1) (I.len es))
    let (cs, s) ← opens I ks ((List.range sz).map fun q => I.nth es i q) S.next
    .ok ⟨S.T, put c (.foc sz es i cs) S.σ ++ s, S.next + s.length⟩
  | _ => .stuck
def unfocusA (I : Ops) (c : Nat) (S : St) : R St := match lk c S.σ with
  | some (.foc sz es i cs) => do
    let (ps, S) ← freezes I S cs
    .ok ⟨S.T, put c (.row sz (I.set es i ps)) S.σ, S.next⟩
  | _ => .stuck

section
variable {P : Program} {X : Ctx} {Y : CallsA} {f : FuncId} {fn : Func} {b : Code} {E : Ent} {R : Value → World → Prop} {β : Nat → Nat × Nat} {O : Nat → List Nat} {S : St} {a : Act} {w : World}
  {M M' : Nat → Prop} {env env' : EnvT}

theorem RL.of_take' : ∀ {ps : List PV} {vs : List Value} {n : Nat} {O : List Nat}, RL w M ps (vs.take n) O → RL w M ps vs O
  | [], vs, n, O, h => by cases h; exact .nil
  | p :: ps, vs, n, O, h => by
    cases vs with
    | nil => simpa using h
    | cons v vs => cases n with
      | zero => simp only [List.take_zero] at h; cases h
      | succ n =>
        rw [List.take_succ_cons] at h
        cases h with
        | cons h hr => exact .cons h (RL.of_take' hr)
theorem isNo_nil {p : PV} {v : Value} {Op : List Nat} {s : Nat} (h : RPV w M p v Op) (hp : isNo p = true) : RPV w M (.sl true s []) v [] ∧ Op = [] := by
  cases h with
  | sc => cases hp
  | nl => exact ⟨.nil, rfl⟩
  | nil => exact ⟨.nil, rfl⟩
  | @sh sz b off cap es cs a hM hb hc hR =>
    cases es with
    | nil => exact absurd rfl a
    | cons => cases hp
  | @un sz b cap es cs t Op a hb hc hr hR =>
    cases es with
    | nil => exact absurd rfl a
    | cons => cases hp
  | dd => cases hp

/-- What a cell's chunk is, if it has one. -/
inductive OneCh (w : World) (M : Nat → Prop) : Store → Nat → List (Nat × Nat × List Nat) → List Nat → Prop
  | none {next : Nat} : OneCh w M [] next [] []
  | some {next b N s : Nat} {es : List (List PV)} {Op : List Nat} (h : ∀ env, ChunkRel w M env b N (.row s es) Op) : OneCh w M [(next, .row s es)] next [(b, N, Op)] (b :: Op)
/-- The names stand for these. -/
def EnvAt (env : EnvT) (s : Store) (L : List (Nat × Nat × List Nat)) : Prop := ∀ (j : Nat) (c : Nat) (ch : Chunk) (x : Nat × Nat × List Nat), s[j]? = some (c, ch) → L[j]? = some x → env c = some (x.1, ch.sz, ch.cnt, x.2.1)

theorem openP_sound {k : Kd} {p : PV} {v : Value} {c : Cell} {s : Store} {Op : List Nat} {next : Nat} (h : RPV w M p v Op) (e : (openP real k p next).val = some (c, s)) :
    ∃ L, OneCh w M s next L Op ∧ ∀ env, EnvAt env s L → RCell w M env c v := by
  unfold openP at e
  cases k with
  | int k =>
    simp only [R.val] at e
    split at e
    · rename_i hp
      have hp : isPInt k p = true := hp
      unfold isPInt at hp
      simp only [Option.some.injEq, Prod.mk.injEq] at e
      obtain ⟨rfl, rfl⟩ := e
      split at hp
      · simp only [decide_eq_true_eq] at hp
        subst hp
        cases h with
        | sc h => exact ⟨[], .none, fun _ _ => .pv (.sc h)⟩
      · cases hp
    · cases e
  | bool =>
    simp only [R.val] at e
    split at e
    · rename_i hp
      have hp : isPBool p = true := hp
      unfold isPBool at hp
      simp only [Option.some.injEq, Prod.mk.injEq] at e
      obtain ⟨rfl, rfl⟩ := e
      split at hp
      · cases h with
        | sc h => exact ⟨[], .none, fun _ _ => .pv (.sc h)⟩
      · cases hp
    · cases e
  | str =>
    simp only [R.val] at e
    split at e
    · rename_i hp
      have hp : isPStr p = true := hp
      unfold isPStr at hp
      simp only [Option.some.injEq, Prod.mk.injEq] at e
      obtain ⟨rfl, rfl⟩ := e
      split at hp
      · cases h with
        | sc h => exact ⟨[], .none, fun _ _ => .pv (.sc h)⟩
      · cases hp
    · cases e
  | sl sz =>
    rw [val_ask] at e
    split at e
    · rename_i hp
      simp only [val_ok, Option.some.injEq, Prod.mk.injEq] at e
      obtain ⟨rfl, rfl⟩ := e
      obtain ⟨h1, rfl⟩ := isNo_nil (s := sz) h hp
      exact ⟨[], .none, fun _ _ => .pv h1⟩
    · simp only [R.val] at e
      split at e
      · rename_i hp
        have hp : isOwn sz p = true := hp
        simp only [Option.some.injEq, Prod.mk.injEq] at e
        obtain ⟨rfl, rfl⟩ := e
        cases h with
        | sc => cases hp
        | nl => cases hp
        | @nil un _ _ _ => cases un <;> simp [isOwn] at hp
        | sh a => cases hp
        | dd => cases hp
        | @un sz' b cap es cs t Op a hb hc hr hR =>
          have hsz : sz' = sz := by
            cases es with
            | nil => exact absurd rfl a
            | cons => exact beq_eq hp
          subst hsz
          refine ⟨[(b, cs.size, Op)], .some (fun env => .row hb rfl hR), fun env he => ?_⟩
          have := he 0 next (.row sz' es) (b, cs.size, Op) rfl rfl
          exact .arr this (by show 0 + es.length ≤ es.length; omega) hc (.inr ⟨by simp, by show 0 * sz' + cap * sz' ≤ cs.size; omega⟩)
      · cases e
  | other =>
    simp only [R.val] at e
    split at e
    · rename_i hp
      simp only [Option.some.injEq, Prod.mk.injEq] at e
      obtain ⟨rfl, rfl⟩ := e
      have h1 := h.one hp
      have hO : Op = [] := by
        have hp : isOne p = true := hp
        cases h with
        | sc => rfl
        | nl => rfl
        | nil => rfl
        | sh => rfl
        | dd => rfl
        | @un sz b cap es cs t Op a hb hc hr hR =>
          cases es with
          | nil => exact absurd rfl a
          | cons => cases hp
      subst hO
      exact ⟨[], .none, fun _ _ => .pv h1⟩
    · cases e

/-- What the chunks are. -/
structure Opened (w : World) (M : Nat → Prop) (s : Store) (next : Nat) (L : List (Nat × Nat × List Nat)) (B : List Nat) : Prop where
  len : L.length = s.length
  all : B = L.flatMap fun x => x.1 :: x.2.2
  at_ : ∀ (j : Nat) (x : Nat × Nat × List Nat), L[j]? = some x → ∃ ch, s[j]? = some (next + j, ch) ∧ ∀ env, ChunkRel w M env x.1 x.2.1 ch x.2.2

theorem opens_sound : ∀ {ks : List Kd} {ps : List PV} {vs : List Value} {cs : List Cell} {s : Store} {B : List Nat} {next : Nat}, RL w M ps vs B → ps.length = vs.length → (opens real ks ps next).val = some (cs, s) →
    ∃ L, Opened w M s next L B ∧ ∀ env, EnvAt env s L → RCs w M env cs vs
  | [], [], vs, cs, s, B, next, h, hl, e => by
    obtain rfl : vs = [] := List.length_eq_zero_iff.1 hl.symm
    have e := Option.some.inj (show some (([] : List Cell), ([] : Store)) = some (cs, s) from e)
    simp only [Prod.mk.injEq] at e
    obtain ⟨rfl, rfl⟩ := e
    cases h
    exact ⟨[], ⟨rfl, rfl, fun j x hx => by simp at hx⟩, fun _ _ => .nil⟩
  | [], _ :: _, vs, cs, s, B, next, h, hl, e => by simp [opens, val_stuck] at e
  | k :: ks, [], vs, cs, s, B, next, h, hl, e => by simp [opens, val_stuck] at e
  | k :: ks, p :: ps, vs, cs, s, B, next, h, hl, e => by
    unfold opens at e
    rw [val_do] at e
    obtain ⟨⟨c, s1⟩, e1, e⟩ := some_bind e
    rw [val_do] at e
    obtain ⟨⟨cs', s2⟩, e2, e⟩ := some_bind e
    simp only [val_ok, Option.some.injEq, Prod.mk.injEq] at e
    obtain ⟨rfl, rfl⟩ := e
    cases h with
    | cons h hr =>
      rename_i v vs O1 O2
      obtain ⟨L1, q1, q2⟩ := openP_sound h e1
      obtain ⟨L2, r1, r2⟩ := opens_sound hr (by simpa using hl) e2
      cases q1 with
      | none =>
        refine ⟨L2, ⟨by simpa using r1.len, by simpa using r1.all, fun j x hx => by simpa using r1.at_ j x hx⟩, fun env he => .cons (q2 env (fun j c ch x hj _ => by simp at hj)) (r2 env (by simpa using he))⟩
      | @some _ b N sz es Op hch =>
        refine ⟨(b, N, Op) :: L2, ⟨by simpa using r1.len, by rw [r1.all]; simp, ?_⟩, fun env he => .cons (q2 env ?_) (r2 env ?_)⟩
        · intro j x hx
          cases j with
          | zero =>
            simp only [List.getElem?_cons_zero, Option.some.injEq] at hx
            subst hx
            exact ⟨_, rfl, hch⟩
          | succ j =>
            simp only [List.getElem?_cons_succ] at hx
            obtain ⟨ch, g1, g2⟩ := r1.at_ j x hx
            refine ⟨ch, ?_, g2⟩
            simp only [List.singleton_append, List.getElem?_cons_succ, List.length_singleton] at g1 ⊢
            rw [g1, show next + 1 + j = next + (j + 1) from by omega]
        · intro j c ch x hj hx
          cases j with
          | zero => exact he 0 c ch x (by simpa using hj) (by simpa using hx)
          | succ j => simp at hj
        · intro j c ch x hj hx
          exact he (j + 1) c ch x (by simpa using hj) (by simpa using hx)

theorem store_get : ∀ {s : Store} {L : List (Nat × Nat × List Nat)} {next : Nat}, L.length = s.length → (∀ (j : Nat) (x : Nat × Nat × List Nat), L[j]? = some x → ∃ ch, s[j]? = some (next + j, ch)) → ∀ (d : Nat) (ch : Chunk), lk d s = some ch → ∃ j x, d = next + j ∧ s[j]? = some (d, ch) ∧ L[j]? = some x
  | [], _, _, _, _, d, ch, h => by simp [lk] at h
  | (k, c0) :: s, [], _, hl, _, d, ch, h => by simp at hl
  | (k, c0) :: s, x0 :: L, next, hl, ha, d, ch, h => by
    obtain ⟨ch0, h0⟩ := ha 0 x0 rfl
    simp only [List.getElem?_cons_zero, Option.some.injEq, Prod.mk.injEq, Nat.add_zero] at h0
    obtain ⟨rfl, rfl⟩ := h0
    unfold lk at h
    cases hb : Nat.beq d k with
    | true =>
      rw [hb] at h
      obtain rfl := Option.some.inj h
      obtain rfl := beq_eq hb
      exact ⟨0, x0, rfl, rfl, rfl⟩
    | false =>
      rw [hb] at h
      obtain ⟨j, x, q1, q2, q3⟩ := store_get (s := s) (L := L) (next := k + 1) (by simpa using hl) (fun j x hx => by
        obtain ⟨ch, q⟩ := ha (j + 1) x (by simpa using hx)
        exact ⟨ch, by simpa [Nat.add_assoc, Nat.add_comm 1 j] using q⟩) d ch h
      exact ⟨j + 1, x, by omega, by simpa using q2, by simpa using q3⟩
theorem store_lk : ∀ {s : Store} {next j : Nat} {ch : Chunk}, (∀ (i : Nat) (c : Nat) (ch : Chunk), s[i]? = some (c, ch) → c = next + i) → s[j]? = some (next + j, ch) → lk (next + j) s = some ch
  | [], _, _, _, _, h => by simp at h
  | (k, c0) :: s, next, j, ch, ha, h => by
    have hk := ha 0 k c0 rfl
    simp only [Nat.add_zero] at hk
    subst hk
    cases j with
    | zero =>
      simp only [List.getElem?_cons_zero, Option.some.injEq, Prod.mk.injEq] at h
      obtain ⟨_, rfl⟩ := h
      unfold lk
      simp
    | succ j =>
      unfold lk
      rw [beq_f (by omega : k + (j + 1) ≠ k)]
      simp only [List.getElem?_cons_succ] at h
      have := store_lk (s := s) (next := k + 1) (j := j) (ch := ch) (fun i c ch hi => by have := ha (i + 1) c ch (by simpa using hi); omega) (by rw [h]; congr 2; omega)
      rw [show k + (j + 1) = k + 1 + j from by omega]
      exact this
theorem flat_apart : ∀ {L : List (Nat × Nat × List Nat)} {i j : Nat} {x y : Nat × Nat × List Nat}, (L.flatMap fun x => x.1 :: x.2.2).Nodup → L[i]? = some x → L[j]? = some y → i ≠ j → ∀ b ∈ x.1 :: x.2.2, b ∉ y.1 :: y.2.2
  | [], _, _, _, _, _, h, _, _ => by simp at h
  | z :: L, 0, 0, _, _, _, _, _, h => absurd rfl h
  | z :: L, 0, j + 1, x, y, hn, hi, hj, _ => by
    simp only [List.getElem?_cons_zero, Option.some.injEq] at hi
    subst hi
    simp only [List.getElem?_cons_succ] at hj
    rw [List.flatMap_cons, List.nodup_append] at hn
    intro b hb hm
    exact hn.2.2 b hb b (List.mem_flatMap.2 ⟨y, List.mem_of_getElem? hj, hm⟩) rfl
  | z :: L, i + 1, 0, x, y, hn, hi, hj, _ => by
    simp only [List.getElem?_cons_zero, Option.some.injEq] at hj
    subst hj
    simp only [List.getElem?_cons_succ] at hi
    rw [List.flatMap_cons, List.nodup_append] at hn
    intro b hb hm
    exact hn.2.2 b hm b (List.mem_flatMap.2 ⟨x, List.mem_of_getElem? hi, hb⟩) rfl
  | z :: L, i + 1, j + 1, x, y, hn, hi, hj, h => by
    rw [List.flatMap_cons, List.nodup_append] at hn
    exact flat_apart (L := L) hn.2.1 (by simpa using hi) (by simpa using hj) (by omega)
theorem flat_nodup : ∀ {L : List (Nat × Nat × List Nat)} {i : Nat} {x : Nat × Nat × List Nat}, (L.flatMap fun x => x.1 :: x.2.2).Nodup → L[i]? = some x → (x.1 :: x.2.2).Nodup
  | [], _, _, _, h => by simp at h
  | z :: L, 0, x, hn, hi => by
    simp only [List.getElem?_cons_zero, Option.some.injEq] at hi
    subst hi
    rw [List.flatMap_cons, List.nodup_append] at hn
    exact hn.1
  | z :: L, i + 1, x, hn, hi => by
    rw [List.flatMap_cons, List.nodup_append] at hn
    exact flat_nodup (L := L) hn.2.1 (by simpa using hi)

theorem focus_sound (h : Rel E β O S a w) {c i : Nat} {ks : List Kd} {S' : St} (e : (focusA real c i ks S).val = some S') : ∃ β' O', Rel E β' O' S' a w := by
  unfold focusA at e
  split at e
  · rename_i sz es hlk
    rw [val_demand] at e
    split at e
    · rename_i hle
      have hi : i + 1 ≤ es.length := of_decide_eq_true hle
      rw [val_do] at e
      obtain ⟨⟨cs, s⟩, e1, e⟩ := some_bind e
      simp only [val_ok, Option.some.injEq] at e
      subst e
      have hcr := h.mem.chunk c _ hlk
      have hnd := h.mem.nodup c _ hlk
      have hcn := h.mem.keys c _ hlk
      generalize hO : O c = Oc at hcr hnd
      cases hcr with
      | row hb hN hR =>
        rename_i vs ty
        have hge : es[i]? = some es[i] := List.getElem?_eq_getElem hi
        obtain ⟨A, BC, hABC, hRA0, hRest⟩ : ∃ A B, Oc = A ++ B ∧ RLL w (Mof E β O S.σ) sz (es.take i) vs.toList A ∧ RLL w (Mof E β O S.σ) sz (es.drop i) (vs.toList.drop (i * sz)) B := by
          clear e1
          generalize vs.toList = us at hR
          have : ∀ (i : Nat) (es : List (List PV)) (us : List Value) (Oc : List Nat), RLL w (Mof E β O S.σ) sz es us Oc → ∃ A B, Oc = A ++ B ∧ RLL w (Mof E β O S.σ) sz (es.take i) us A ∧ RLL w (Mof E β O S.σ) sz (es.drop i) (us.drop (i * sz)) B := by
            intro i
            induction i with
            | zero => intro es us Oc h; exact ⟨[], Oc, rfl, by simpa using .nil, by simpa using h⟩
            | succ i ih =>
              intro es us Oc h
              cases h with
              | nil => exact ⟨[], [], rfl, by simpa using .nil, by simpa using .nil⟩
              | cons hl h hr =>
                obtain ⟨A, B, h1, h2, h3⟩ := ih _ _ _ hr
                rename_i ps es' O1 O2
                refine ⟨O1 ++ A, B, by rw [h1]; simp, .cons hl h h2, ?_⟩
                rw [List.drop_drop] at h3
                rw [List.drop_succ_cons, show (i + 1) * sz = sz + i * sz from by rw [Nat.add_mul]; omega]
                exact h3
          exact this i es us Oc hR
        have hdi : es.drop i = es[i] :: es.drop (i + 1) := List.drop_eq_getElem_cons hi
        rw [hdi] at hRest
        generalize hBC : BC = BC' at hRest
        cases hRest with
        | cons hl hE hC =>
          rename_i B C
          subst hBC
          subst hABC
          rw [List.drop_drop, show i * sz + sz = (i + 1) * sz from by rw [Nat.add_mul]; omega] at hC
          -- the element's cells
          have hle := hR.le
          have hmul : (i + 1) * sz ≤ es.length * sz := Nat.mul_le_mul_right _ hi
          rw [Nat.add_mul, Nat.one_mul] at hmul
          have hels : (List.range sz).map (fun q => real.nth es i q) = es[i] := by
            apply List.ext_getElem
            · simp [hl]
            · intro q h1 h2
              simp only [List.getElem_map, List.getElem_range]
              show ((es[i]?.getD [])[q]?).getD _ = _
              rw [hge]
              simp [List.getElem?_eq_getElem h2]
          rw [hels] at e1
          have hE' : RL w (Mof E β O S.σ) es[i] ((vs.toList.drop (i * sz)).take sz) B := hE.pre _ (by rw [hl, List.take_take, Nat.min_self])
          have hlen : es[i].length = ((vs.toList.drop (i * sz)).take sz).length := by rw [hl, List.length_take, List.length_drop]; omega
          obtain ⟨L, q1, q2⟩ := opens_sound hE' hlen e1
          have hcsl : cs.length = sz := by
            have : ∀ {ks : List Kd} {ps : List PV} {next : Nat} {cs : List Cell} {s : Store}, (opens real ks ps next).val = some (cs, s) → cs.length = ps.length := by
              intro ks
              induction ks with
              | nil =>
                intro ps next cs s e
                cases ps with
                | nil =>
                  have e := Option.some.inj (show some (([] : List Cell), ([] : Store)) = some (cs, s) from e)
                  simp only [Prod.mk.injEq] at e
                  rw [← e.1]
                  rfl
                | cons => simp [opens, val_stuck] at e
              | cons k ks ih =>
                intro ps next cs s e
                cases ps with
                | nil => simp [opens, val_stuck] at e
                | cons p ps =>
                  unfold opens at e
                  rw [val_do] at e
                  obtain ⟨⟨c, s1⟩, e1, e⟩ := some_bind e
                  rw [val_do] at e
                  obtain ⟨⟨cs', s2⟩, e2, e⟩ := some_bind e
                  simp only [val_ok, Option.some.injEq, Prod.mk.injEq] at e
                  rw [← e.1]
                  simp [ih e2]
            rw [this e1, hl]
          have keyS : ∀ (j : Nat) (d : Nat) (ch : Chunk), s[j]? = some (d, ch) → d = S.next + j := by
            intro j d ch hj
            have hjl : j < L.length := by rw [q1.len]; exact (List.getElem?_eq_some_iff.1 hj).1
            obtain ⟨ch', g1, _⟩ := q1.at_ j L[j] (List.getElem?_eq_getElem hjl)
            rw [hj] at g1
            simp only [Option.some.injEq, Prod.mk.injEq] at g1
            exact g1.1
          let β' : Nat → Nat × Nat := fun d => if d < S.next then β d else ((L[d - S.next]?).getD (0, 0, [])).1 |> fun b => (b, ((L[d - S.next]?).getD (0, 0, [])).2.1)
          let O' : Nat → List Nat := fun d => if d = c then A ++ C else if d < S.next then O d else ((L[d - S.next]?).getD (0, 0, [])).2.2
          have b1 : ∀ d, d < S.next → β' d = β d := fun d hd => if_pos hd
          have o1 : ∀ d, d < S.next → d ≠ c → O' d = O d := fun d hd hdc => by show (if d = c then _ else if d < S.next then _ else _) = _; rw [if_neg hdc, if_pos hd]
          have oc : O' c = A ++ C := if_pos rfl
          have b2 : ∀ j x, L[j]? = some x → β' (S.next + j) = (x.1, x.2.1) ∧ O' (S.next + j) = x.2.2 := by
            intro j x hx
            have hn : ¬ S.next + j < S.next := by omega
            have hnc : S.next + j ≠ c := by omega
            constructor
            · show (if S.next + j < S.next then _ else _) = _
              rw [if_neg hn, Nat.add_sub_cancel_left, hx]
              rfl
            · show (if S.next + j = c then _ else if S.next + j < S.next then _ else _) = _
              rw [if_neg hnc, if_neg hn, Nat.add_sub_cancel_left, hx]
              rfl
          generalize hσ' : put c (.foc sz es i cs) S.σ ++ s = σ'
          have look : ∀ d x, lk d σ' = some x → (d = c ∧ x = .foc sz es i cs) ∨ (d < S.next ∧ d ≠ c ∧ lk d S.σ = some x) ∨ (∃ j y, d = S.next + j ∧ s[j]? = some (d, x) ∧ L[j]? = some y) := by
            intro d x hd
            rw [← hσ', lk_app] at hd
            by_cases hdc : d = c
            · subst hdc
              rw [lk_put_self] at hd
              exact .inl ⟨rfl, (Option.some.inj hd).symm⟩
            · rw [lk_put_ne _ hdc] at hd
              cases eo : lk d S.σ with
              | some y =>
                rw [eo] at hd
                exact .inr (.inl ⟨h.mem.keys d y eo, hdc, hd⟩)
              | none =>
                rw [eo] at hd
                obtain ⟨j, y, g1, g2, g3⟩ := store_get q1.len (fun j x hx => by obtain ⟨ch, g, _⟩ := q1.at_ j x hx; exact ⟨ch, g⟩) d x hd
                exact .inr (.inr ⟨j, y, g1, g2, g3⟩)
          have lookc : lk c σ' = some (.foc sz es i cs) := by rw [← hσ', lk_app, lk_put_self]
          have looko : ∀ d x, d ≠ c → lk d S.σ = some x → lk d σ' = some x := by
            intro d x hdc hd
            rw [← hσ', lk_app, lk_put_ne _ hdc, hd]
          have lookn : ∀ j ch, s[j]? = some (S.next + j, ch) → lk (S.next + j) σ' = some ch := by
            intro j ch hj
            have hn : lk (S.next + j) S.σ = none := by
              cases eo : lk (S.next + j) S.σ with
              | none => rfl
              | some y => have := h.mem.keys _ y eo; omega
            rw [← hσ', lk_app, lk_put_ne _ (by omega), hn]
            exact store_lk keyS hj
          -- the blocks
          have hBO : ∀ (j : Nat) (x : Nat × Nat × List Nat), L[j]? = some x → ∀ y ∈ x.1 :: x.2.2, y ∈ B := by
            intro j x hx y hy
            rw [q1.all]
            exact List.mem_flatMap.2 ⟨x, List.mem_of_getElem? hx, hy⟩
          have hndB : B.Nodup := by
            have := (List.nodup_cons.1 hnd).2
            rw [List.nodup_append] at this
            have := this.2.1
            rw [List.nodup_append] at this
            exact this.1
          have hAC : ∀ y ∈ A ++ C, y ∈ O c := by
            intro y hy
            rw [hO]
            simp only [List.mem_append] at hy ⊢
            grind
          have hBc : ∀ y ∈ B, y ∈ O c := fun y hy => by rw [hO]; simp [hy]
          have hBAC : ∀ y ∈ B, y ∉ (β c).1 :: (A ++ C) := by
            intro y hy hm
            have h0 := hnd
            simp only [List.nodup_cons, List.nodup_append, List.mem_append] at h0
            rcases List.mem_cons.1 hm with rfl | hm
            · exact h0.1 (by simp [hy])
            · rcases List.mem_append.1 hm with hm | hm
              · exact h0.2.2.2 y hm y (by simp [hy]) rfl
              · exact h0.2.2.1.2.2 y hy y hm rfl
          have hM : ∀ y, Mof E β' O' σ' y → Mof E β O S.σ y := by
            rintro y (hx | ⟨d, x, hd, hy⟩)
            · exact .inl hx
            · rcases look d x hd with ⟨rfl, _⟩ | ⟨g1, g2, g3⟩ | ⟨j, z, rfl, g2, g3⟩
              · rw [b1 _ hcn, oc] at hy
                refine .inr ⟨d, _, hlk, ?_⟩
                rcases List.mem_cons.1 hy with rfl | hy
                · exact List.mem_cons_self
                · exact List.mem_cons_of_mem _ (hAC y hy)
              · rw [b1 d g1, o1 d g1 g2] at hy
                exact .inr ⟨d, x, g3, hy⟩
              · rw [(b2 j z g3).1, (b2 j z g3).2] at hy
                exact .inr ⟨c, _, hlk, List.mem_cons_of_mem _ (hBc y (hBO j z g3 y hy))⟩
          have t : Turn w w (Mof E β O S.σ) (Mof E β' O' σ') (fun _ => False) := ⟨fun _ _ _ h => h, fun _ h => h.elim, fun b hb => .inl (hM b hb)⟩
          have hE1 : ∀ d x, envOf β S.σ d = some x → envOf β' σ' d = some x := by
            intro d x hx
            unfold envOf at *
            obtain ⟨ch, hch, hx⟩ := Option.map_eq_some_iff.1 hx
            have hdn := h.mem.keys d ch hch
            by_cases hdc : d = c
            · subst hdc
              rw [hlk] at hch
              obtain rfl := Option.some.inj hch
              rw [lookc, b1 _ hdn, Option.map_some, ← hx]
              rfl
            · rw [looko d ch hdc hch, b1 _ hdn, Option.map_some, hx]
          have hEn : EnvAt (envOf β' σ') s L := by
            intro j d ch x hj hx
            have := keyS j d ch hj
            subst this
            unfold envOf
            rw [lookn j ch hj, (b2 j x hx).1]
            rfl
          have sub0 : ∀ d x, lk d σ' = some x → ∃ d' y, lk d' S.σ = some y ∧ (∀ z ∈ (β' d).1 :: O' d, z ∈ (β d').1 :: O d') := by
            intro d x hd
            rcases look d x hd with ⟨rfl, _⟩ | ⟨g1, g2, g3⟩ | ⟨j, z, rfl, g2, g3⟩
            · refine ⟨d, _, hlk, fun z hz => ?_⟩
              rw [b1 _ hcn, oc] at hz
              rcases List.mem_cons.1 hz with rfl | hz
              · exact List.mem_cons_self
              · exact List.mem_cons_of_mem _ (hAC z hz)
            · exact ⟨d, x, g3, fun z hz => by rw [b1 d g1, o1 d g1 g2] at hz; exact hz⟩
            · refine ⟨c, _, hlk, fun y hy => ?_⟩
              rw [(b2 j z g3).1, (b2 j z g3).2] at hy
              exact List.mem_cons_of_mem _ (hBc y (hBO j z g3 y hy))
          refine ⟨β', O', ⟨⟨?_, ?_, ?_, ?_, ?_, h.mem.os, h.mem.tape, h.mem.output, h.mem.size, h.mem.frame, h.mem.xlt, Nat.le_trans h.mem.nxt (Nat.le_add_right _ _), ?_⟩, ?_, h.nodef⟩⟩
          · intro d x hd
            show d < S.next + s.length
            rcases look d x hd with ⟨rfl, _⟩ | ⟨g1, _⟩ | ⟨j, z, rfl, g2, _⟩
            · omega
            · omega
            · have := (List.getElem?_eq_some_iff.1 g2).1
              omega
          · intro d x hd
            show ChunkRel w (Mof E β' O' σ') (envOf β' σ') _ _ _ _
            rcases look d x hd with ⟨rfl, rfl⟩ | ⟨g1, g2, g3⟩ | ⟨j, z, rfl, g2, g3⟩
            · rw [b1 _ hcn, oc]
              refine .foc hb hN hi hcsl (hRA0.turn t (fun _ _ h => h)) ?_ (hC.turn t (fun _ _ h => h))
              exact (q2 _ hEn |> fun hc => by exact hc.turn t (fun _ _ h => h))
            · rw [b1 d g1, o1 d g1 g2]
              exact (h.mem.chunk d x g3).turn t hE1 (fun _ _ h => h) rfl
            · rw [(b2 j z g3).1, (b2 j z g3).2]
              obtain ⟨ch, k1, k2⟩ := q1.at_ j z g3
              rw [g2] at k1
              simp only [Option.some.injEq, Prod.mk.injEq, true_and] at k1
              subst k1
              exact (k2 (envOf β' σ')).turn t (fun _ _ h => h) (fun _ _ h => h) rfl
          · intro d x hd
            rcases look d x hd with ⟨rfl, rfl⟩ | ⟨g1, g2, g3⟩ | ⟨j, z, rfl, g2, g3⟩
            · rw [b1 _ hcn, oc]
              have h0 := hnd
              clear hBAC hBO hAC hBc hM sub0
              simp only [List.nodup_cons, List.nodup_append, List.mem_append] at h0 ⊢
              grind
            · rw [b1 d g1, o1 d g1 g2]; exact h.mem.nodup d x g3
            · rw [(b2 j z g3).1, (b2 j z g3).2]
              exact flat_nodup (by rw [← q1.all]; exact hndB) g3
          · intro d d' x y hd hd' hne z hz hm
            rcases look d x hd with ⟨rfl, rfl⟩ | ⟨g1, g2, g3⟩ | ⟨j, u, rfl, g2, g3⟩
            · rw [b1 _ hcn, oc] at hz
              rcases look d' y hd' with ⟨rfl, rfl⟩ | ⟨k1, k2, k3⟩ | ⟨j', u', rfl, k2, k3⟩
              · exact hne rfl
              · rw [b1 d' k1, o1 d' k1 k2] at hm
                refine h.mem.disj d d' _ y hlk k3 hne z ?_ hm
                rcases List.mem_cons.1 hz with rfl | hz
                · exact List.mem_cons_self
                · exact List.mem_cons_of_mem _ (hAC z hz)
              · rw [(b2 j' u' k3).1, (b2 j' u' k3).2] at hm
                exact hBAC z (hBO j' u' k3 z hm) hz
            · rw [b1 d g1, o1 d g1 g2] at hz
              rcases look d' y hd' with ⟨rfl, rfl⟩ | ⟨k1, k2, k3⟩ | ⟨j', u', rfl, k2, k3⟩
              · rw [b1 _ hcn, oc] at hm
                refine h.mem.disj d d' x _ g3 hlk hne z hz ?_
                rcases List.mem_cons.1 hm with rfl | hm
                · exact List.mem_cons_self
                · exact List.mem_cons_of_mem _ (hAC z hm)
              · rw [b1 d' k1, o1 d' k1 k2] at hm
                exact h.mem.disj d d' x y g3 k3 hne z hz hm
              · rw [(b2 j' u' k3).1, (b2 j' u' k3).2] at hm
                exact h.mem.disj d c x _ g3 hlk g2 z hz (List.mem_cons_of_mem _ (hBc z (hBO j' u' k3 z hm)))
            · rw [(b2 j u g3).1, (b2 j u g3).2] at hz
              rcases look d' y hd' with ⟨rfl, rfl⟩ | ⟨k1, k2, k3⟩ | ⟨j', u', rfl, k2, k3⟩
              · rw [b1 _ hcn, oc] at hm
                exact hBAC z (hBO j u g3 z hz) hm
              · rw [b1 d' k1, o1 d' k1 k2] at hm
                exact h.mem.disj c d' _ y hlk k3 (Ne.symm k2) z (List.mem_cons_of_mem _ (hBc z (hBO j u g3 z hz))) hm
              · rw [(b2 j' u' k3).1, (b2 j' u' k3).2] at hm
                exact flat_apart (by rw [← q1.all]; exact hndB) g3 k3 (fun e => hne (by rw [e])) z hz hm
          · intro d x hd z hz
            obtain ⟨d', y, k1, k2⟩ := sub0 d x hd
            exact h.mem.own d' y k1 z (k2 z hz)
          · intro d x hlt hd
            have hdl : d < S.next := Nat.lt_of_lt_of_le hlt h.mem.nxt
            rcases look d x hd with ⟨rfl, rfl⟩ | ⟨g1, g2, g3⟩ | ⟨j, u, rfl, g2, g3⟩
            · rw [b1 _ hcn]; exact h.mem.fix d _ hlt hlk
            · rw [b1 d g1]; exact h.mem.fix d x hlt g3
            · omega
          · intro q av hq
            obtain ⟨g1, g2⟩ := h.slots q av hq
            refine ⟨g1, ?_⟩
            show RAV w (Mof E β' O' σ') (envOf β' σ') _ _
            exact g2.turn t hE1
    · cases e
  · simp [val_stuck] at e

theorem RLL.mid {sz i : Nat} {es : List (List PV)} {ps : List PV} {vs : List Value} {A B C : List Nat} (hi : i < es.length) (hl : ps.length = sz) (hle : i * sz ≤ vs.length) (h1 : RLL w M sz (es.take i) vs A) (h2 : RL w M ps (vs.drop (i * sz)) B) (h3 : RLL w M sz (es.drop (i + 1)) (vs.drop ((i + 1) * sz)) C) :
    RLL w M sz (es.set i ps) vs (A ++ (B ++ C)) := by
  have e : es.set i ps = es.take i ++ ps :: es.drop (i + 1) := by rw [List.set_eq_take_append_cons_drop, if_pos hi]
  rw [e]
  refine RLL.append h1 ?_
  have ht : (es.take i).length = i := by rw [List.length_take]; omega
  rw [ht]
  refine .cons hl h2 ?_
  rw [List.drop_drop, show i * sz + sz = (i + 1) * sz from by rw [Nat.add_mul]; omega]
  exact h3

theorem unfocus_sound (h : Rel E β O S a w) {c : Nat} {S' : St} (e : (unfocusA real c S).val = some S') : ∃ β' O', Rel E β' O' S' a w := by
  unfold unfocusA at e
  split at e
  · rename_i sz es i cs hlk
    rw [val_do] at e
    obtain ⟨⟨ps, S1⟩, e1, e⟩ := some_bind e
    simp only [val_ok, Option.some.injEq] at e
    subst e
    have hcr := h.mem.chunk c _ hlk
    have hnd := h.mem.nodup c _ hlk
    generalize hO : O c = Oc at hcr hnd
    cases hcr with
    | foc hb hN hi hl h1 h2 h3 =>
      rename_i vs ty A C
      obtain ⟨Op, g1, g2, g2', g3, g4, g5, g6, g7, g8⟩ := freezes_sound h (fun _ _ h => h) h2 e1
      obtain ⟨d1, d2, d3⟩ := given h g4 g5
      -- the chunk stands as it stood
      have hlk1 : ∃ cs1, lk c S1.σ = some (.foc sz es i cs1) := by
        have fz : ∀ {cs : List Cell} {S : St} {ps : List PV} {S1 : St} {cs0 : List Cell}, (freezes real S cs).val = some (ps, S1) → lk c S.σ = some (.foc sz es i cs0) → ∃ cs1, lk c S1.σ = some (.foc sz es i cs1) := by
          intro cs
          induction cs with
          | nil =>
            intro S ps S1 cs0 e hl
            have e := Option.some.inj (show some (([] : List PV), S) = some (ps, S1) from e)
            simp only [Prod.mk.injEq] at e
            obtain ⟨rfl, rfl⟩ := e
            exact ⟨cs0, hl⟩
          | cons x cs ih =>
            intro S ps S1 cs0 e hl
            simp only [freezes, val_do] at e
            obtain ⟨⟨p, S2⟩, e1, e⟩ := some_bind e
            obtain ⟨⟨qs, S3⟩, e2, e⟩ := some_bind e
            simp only [val_ok, Option.some.injEq, Prod.mk.injEq] at e
            obtain ⟨_, rfl⟩ := e
            have : ∃ cs1, lk c S2.σ = some (.foc sz es i cs1) := by
              unfold freeze at e1
              split at e1
              · simp only [val_ok, Option.some.injEq, Prod.mk.injEq] at e1
                obtain ⟨_, rfl⟩ := e1
                exact ⟨cs0, hl⟩
              · rename_i d n
                split at e1
                · rename_i hd
                  simp only [val_ok, Option.some.injEq, Prod.mk.injEq] at e1
                  obtain ⟨_, rfl⟩ := e1
                  have hne : c ≠ d := fun e => by subst e; rw [hl] at hd; cases hd
                  refine ⟨cs0.map (killC d), ?_⟩
                  show lk c ((rm d S.σ).map fun e => (e.1, killK d e.2)) = _
                  rw [kill_lk, if_neg hne, hl]
                  rfl
                · simp [val_stuck] at e1
              · simp only [val_ok, Option.some.injEq, Prod.mk.injEq] at e1
                obtain ⟨_, rfl⟩ := e1
                exact ⟨cs0, hl⟩
              · simp [val_stuck] at e1
            obtain ⟨cs1, h1⟩ := this
            exact ih e2 h1
        exact fz e1 hlk
      obtain ⟨cs1, hlk1⟩ := hlk1
      have hcr1 := g1.mem.chunk c _ hlk1
      rw [hO] at hcr1
      have hle3 := h3.le
      have hgl := h2.length
      rw [List.length_take, List.length_drop] at hgl
      have hpl : ps.length = sz := by rw [g2', List.length_take, List.length_drop]; omega
      have hle : i * sz ≤ vs.toList.length := by
        by_cases hz : sz = 0
        · subst hz; simp
        · generalize i * sz = X at *
          omega
      have hR : RLL w (Mof E β O S.σ) sz (es.set i ps) vs.toList (A ++ (Op ++ C)) := RLL.mid hi hpl hle h1 (RL.of_take' g2) h3
      have hdisj := d1 c _ hlk1
      rw [hO] at hdisj
      have hnd' : ((β c).1 :: (A ++ (Op ++ C))).Nodup := by
        clear d1 d2 d3 g1 g4 g5 g6 g7 hcr1 h1 h2 h3 hR
        simp only [List.nodup_append, List.mem_append, List.nodup_cons, List.mem_cons] at *
        grind
      have hOkM : ∀ y ∈ A ++ (Op ++ C), Mof E β O S.σ y := by
        intro y hy
        rcases List.mem_append.1 hy with hy | hy
        · exact .inr ⟨c, _, hlk, List.mem_cons_of_mem _ (by rw [hO]; exact List.mem_append_left _ hy)⟩
        · rcases List.mem_append.1 hy with hy | hy
          · exact d3 y hy
          · exact .inr ⟨c, _, hlk, List.mem_cons_of_mem _ (by rw [hO]; exact List.mem_append_right _ hy)⟩
      have hrow : World.setRow w (β c).1 vs ty = w := setRow_same hb
      have hT := put_turn (E := E) (O := O) (w := w) (β := β) (σ := S1.σ) (M := Mof E β O S.σ) g6 (ch' := .row sz (es.set i ps)) (vs := vs) (t := ty) hlk1 hOkM
      have hm := g1.mem.put g6 (ch' := .row sz (es.set i ps)) (Ok := A ++ (Op ++ C)) (vs := vs) (t := ty) hlk1 rfl (by show (es.set i ps).length = es.length; simp) hN hOkM
        (.row (setRow_self (blk_lt (blk_some hb))) hN (hR.turn hT (fun x hx e => (List.nodup_cons.1 hnd').1 (e ▸ hx)))) hnd'
        (by
          intro d x hd hdx y hy
          rcases List.mem_append.1 hy with hy | hy
          · exact g1.mem.disj c d _ x hlk1 hdx (Ne.symm hd) y (List.mem_cons_of_mem _ (by rw [hO]; exact List.mem_append_left _ hy))
          · rcases List.mem_append.1 hy with hy | hy
            · exact d1 d x hdx y hy
            · exact g1.mem.disj c d _ x hlk1 hdx (Ne.symm hd) y (List.mem_cons_of_mem _ (by rw [hO]; exact List.mem_append_right _ hy)))
        (by
          intro y hy
          rcases List.mem_append.1 hy with hy | hy
          · exact h.mem.own c _ hlk y (List.mem_cons_of_mem _ (by rw [hO]; exact List.mem_append_left _ hy))
          · rcases List.mem_append.1 hy with hy | hy
            · exact d2 y hy
            · exact h.mem.own c _ hlk y (List.mem_cons_of_mem _ (by rw [hO]; exact List.mem_append_right _ hy)))
      have := putSlots (S := S1) (ch' := .row sz (es.set i ps)) g1 g6 hlk1 rfl (by show (es.set i ps).length = es.length; simp) (Ok := A ++ (Op ++ C)) hOkM hm
      rw [hrow] at this
      exact ⟨_, _, this⟩
  · simp [val_stuck] at e

/-- Element i of row c is taken to hand. -/
theorem W_focus {k : List Item} (c i : Nat) (ks : List Kd) {I : Ops} (hI : I = real) (h : ((focusA I c i ks S).out fun S' => .loop [] S').holds (fun _ _ => False) (fun _ S' => W P f fn E R k S') (fun _ _ => False)) : W P f fn E R k S := by
  subst hI
  obtain ⟨S', h1, h2⟩ := _root_.Go.Aix.R.out_holds h
  intro β O a w hr hs
  obtain ⟨β', O', h3⟩ := focus_sound hr h1
  exact h2 β' O' a w h3 hs
/-- The element of row c at hand is laid back. -/
theorem W_unfocus {k : List Item} (c : Nat) {S' : St} {I : Ops} (hI : I = real) (e : (unfocusA I c S).val = some S') (h : W P f fn E R k S') : W P f fn E R k S := by
  subst hI
  intro β O a w hr hs
  obtain ⟨β', O', h3⟩ := unfocus_sound hr e
  exact h β' O' a w h3 hs
end
/-! ### Rows that are handed over to be written -/
section
open Classical
/-- A row of what is made so. -/
noncomputable def pO {α : Type} (T : Ty α) : Par (List α) where
  enc l := .one (.pv (.sl true T.sz (mapE T.own l)))
  dec x := match x with
    | .one (.pv (.sl true s es)) => if s = T.sz ∧ es = mapE T.own (T.decs es) then some (T.decs es) else none
    | _ => none
  fit := by
    intro w M env x v a h e
    split at e
    · rename_i s es
      split at e
      · rename_i hs
        cases e
        rw [← hs.1, ← hs.2]
        exact h
      · cases e
    · cases e
theorem pO_dec {α : Type} (T : Ty α) (l : List α) : (pO T).dec (.one (.pv (.sl true T.sz (mapE T.own l)))) = some l := by
  show (if T.sz = T.sz ∧ mapE T.own l = mapE T.own (T.decs (mapE T.own l)) then some (T.decs (mapE T.own l)) else none) = _
  rw [T.decs_own, if_pos ⟨rfl, rfl⟩]
end
section
variable {P : Program}
/-- A function that writes over the elements of the row that it is handed. -/
def markT (I : Ops) (e : En) (sz : Nat) (args : List AV) (σ0 : Store) (n0 : Nat) : R (AV × Store × Nat) := match args with
  | [.one x, y] => match x with
    | .arr 0 0 n => match σ0 with
      | [(0, .row s es)] => match Nat.beq s sz && Nat.beq n0 1 with
        | true => .must (I.neq n (I.len es)) (.must (e.pre [.one (.pv (.sl true s es)), y]) (.ok (.one (.pv (.sc (.int .i64 (e.i 0 [.one (.pv (.sl true s es)), y])))), [(0, .row sz (e.l 0 [.one (.pv (.sl true s es)), y]))], 1)))
        | false => .stuck
      | _ => .stuck
    | .pv p => match p with
      | .nl => match σ0 with
        | [] => match Nat.beq n0 0 with
          | true => match y with
            | .one (.pv (.sc (.int .i64 k))) => .ok (.one (.pv (.sc (.int .i64 k))), [], 0)
            | _ => .stuck
          | false => .stuck
        | _ => .stuck
      | .sl _ _ [] => match σ0 with
        | [] => match Nat.beq n0 0 with
          | true => match y with
            | .one (.pv (.sc (.int .i64 k))) => .ok (.one (.pv (.sc (.int .i64 k))), [], 0)
            | _ => .stuck
          | false => .stuck
        | _ => .stuck
      | _ => .stuck
    | _ => .stuck
  | _ => .stuck
theorem SoundR.markT {α : Type} {T : Ty α} {g : FuncId} {a : An (List α × Int × Unit)} {r : List α → Int → List α} (he : Enters P g) (ha : ∀ t, a.l 0 t = mapE T.own (r t.1 t.2.1))
    (h1 : ∀ (k0 : Int) (l : List α), a.pre (l, k0, ()) = true → OkR P g [.one (.arr 0 0 l.length), .one (.pv (.sc (.int .i64 k0)))] [(0, .row T.sz (mapE T.own l))] 1 (.one (.pv (.sc (.int .i64 (a.i 0 (l, k0, ())))))) [(0, .row T.sz (mapE T.own (r l k0)))] 1)
    (h2 : ∀ (k0 : Int) (p : PV), els p = [] → isNo p = true → OkR P g [.one (.pv p), .one (.pv (.sc (.int .i64 k0)))] [] 0 (.one (.pv (.sc (.int .i64 k0)))) [] 0)
    {I : Ops} (hI : I = real) {e : En} (hk : e = mkE (parsC (pO T) (parsC pI pars0)) a) : SoundR P g (markT I e T.sz) := by
  subst hI hk
  refine ⟨he, fun args σ0 n0 r0 σ n e => ?_⟩
  unfold Aix.markT at e
  split at e
  · rename_i x y
    split at e
    · rename_i m
      split at e
      · rename_i s es
        split at e
        · rename_i hb
          rw [Bool.and_eq_true] at hb
          have hs := beq_eq hb.1
          have hn0 := beq_eq hb.2
          subst hs hn0
          simp only [R.val] at e
          split at e
          · rename_i hm
            split at e
            · rename_i hp
              have hm : m = es.length := of_decide_eq_true hm
              have e := Option.some.inj e
              have hd : ∃ l k0, es = mapE T.own l ∧ y = .one (.pv (.sc (.int .i64 k0))) ∧ (parsC (pO T) (parsC pI pars0)).dec [.one (.pv (.sl true T.sz es)), y] = some (l, k0, ()) := by
                simp only [mkE] at hp
                split at hp
                · rename_i t ht
                  have ht0 := ht
                  simp only [parsC] at ht
                  split at ht
                  · rename_i a0 t0 g1 g2
                    cases ht
                    split at g2
                    · rename_i a1 t1 g3 g4
                      cases g2
                      simp only [pars0] at g4
                      cases g4
                      simp only [pI] at g3
                      split at g3
                      · rename_i k0
                        cases g3
                        simp only [pO] at g1
                        split at g1
                        · rename_i hs
                          cases g1
                          exact ⟨_, _, hs.2, rfl, ht0⟩
                        · cases g1
                      · cases g3
                    · cases g2
                  · cases ht
                · cases hp
              obtain ⟨l, k0, rfl, rfl, hd⟩ := hd
              simp only [mkE, hd] at hp e
              simp only [Prod.mk.injEq] at e
              obtain ⟨rfl, rfl, rfl⟩ := e
              rw [mapE_length] at hm
              subst hm
              rw [ha]
              exact h1 k0 l hp
            · cases e
          · cases e
        · simp [val_stuck] at e
      · simp [val_stuck] at e
    · rename_i p
      split at e
      · split at e
        · split at e
          · rename_i hb
            have hn0 := beq_eq hb
            subst hn0
            split at e
            · simp only [val_ok, Option.some.injEq, Prod.mk.injEq] at e
              obtain ⟨rfl, rfl, rfl⟩ := e
              exact h2 _ _ rfl rfl
            · simp [val_stuck] at e
          · simp [val_stuck] at e
        · simp [val_stuck] at e
      · split at e
        · split at e
          · rename_i hb
            have hn0 := beq_eq hb
            subst hn0
            split at e
            · simp only [val_ok, Option.some.injEq, Prod.mk.injEq] at e
              obtain ⟨rfl, rfl, rfl⟩ := e
              exact h2 _ _ rfl rfl
            · simp [val_stuck] at e
          · simp [val_stuck] at e
        · simp [val_stuck] at e
      · simp [val_stuck] at e
    · simp [val_stuck] at e
  · simp [val_stuck] at e
end
/-! ### Plain forms -/
theorem r_isNo (u : Bool) (s : Nat) (es : List (List PV)) : real.isNo (.sl u s es) = decide (es.length = 0) := by
  cases es with
  | nil => rfl
  | cons => rfl
theorem r_isOwn (s : Nat) (es : List (List PV)) : real.isOwn s (.sl true s es) = decide (0 < es.length) := by
  cases es with
  | nil => rfl
  | cons => exact Nat.beq_refl s
end Go.Aix
