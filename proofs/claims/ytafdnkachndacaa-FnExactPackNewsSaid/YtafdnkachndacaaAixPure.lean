/-
  THE CALCULUS, SIXTH TEXT: reading, addresses, slices of what is there.
-/
import Derived.Test.YtafdnkachndacaaAixReal
set_option linter.unusedSimpArgs false
set_option linter.unusedVariables false
namespace Go.Aix

theorem mapM_get {α β : Type} {f : α → Option β} : ∀ {l : List α} {r : List β}, l.mapM f = some r → r.length = l.length ∧ ∀ (k : Nat) (b : β), r[k]? = some b → ∃ a, l[k]? = some a ∧ f a = some b
  | [], r, h => by
    simp only [List.mapM_nil, Option.pure_def, Option.some.injEq] at h
    subst h
    exact ⟨rfl, fun k b hk => by simp at hk⟩
  | a :: l, r, h => by
    simp only [List.mapM_cons, Option.pure_def, Option.bind_eq_bind] at h
    obtain ⟨b, hb, h⟩ := some_bind h
    obtain ⟨s, hs, h⟩ := some_bind h
    simp only [Option.some.injEq] at h
    subst h
    obtain ⟨h1, h2⟩ := mapM_get hs
    refine ⟨by simp [h1], fun k c hk => ?_⟩
    cases k with
    | zero => simp only [List.getElem?_cons_zero, Option.some.injEq] at hk ⊢; subst hk; exact ⟨a, rfl, hb⟩
    | succ k => simp only [List.getElem?_cons_succ] at hk ⊢; exact h2 k c hk

section
variable {P : Program} {X : Ctx} {E : Ent} {β : Nat → Nat × Nat} {O : Nat → List Nat} {S : St} {a : Act} {w : World} {M : Nat → Prop} {env : EnvT}

theorem uOf_struct {d : TypeDesc} {l : List (Nat × Nat × Bool)} (h : uOf P d = .struct l) : ∃ fs, d = .struct fs ∧ l.length = fs.size ∧
    ∀ (k off sz : Nat) (g : Bool), l[k]? = some (off, sz, g) → ∃ fl i fd, fs[k]? = some fl ∧ fl.offset = off ∧ P.info? fl.type = some i ∧ i.size = sz ∧ P.underlying fl.type = some fd ∧ aggOf fd = g := by
  cases d <;> simp only [uOf, reduceCtorEq] at h
  rename_i fs
  split at h
  · rename_i r hr
    simp only [TyU.struct.injEq] at h
    subst h
    obtain ⟨h1, h2⟩ := mapM_get hr
    refine ⟨fs, rfl, by simpa using h1, fun k off sz g hk => ?_⟩
    obtain ⟨fl, h3, h4⟩ := h2 k _ hk
    obtain ⟨i, hi, h5⟩ := some_bind h4
    obtain ⟨fd, hd, h6⟩ := Option.map_eq_some_iff.1 h5
    simp only [Prod.mk.injEq] at h6
    exact ⟨fl, i, fd, by simpa using h3, h6.1, hi, h6.2.1, hd, h6.2.2⟩
  · cases h
theorem uOf_slice {d : TypeDesc} {e : TypeId} (h : uOf P d = .slice e) : d = .slice e := by
  cases d <;> simp only [uOf, reduceCtorEq] at h
  · simpa using h
  · split at h <;> cases h
theorem uOf_str {d : TypeDesc} (h : uOf P d = .str) : d = .string := by
  cases d <;> simp only [uOf, reduceCtorEq] at h
  · rfl
  · split at h <;> cases h
theorem uOf_int {d : TypeDesc} {k : IntKind} (h : uOf P d = .int k) : d = .int k := by
  cases d <;> simp only [uOf, reduceCtorEq] at h
  · simpa using h
  · split at h <;> cases h

/-! ### Cells, one by one -/
theorem RCs.length : ∀ {cs : List Cell} {vs : List Value}, RCs w M env cs vs → cs.length = vs.length
  | _, _, .nil => rfl
  | _, _, .cons _ hr => congrArg (· + 1) (RCs.length hr)
theorem RCs.get : ∀ {cs : List Cell} {vs : List Value}, RCs w M env cs vs → ∀ (i : Nat) (c : Cell) (v : Value), cs[i]? = some c → vs[i]? = some v → RCell w M env c v
  | _, _, .nil, i, c, v, hc, _ => by simp at hc
  | _, _, .cons h hr, 0, c, v, hc, hv => by
    simp only [List.getElem?_cons_zero, Option.some.injEq] at hc hv
    subst hc; subst hv; exact h
  | _, _, .cons h hr, i + 1, c, v, hc, hv => by
    simp only [List.getElem?_cons_succ] at hc hv
    exact RCs.get hr i c v hc hv
theorem RCs.of_get : ∀ {cs : List Cell} {vs : List Value}, cs.length = vs.length → (∀ (i : Nat) (c : Cell) (v : Value), cs[i]? = some c → vs[i]? = some v → RCell w M env c v) → RCs w M env cs vs
  | [], [], _, _ => .nil
  | [], _ :: _, h, _ => by simp at h
  | _ :: _, [], h, _ => by simp at h
  | c :: cs, v :: vs, h, hg => .cons (hg 0 c v rfl rfl) (RCs.of_get (by simpa using h) fun i c v hc hv => hg (i + 1) c v (by simpa using hc) (by simpa using hv))
theorem RCs.drop : ∀ {cs : List Cell} {vs : List Value} (n : Nat), RCs w M env cs vs → RCs w M env (cs.drop n) (vs.drop n)
  | _, _, 0, h => by simpa using h
  | _, _, n + 1, .nil => by simpa using .nil
  | _, _, n + 1, .cons _ hr => by simpa using RCs.drop n hr
theorem RCs.take : ∀ {cs : List Cell} {vs : List Value} (n : Nat), RCs w M env cs vs → RCs w M env (cs.take n) (vs.take n)
  | _, _, 0, h => by simpa using .nil
  | _, _, n + 1, .nil => by simpa using .nil
  | _, _, n + 1, .cons h hr => by simpa using .cons h (RCs.take n hr)
theorem RCs.append : ∀ {cs ds : List Cell} {vs us : List Value}, RCs w M env cs vs → RCs w M env ds us → RCs w M env (cs ++ ds) (vs ++ us)
  | _, _, _, _, .nil, h => h
  | _, _, _, _, .cons h hr, h' => .cons h (RCs.append hr h')
theorem RCs.oneV : ∀ {cs : List Cell} {vs : List Value}, RCs w M env cs vs → ∀ v ∈ vs, oneV v = true
  | _, _, .nil, v, h => by simp at h
  | _, _, .cons h hr, v, hm => (List.mem_cons.1 hm).elim (fun e => e ▸ h.oneV) (RCs.oneV hr v)

theorem dn_real (p : PV) : dn real p = p.down := by
  cases p with
  | sc v => rw [PV.down]; rfl
  | nl => rw [PV.down]; rfl
  | dd => rw [PV.down]; rfl
  | sl un sz es => rw [PV.down]; rfl
theorem RCell.dn {c : Cell} {v : Value} (h : RCell w M env c v) : RCell w M env (dnC real c) v := by
  cases h with
  | pv h => exact .pv (by rw [dn_real]; exact h.down (fun _ h => by simp at h))
  | ptr h hi => exact .ptr h hi
  | arr h hm hn hc => exact .arr h hm hn hc
  | ep hM hb h => exact .ep hM hb h
  | fn h => exact .fn h
  | top h => exact .top h
theorem RCs.dn : ∀ {cs : List Cell} {vs : List Value}, RCs w M env cs vs → RCs w M env (cs.map (dnC real)) vs
  | _, _, .nil => .nil
  | _, _, .cons h hr => .cons h.dn (RCs.dn hr)

/-- A value out of its cells. -/
def gv (g : Bool) (vs : List Value) : Value := match g with
  | true => .agg vs.toArray
  | false => vs.headD undef
theorem mk_sound {g : Bool} {cs : List Cell} {vs : List Value} {x : AV} (h : RCs w M env cs vs) (e : (mk g cs).val = some x) :
    RAV w M env x (gv g vs) ∧ (g = false → vs.length = 1) := by
  unfold mk at e
  cases g with
  | true =>
    simp only [val_ok, Option.some.injEq] at e
    subst e
    exact ⟨.ag (by simpa using h), fun h => by cases h⟩
  | false =>
    simp only at e
    split at e
    · rename_i c
      simp only [val_ok, Option.some.injEq] at e
      subst e
      cases h with
      | cons h hr => cases hr; exact ⟨.one h, fun _ => rfl⟩
    · simp [val_stuck] at e

theorem envOf_some {σ : Store} {c b sz n N : Nat} (h : envOf β σ c = some (b, sz, n, N)) : ∃ ch, lk c σ = some ch ∧ (β c).1 = b ∧ ch.sz = sz ∧ ch.cnt = n ∧ (β c).2 = N := by
  unfold envOf at h
  obtain ⟨ch, h1, h2⟩ := Option.map_eq_some_iff.1 h
  simp only [Prod.mk.injEq] at h2
  exact ⟨ch, h1, h2.1, h2.2.1, h2.2.2.1, h2.2.2.2⟩

/-! ### Load -/
theorem run_loadVar {t : TypeId} {i : TypeInfo} {d : TypeDesc} {b off : Nat} {l : List Value} (hi : P.info? t = some i) (hd : P.underlying t = some d) (hb : blk w b = some l) (hle : off + i.size ≤ l.length)
    (h1 : aggOf d = false → i.size = 1) : (loadVar t ⟨b, off, none⟩).run P w = .ok (gv (aggOf d) ((l.drop off).take i.size)) w := by
  unfold loadVar
  rw [Sem.run_bind, run_isAgg hd, Result.andThen_ok]
  cases hg : aggOf d with
  | true =>
    simp only [if_true, Sem.run_bind, run_size hi, Result.andThen_ok, run_loadCells P hb off i.size hle]
    rfl
  | false =>
    have hs := h1 hg
    simp only [Bool.false_eq_true, if_false]
    have hlt : off < l.length := by omega
    rw [run_load_blk P hb (List.getElem?_eq_getElem hlt), hs]
    rw [List.drop_eq_getElem_cons hlt]
    rfl

theorem range_get {α : Type} {n : Nat} {f : Nat → α} {q : Nat} {c : α} (h : ((List.range n).map f)[q]? = some c) : q < n ∧ c = f q := by
  rw [List.getElem?_map] at h
  obtain ⟨r, h1, h2⟩ := Option.map_eq_some_iff.1 h
  obtain ⟨h3, h4⟩ := List.getElem?_eq_some_iff.1 h1
  simp at h3 h4
  subst h4
  exact ⟨h3, h2.symm⟩
theorem take_drop_get {α : Type} {l : List α} {o n q : Nat} {v : α} (h : ((l.drop o).take n)[q]? = some v) : l[o + q]? = some v := by
  rw [List.getElem?_take] at h
  split at h
  · rwa [List.getElem?_drop] at h
  · cases h

/-- Cells of element i of a row. -/
theorem RL.of_getO : ∀ {ps : List PV} {vs : List Value}, ps.length ≤ vs.length → (∀ (i : Nat) (p : PV) (v : Value), ps[i]? = some p → vs[i]? = some v → ∃ Op, RPV w M p v Op) → ∃ Op, RL w M ps vs Op
  | [], _, _, _ => ⟨_, .nil⟩
  | _ :: _, [], h, _ => by simp at h
  | p :: ps, v :: vs, h, hg => by
    obtain ⟨O1, h1⟩ := hg 0 p v rfl rfl
    obtain ⟨O2, h2⟩ := RL.of_getO (ps := ps) (vs := vs) (by simpa using h) fun i p v hp hv => hg (i + 1) p v (by simpa using hp) (by simpa using hv)
    exact ⟨_, .cons h1 h2⟩
theorem row_cells {b N sz : Nat} {es : List (List PV)} {Oc : List Nat} (h : ChunkRel w M env b N (.row sz es) Oc) {i j n : Nat} (hi : i < es.length) (hj : j + n ≤ sz) :
    ∃ l Op, blk w b = some l ∧ i * sz + j + n ≤ l.length ∧ RL w M ((List.range n).map fun q => real.nth es i (j + q)) ((l.drop (i * sz + j)).take n) Op := by
  cases h with
  | row hb hN h =>
    rename_i vs t
    have hge : es[i]? = some es[i] := List.getElem?_eq_getElem hi
    obtain ⟨h1, A, B, C, h2, h3⟩ := h.get i _ hge
    have hle := h3.le
    rw [List.length_drop, h1] at hle
    have hle2 := h.le
    have hmul : (i + 1) * sz ≤ es.length * sz := Nat.mul_le_mul_right _ hi
    rw [Nat.add_mul, Nat.one_mul] at hmul
    suffices hx : ∃ Op, RL w M ((List.range n).map fun q => real.nth es i (j + q)) ((vs.toList.drop (i * sz + j)).take n) Op by
      obtain ⟨Op, hx⟩ := hx
      exact ⟨vs.toList, Op, blk_some hb, by omega, hx⟩
    refine RL.of_getO (by simp; simp at hle hle2; omega) ?_
    intro q c v hc hv
    obtain ⟨hq, rfl⟩ := range_get hc
    have hv := take_drop_get hv
    have hjq : j + q < es[i].length := by rw [h1]; omega
    obtain ⟨v', O1, h4, h5, h6⟩ := h3.get (j + q) es[i][j + q] (List.getElem?_eq_getElem hjq)
    rw [List.getElem?_drop, ← Nat.add_assoc, hv] at h4
    obtain rfl := Option.some.inj h4
    have hn : real.nth es i (j + q) = es[i][j + q] := by
      show ((es[i]?.getD [])[j + q]?).getD _ = _
      rw [hge]
      simp [List.getElem?_eq_getElem hjq]
    rw [hn]
    exact ⟨_, h5⟩

theorem RPV.asSh {M : Nat → Prop} {p : PV} {v : Value} {sz : Nat} {Op : List Nat} (h : RPV w M p v Op) (hp : isSh sz p = true) : RPV w M (.sl false sz (els p)) v [] := by
  cases h with
  | sc => cases hp
  | nl => exact .nil
  | nil => exact .nil
  | sh a b c d e =>
    have := beq_eq (show Nat.beq _ sz = true from hp)
    subst this
    exact .sh a b c d e
  | un a =>
    rename_i es _ _ _ _ _ _ _
    cases es with
    | nil => exact absurd rfl a
    | cons => cases hp
  | dd => cases hp
theorem RPV.asSl {M : Nat → Prop} {p : PV} {v : Value} {sz : Nat} (h : RPV w M p v []) (hp : isSl sz p = true) : RPV w M (.sl false sz (els p)) v [] := by
  cases p with
  | sc => cases hp
  | nl => cases h; exact .nil
  | sl un s es =>
    have := beq_eq (show Nat.beq s sz = true from hp)
    subst this
    generalize hO : ([] : List Nat) = O0 at h
    cases h with
    | nil => exact .nil
    | sh a b c d e => exact .sh a b c d e
    | un => cases hO
  | dd => cases hp
theorem castP_sound {M : Nat → Prop} {env : EnvT} {k : Kd} {p : PV} {v : Value} {c : Cell} {Op : List Nat} (h : RPV w M p v Op) (e : (castP real k p).val = some c) : RCell w M env c v := by
  unfold castP at e
  cases k with
  | int k =>
    simp only [R.val] at e
    split at e
    · rename_i hp
      obtain rfl := Option.some.inj e
      have hp : isPInt k p = true := hp
      unfold isPInt at hp
      split at hp
      · simp only [decide_eq_true_eq] at hp
        subst hp
        cases h with
        | sc h => exact .pv (.sc h)
      · cases hp
    · cases e
  | bool =>
    simp only [R.val] at e
    split at e
    · rename_i hp
      obtain rfl := Option.some.inj e
      have hp : isPBool p = true := hp
      unfold isPBool at hp
      split at hp
      · cases h with
        | sc h => exact .pv (.sc h)
      · cases hp
    · cases e
  | str =>
    simp only [R.val] at e
    split at e
    · rename_i hp
      obtain rfl := Option.some.inj e
      have hp : isPStr p = true := hp
      unfold isPStr at hp
      split at hp
      · cases h with
        | sc h => exact .pv (.sc h)
      · cases hp
    · cases e
  | sl sz =>
    simp only [R.val] at e
    split at e
    · rename_i hp
      obtain rfl := Option.some.inj e
      exact .pv (h.asSh hp)
    · cases e
  | other =>
    simp only [R.val] at e
    split at e
    · rename_i hp
      obtain rfl := Option.some.inj e
      exact .pv (h.one hp)
    · cases e
theorem castL_sound {M : Nat → Prop} {env : EnvT} : ∀ {ks : List Kd} {ps : List PV} {cs : List Cell} {vs : List Value} {Op : List Nat}, RL w M ps vs Op → ps.length = vs.length → (castL real ks ps).val = some cs → RCs w M env cs vs
  | ks, [], cs, vs, _, h, hl, e => by
    have : vs = [] := List.length_eq_zero_iff.1 hl.symm
    subst this
    have e : some [] = some cs := by
      cases ks <;> exact e
    obtain rfl := Option.some.inj e
    exact .nil
  | [], p :: ps, cs, vs, _, h, hl, e => by
    unfold castL at e
    rw [val_do] at e
    obtain ⟨c, h1, e⟩ := some_bind e
    rw [val_do] at e
    obtain ⟨cs', h2, e⟩ := some_bind e
    obtain rfl := Option.some.inj e
    cases h with
    | cons h hr => exact .cons (castP_sound h h1) (castL_sound hr (by simpa using hl) h2)
  | k :: ks, p :: ps, cs, vs, _, h, hl, e => by
    unfold castL at e
    rw [val_do] at e
    obtain ⟨c, h1, e⟩ := some_bind e
    rw [val_do] at e
    obtain ⟨cs', h2, e⟩ := some_bind e
    obtain rfl := Option.some.inj e
    cases h with
    | cons h hr => exact .cons (castP_sound h h1) (castL_sound hr (by simpa using hl) h2)
theorem loadA_sound (hX : XOk P X) {t : TypeId} {y : TyI} (hy : X t = some y) (h : Rel E β O S a w) {av x : AV} {v : Value} (hv : RAV w (Mof E β O S.σ) (envOf β S.σ) av v) (e : (loadA real S y av).val = some x) :
    ∃ u, (Instr.loadAt t v).run P w = .ok u w ∧ RAV w (Mof E β O S.σ) (envOf β S.σ) x u := by
  obtain ⟨i, d, z, hi, hd, _, _, hagg, hsz, _, _⟩ := tyOf_some (hX t y hy)
  have main : ∀ (b off : Nat) (l : List Value) (cs : List Cell), v = .pointer (some ⟨b, off, none⟩) → blk w b = some l → off + y.size ≤ l.length → RCs w (Mof E β O S.σ) (envOf β S.σ) cs ((l.drop off).take y.size) → (mk y.agg cs).val = some x →
      ∃ u, (Instr.loadAt t v).run P w = .ok u w ∧ RAV w (Mof E β O S.σ) (envOf β S.σ) x u := by
    intro b off l cs hv hb hle hR he
    obtain ⟨h1, h2⟩ := mk_sound hR he
    subst hv
    refine ⟨_, ?_, h1⟩
    unfold Instr.loadAt Instr.sureAddr
    rw [Sem.run_bind, Sem.run_pure, Result.andThen_ok]
    rw [run_loadVar hi hd hb (by rw [← hsz]; exact hle) (fun hg => ?_), ← hagg, hsz]
    have := h2 (by rw [hagg]; exact hg)
    rw [List.length_take, List.length_drop] at this
    omega
  unfold loadA at e
  split at e
  · rename_i c i' j
    cases hv with
    | one hv =>
    cases hv with
    | ptr he hlt =>
    rename_i b sz n N
    obtain ⟨ch, hc, hb, hs, hn, hN⟩ := envOf_some he
    split at e
    · rename_i cs hlk
      split at e
      · rename_i hble
        have hble := Nat.le_of_ble_eq_true hble
        rw [hlk] at hc
        obtain rfl := Option.some.inj hc
        have hcr := h.mem.chunk c _ hlk
        generalize O c = Oc at hcr
        cases hcr with
        | box hb' hN' hR =>
          rename_i vs ty
          have hi0 : i' = 0 := by simp [Chunk.cnt] at hn; omega
          subst hi0
          have hl := hR.length
          have hle : j + y.size ≤ vs.toList.length := by rw [← hl]; exact hble
          exact main b (0 * sz + j) vs.toList _ rfl (hb ▸ blk_some hb') (by omega) (by simpa using (hR.drop j).take y.size) (by simpa using e)
      · simp [val_stuck] at e
    · rename_i sz' es hlk
      split at e
      · rename_i hble
        have hble := Nat.le_of_ble_eq_true hble
        rw [hlk] at hc
        obtain rfl := Option.some.inj hc
        simp only [Chunk.sz] at hs
        subst hs
        have hcr := h.mem.chunk c _ hlk
        have hlt2 : i' < es.length := by simp [Chunk.cnt] at hn; omega
        obtain ⟨l, Op, h1, h2, h3⟩ := row_cells hcr hlt2 hble
        rw [val_do] at e
        obtain ⟨cs, e1, e⟩ := some_bind e
        refine main b (i' * sz' + j) l _ rfl (hb ▸ h1) h2 (castL_sound h3 ?_ e1) e
        rw [List.length_map, List.length_range, List.length_take, List.length_drop]
        omega
      · simp [val_stuck] at e
    · rename_i sz' es i2 cs hlk
      split at e
      · rename_i hble
        have hble := Nat.le_of_ble_eq_true hble
        rw [hlk] at hc
        obtain rfl := Option.some.inj hc
        simp only [Chunk.sz] at hs
        subst hs
        simp only [R.val] at e
        split at e
        · rename_i hii
          have hii : i' = i2 := of_decide_eq_true hii
          subst hii
          have hcr := h.mem.chunk c _ hlk
          generalize O c = Oc at hcr
          cases hcr with
          | foc hb' hN' hi' hl' g1 g2 g3 =>
            rename_i vs ty A C
            have hle2 := g3.le
            have hgl := g2.length
            rw [List.length_take, List.length_drop] at hgl
            have hmain : i' * sz' + j + y.size ≤ vs.toList.length := by
              by_cases hz : sz' = 0
              · subst hz
                have : j + y.size = 0 := by omega
                simp at *
                omega
              · generalize i' * sz' = X at *
                omega
            have e2 : ((vs.toList.drop (i' * sz' + j)).take y.size) = (((vs.toList.drop (i' * sz')).take sz').drop j).take y.size := by
              rw [List.drop_take, List.take_take, Nat.min_eq_left (by omega), List.drop_drop]
            refine main b (i' * sz' + j) vs.toList _ rfl (hb ▸ blk_some hb') hmain ?_ e
            rw [e2]
            exact (g2.drop j).take y.size
        · cases e
      · simp [val_stuck] at e
    · simp [val_stuck] at e
  · rename_i cs
    cases hv with
    | one hv =>
    cases hv with
    | ep hM hb hR =>
    rename_i b off l
    split at e
    · rename_i hble
      rw [Bool.and_eq_true] at hble
      have hpos : 0 < y.size := by simpa using hble.1
      have hble := Nat.le_of_ble_eq_true hble.2
      have hle := hR.le
      rw [List.length_drop] at hle
      rw [val_do] at e
      obtain ⟨cs', e1, e⟩ := some_bind e
      have hx : ∃ Op, RL w (Mof E β O S.σ) (cs.take y.size) ((l.drop off).take y.size) Op := by
        refine RL.of_getO ?_ ?_
        · simp
          omega
        · intro q p v hp hv
          rw [List.getElem?_take] at hp
          split at hp
          · obtain ⟨v', O1, h4, h5, h6⟩ := hR.get q p hp
            have hv := take_drop_get hv
            rw [List.getElem?_drop, hv] at h4
            obtain rfl := Option.some.inj h4
            exact ⟨_, h5⟩
          · cases hp
      obtain ⟨Op, hx⟩ := hx
      refine main b off l _ rfl hb (by omega) (castL_sound hx ?_ e1) e
      rw [List.length_take, List.length_take, List.length_drop]
      omega
    · simp [val_stuck] at e
  · simp [val_stuck] at e
end
end Go.Aix
