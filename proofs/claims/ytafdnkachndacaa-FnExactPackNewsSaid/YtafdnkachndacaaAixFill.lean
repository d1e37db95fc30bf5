/-
  THE CALCULUS, EIGHTH TEXT: values laid together, and what is given away.
-/
import Derived.Test.YtafdnkachndacaaAixAddr
set_option linter.unusedSimpArgs false
set_option linter.unusedVariables false
namespace Go.Aix
section
variable {P : Program} {X : Ctx} {E : Ent} {β : Nat → Nat × Nat} {O : Nat → List Nat} {S : St} {a : Act} {w : World} {M : Nat → Prop} {env : EnvT}

theorem AV.cells_sound {x : AV} {cs : List Cell} {v : Value} (h : RAV w M env x v) (e : x.cells.val = some cs) : RCs w M env cs v.cells.toList := by
  cases h with
  | one h =>
    simp only [AV.cells, val_ok, Option.some.injEq] at e
    subst e
    have h1 := h.oneV
    have : v.cells.toList = [v] := by cases v <;> first | rfl | (simp [oneV] at h1)
    rw [this]
    exact .cons h .nil
  | ag h =>
    simp only [AV.cells, val_ok, Option.some.injEq] at e
    subst e
    exact h
  | tp h => simp [AV.cells, val_stuck] at e

theorem setAt_eq {α : Type} : ∀ {cs : List α} {j : Nat} {vs : List α}, j ≤ cs.length → setAt cs j vs = cs.take j ++ vs ++ cs.drop (j + vs.length)
  | cs, 0, vs, _ => by simp [setAt]
  | [], j + 1, vs, h => by simp at h
  | c :: cs, j + 1, vs, h => by
    have ih := setAt_eq (cs := cs) (j := j) (vs := vs) (by simpa using h)
    rw [setAt, ih, show j + 1 + vs.length = (j + vs.length) + 1 from by omega]
    simp
theorem RCs.setAt {cs ds : List Cell} {vs us : List Value} {j : Nat} (h : RCs w M env cs vs) (hd : RCs w M env ds us) (hle : j + ds.length ≤ cs.length) : RCs w M env (setAt cs j ds) (over vs j us) := by
  have hl := hd.length
  rw [setAt_eq (by omega)]
  unfold over
  rw [← hl]
  exact ((h.take j).append hd).append (h.drop _)

theorem foldl_over (off : Nat) : ∀ (us : List Value) (k : Nat) (cs : Array Value), off + k + us.length ≤ cs.size →
    ((us.zipIdx k).foldl (fun cs (c, j) => cs.setIfInBounds (off + j) c) cs) = (over cs.toList (off + k) us).toArray
  | [], k, cs, _ => by simp [over]
  | u :: us, k, cs, h => by
    rw [List.zipIdx_cons, List.foldl_cons]
    rw [foldl_over off us (k + 1) _ (by simp at h ⊢; omega)]
    rw [Array.toList_setIfInBounds, ← Nat.add_assoc, over_cons (by simp at h ⊢; omega)]
theorem fold_over (off : Nat) (us cs : Array Value) (h : off + us.size ≤ cs.size) :
    us.zipIdx.foldl (fun cs (c, j) => cs.setIfInBounds (off + j) c) cs = (over cs.toList off us.toList).toArray := by
  have := foldl_over off us.toList 0 cs (by simpa using h)
  rw [← Array.foldl_toList, Array.toList_zipIdx]
  exact this

theorem fillA_sound (hS : Rel E β O S a w) {pl : Nat → Option (Nat × Nat)} {place : Nat → Option (Nat × Nat)} (hp : ∀ i x, place i = some x → pl i = some x) :
    ∀ {ps : List (Nat × Operand)} {qs : List (Nat × Nat × List Cell)} {cs cs' : List Cell} {vs : Array Value}, (partsA S place ps).val = some qs → (fillA cs qs).val = some cs' → RCs w (Mof E β O S.σ) (envOf β S.σ) cs vs.toList →
    ∃ vs', Instr.fill pl vs (ps.map fun (i, x) => (i, a.eval x)) = some vs' ∧ RCs w (Mof E β O S.σ) (envOf β S.σ) cs' vs'.toList ∧ vs'.size = vs.size
  | [], qs, cs, cs', vs, h1, h2, hR => by
    simp only [partsA, val_ok, Option.some.injEq] at h1
    subst h1
    simp only [fillA, val_ok, Option.some.injEq] at h2
    subst h2
    exact ⟨vs, rfl, hR, rfl⟩
  | (i, x) :: ps, qs, cs, cs', vs, h1, h2, hR => by
    simp only [partsA, val_do] at h1
    obtain ⟨⟨off, sz⟩, e1, h1⟩ := some_bind h1
    rw [val_of] at e1
    obtain ⟨av, e2, h1⟩ := some_bind h1
    obtain ⟨ds, e3, h1⟩ := some_bind h1
    obtain ⟨rs, e4, h1⟩ := some_bind h1
    simp only [val_ok, Option.some.injEq] at h1
    subst h1
    simp only [fillA] at h2
    split at h2
    · rename_i hb
      rw [Bool.and_eq_true] at hb
      have hb1 := beq_eq hb.1
      have hb2 := Nat.le_of_ble_eq_true hb.2
      have hd := AV.cells_sound (evalO_sound hS e2) e3
      have hl := hd.length
      have hl2 := hR.length
      obtain ⟨vs', r1, r2, r3⟩ := fillA_sound hS hp (vs := (over vs.toList off (a.eval x).cells.toList).toArray) e4 h2 (by simpa using hR.setAt hd (by omega))
      simp at hl hl2
      refine ⟨vs', ?_, r2, ?_⟩
      · simp only [List.map_cons, Instr.fill, hp i _ e1]
        have c1 : ¬ (((a.eval x).cells.size != sz) = true ∨ off + (a.eval x).cells.size > vs.size) := by
          simp
          omega
        have c2 : ((decide ((a.eval x).cells.size ≠ sz)) || decide (off + (a.eval x).cells.size > vs.size)) = false := by
          simp
          omega
        rw [c2]
        simp only [Bool.false_eq_true, if_false]
        rw [fold_over off _ _ (by omega)]
        exact r1
      · rw [r3]
        have := over_length (vs := vs.toList) (us := (a.eval x).cells.toList) (off := off) (by simp; omega)
        simpa using this
    · simp [val_stuck] at h2

/-- What goes to elements: what they own comes from chunks that are gone. -/
theorem freeze_sound (h : RelM M E β O S a w) {env0 : EnvT} (henv : ∀ c x, envOf β S.σ c = some x → env0 c = some x) {c : Cell} {v : Value} (hv : RCell w M env0 c v) {p : PV} {S' : St}
    (e : (freeze real S c).val = some (p, S')) :
    ∃ Op, RelM M E β O S' a w ∧ RPV w M p v Op ∧ Op.Nodup ∧ (∀ b ∈ Op, ∃ k ch, lk k S.σ = some ch ∧ lk k S'.σ = none ∧ b ∈ (β k).1 :: O k) ∧ (∀ k ch, lk k S'.σ = some ch → ∃ ch0, lk k S.σ = some ch0) ∧
      (∀ b, Mof E β O S'.σ b → Mof E β O S.σ b) ∧ (∀ c x, envOf β S'.σ c = some x → envOf β S.σ c = some x) ∧ S'.next = S.next := by
  unfold freeze at e
  split at e
  · rename_i p'
    simp only [val_ok, Option.some.injEq, Prod.mk.injEq] at e
    obtain ⟨rfl, rfl⟩ := e
    cases hv with
    | pv hv =>
      refine ⟨[], h, hv, List.nodup_nil, fun _ h => by simp at h, fun k ch hk => ⟨ch, hk⟩, fun _ h => h, fun _ _ h => h, rfl⟩
  · rename_i c n
    split at e
    · rename_i sz es hlk
      simp only [val_ok, Option.some.injEq, Prod.mk.injEq] at e
      obtain ⟨rfl, rfl⟩ := e
      have henvc : envOf β S.σ c = some ((β c).1, sz, es.length, (β c).2) := by unfold envOf; rw [hlk]; rfl
      cases hv with
      | arr he hm hn hc =>
        rename_i b off sz' m N cap
        rw [henv c _ henvc] at he
        simp only [Option.some.injEq, Prod.mk.injEq] at he
        obtain ⟨rfl, rfl, rfl, rfl⟩ := he
        have hch := h.mem.chunk c _ hlk
        have hnd := h.mem.nodup c _ hlk
        have hkl : ∀ k ch, lk k (kill c S).σ = some ch → ∃ ch0, lk k S.σ = some ch0 := by
          intro k ch hk
          simp only [kill, kill_lk] at hk
          split at hk
          · cases hk
          · obtain ⟨y, hy, _⟩ := Option.map_eq_some_iff.1 hk
            exact ⟨y, hy⟩
        have hRel : RelM M E β O (kill c S) a w := by
          refine ⟨h.mem.kill c, ?_, h.nodef⟩
          intro t av ht
          simp only [kill] at ht
          rw [lk_map (killA c)] at ht
          obtain ⟨av0, h0, rfl⟩ := Option.map_eq_some_iff.1 ht
          obtain ⟨h1, h2⟩ := h.slots t av0 h0
          exact ⟨h1, h2.kill Turn.refl (kill_env c)⟩
        have hMs : ∀ b, Mof E β O (kill c S).σ b → Mof E β O S.σ b := fun b hb => kill_M c b hb
        have hEs : ∀ d x, envOf β (kill c S).σ d = some x → envOf β S.σ d = some x := by
          intro d x hd
          by_cases hdc : d = c
          · subst hdc
            unfold envOf at hd
            simp only [kill, kill_lk, if_true, Option.map_none] at hd
            cases hd
          · rw [← hd]; exact (kill_env (β := β) (σ := S.σ) c d hdc).symm
        have hgone : lk c (kill c S).σ = none := by simp only [kill, kill_lk, if_true]
        generalize hO : O c = Oc at hch hnd
        cases hch with
        | row hb hN hR =>
          rename_i vs t
          obtain ⟨A, B, C, e1, e2⟩ := hR.ext 0 n
          by_cases h0 : n = 0
          · subst h0
            refine ⟨[], hRel, ?_, List.nodup_nil, fun _ h => by simp at h, hkl, hMs, hEs, rfl⟩
            show RPV w _ (.sl true sz ((es.drop 0).take 0)) _ _
            rw [List.take_zero]
            exact .nil
          · have hoff : off = 0 ∧ cap * sz ≤ vs.size := by
              rcases hc with hz | ⟨hz, hz2⟩
              · omega
              · exact ⟨by simpa using hz, by rw [hN]; simpa using hz2⟩
            obtain ⟨rfl, hcs⟩ := hoff
            have hlen : ((es.drop 0).take n).length = n := by rw [List.length_take, List.length_drop]; omega
            refine ⟨(β c).1 :: B, hRel, ?_, ?_, ?_, hkl, hMs, hEs, rfl⟩
            · have := RPV.un (w := w) (M := M) (sz := sz) (b := (β c).1) (cap := cap) (es := (es.drop 0).take n) (O := B)
                (by rw [← List.length_pos_iff, hlen]; omega) hb (by rw [hlen]; exact hn) hcs (by simpa using e2)
              rw [hlen] at this
              exact this
            · rw [List.nodup_cons] at hnd ⊢
              rw [e1] at hnd
              refine ⟨fun hm => hnd.1 (by simp [hm]), ?_⟩
              have := hnd.2
              rw [List.append_assoc, List.nodup_append] at this
              have := this.2.1
              rw [List.nodup_append] at this
              exact this.1
            · intro x hx
              refine ⟨c, _, hlk, hgone, ?_⟩
              rw [hO, e1]
              rcases List.mem_cons.1 hx with rfl | hx
              · exact List.mem_cons_self
              · exact List.mem_cons_of_mem _ (by simp [hx])
    · simp [val_stuck] at e
  · simp only [val_ok, Option.some.injEq, Prod.mk.injEq] at e
    obtain ⟨rfl, rfl⟩ := e
    refine ⟨[], h, .dd hv.oneV, List.nodup_nil, fun _ h => by simp at h, fun k ch hk => ⟨ch, hk⟩, fun _ h => h, fun _ _ h => h, rfl⟩
  · simp [val_stuck] at e

theorem freezes_sound {env0 : EnvT} : ∀ {cs : List Cell} {vs : List Value} {S : St} {ps : List PV} {S' : St}, RelM M E β O S a w → (∀ c x, envOf β S.σ c = some x → env0 c = some x) →
    RCs w M env0 cs vs → (freezes real S cs).val = some (ps, S') →
    ∃ Op, RelM M E β O S' a w ∧ RL w M ps vs Op ∧ ps.length = vs.length ∧ Op.Nodup ∧ (∀ b ∈ Op, ∃ k ch, lk k S.σ = some ch ∧ lk k S'.σ = none ∧ b ∈ (β k).1 :: O k) ∧ (∀ k ch, lk k S'.σ = some ch → ∃ ch0, lk k S.σ = some ch0) ∧
      (∀ b, Mof E β O S'.σ b → Mof E β O S.σ b) ∧ (∀ c x, envOf β S'.σ c = some x → envOf β S.σ c = some x) ∧ S'.next = S.next
  | [], vs, S, ps, S', h, henv, hR, e => by
    simp only [freezes, val_ok, Option.some.injEq, Prod.mk.injEq] at e
    obtain ⟨rfl, rfl⟩ := e
    cases hR
    exact ⟨[], h, .nil, rfl, List.nodup_nil, fun _ h => by simp at h, fun k ch hk => ⟨ch, hk⟩, fun _ h => h, fun _ _ h => h, rfl⟩
  | c :: cs, vs, S, ps, S', h, henv, hR, e => by
    simp only [freezes, val_do] at e
    obtain ⟨⟨p, S1⟩, e1, e⟩ := some_bind e
    obtain ⟨⟨qs, S2⟩, e2, e⟩ := some_bind e
    simp only [val_ok, Option.some.injEq, Prod.mk.injEq] at e
    obtain ⟨rfl, rfl⟩ := e
    cases hR with
    | cons hv hR =>
      rename_i v vs
      obtain ⟨O1, a1, a2, a3, a4, a5, a6, a7, a8⟩ := freeze_sound h henv hv e1
      obtain ⟨O2, b1, b2, b2', b3, b4, b5, b6, b7, b8⟩ := freezes_sound a1 (fun c x hc => henv c x (a7 c x hc)) hR e2
      refine ⟨O1 ++ O2, b1, .cons a2 b2, by simp [b2'], ?_, ?_, ?_, fun b hb => a6 b (b6 b hb), fun c x hc => a7 c x (b7 c x hc), b8.trans a8⟩
      · rw [List.nodup_append]
        refine ⟨a3, b3, ?_⟩
        intro x hx y hy hxy
        subst hxy
        obtain ⟨k, ch, h1, h2, h3⟩ := a4 x hx
        obtain ⟨k', ch', h1', h2', h3'⟩ := b4 x hy
        obtain ⟨ch0, h0⟩ := a5 k' ch' h1'
        have hne : k ≠ k' := fun e => by subst e; rw [h2] at h1'; cases h1'
        exact h.mem.disj k k' ch ch0 h1 h0 hne x h3 h3'
      · intro x hx
        rcases List.mem_append.1 hx with hx | hx
        · obtain ⟨k, ch, h1, h2, h3⟩ := a4 x hx
          refine ⟨k, ch, h1, ?_, h3⟩
          cases e : lk k S2.σ with
          | none => rfl
          | some y => obtain ⟨ch0, h0⟩ := b5 k y e; rw [h2] at h0; cases h0
        · obtain ⟨k, ch, h1, h2, h3⟩ := b4 x hx
          obtain ⟨ch0, h0⟩ := a5 k ch h1
          exact ⟨k, ch0, h0, h2, h3⟩
      · intro k ch hk
        obtain ⟨ch0, h0⟩ := b5 k ch hk
        exact a5 k ch0 h0
end
end Go.Aix
