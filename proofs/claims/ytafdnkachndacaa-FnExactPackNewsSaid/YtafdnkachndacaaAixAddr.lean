/-
  THE CALCULUS, SEVENTH TEXT: addresses, slices, parts.
-/
import Derived.Test.YtafdnkachndacaaAixPure
set_option linter.unusedSimpArgs false
set_option linter.unusedVariables false
namespace Go.Aix
section
variable {P : Program} {X : Ctx} {E : Ent} {β : Nat → Nat × Nat} {O : Nat → List Nat} {S : St} {a : Act} {w : World} {M : Nat → Prop} {env : EnvT}

theorem RL.drop0 : ∀ {ps : List PV} {vs : List Value} (n : Nat), RL w M ps vs [] → RL w M (ps.drop n) (vs.drop n) []
  | _, _, 0, h => by simpa using h
  | _, _, n + 1, h => by
    generalize hO : ([] : List Nat) = O0 at h
    cases h with
    | nil => simpa using .nil
    | cons h hr =>
      rename_i p v ps vs O1 O2
      obtain ⟨rfl, rfl⟩ := List.append_eq_nil_iff.1 hO.symm
      simpa using RL.drop0 n hr
theorem RL.of_get0 : ∀ {ps : List PV} {vs : List Value}, ps.length ≤ vs.length → (∀ (i : Nat) (p : PV) (v : Value), ps[i]? = some p → vs[i]? = some v → RPV w M p v []) → RL w M ps vs []
  | [], _, _, _ => .nil
  | _ :: _, [], h, _ => by simp at h
  | p :: ps, v :: vs, h, hg => .cons (O1 := []) (O2 := []) (hg 0 p v rfl rfl) (RL.of_get0 (by simpa using h) fun i p v hp hv => hg (i + 1) p v (by simpa using hp) (by simpa using hv))

theorem asI_sound {x : AV} {i : Int} {v : Value} (h : RAV w M env x v) (e : (asI x).val = some i) : ∃ k, v = .int k i := by
  unfold asI at e
  split at e
  · rename_i k j
    simp only [val_ok, Option.some.injEq] at e
    subst e
    exact ⟨k, RAV.sc h⟩
  · simp [val_stuck] at e

theorem fieldAddrA_sound (hX : XOk P X) {t : TypeId} {f off sz : Nat} {g : Bool} {x r : AV} {v : Value} (hf : (fieldOf X t f).val = some (off, sz, g)) (h : RAV w M env x v) (e : (fieldAddrA off x).val = some r) :
    ∃ u, (∀ w, (Instr.fieldAt t v f).run P w = .ok u w) ∧ RAV w M env r u := by
  unfold fieldOf typ at hf
  rw [val_do] at hf
  obtain ⟨y, hy, hf⟩ := some_bind hf
  rw [val_of] at hy
  split at hf
  · rename_i fs hu
    split at hf
    · rename_i off' sz' g' hfs
      split at hf
      · rename_i hz
        simp only [val_ok, Option.some.injEq, Prod.mk.injEq] at hf
        obtain ⟨rfl, rfl, rfl⟩ := hf
        obtain ⟨i, d, z, hi, hd, _, _, _, _, _, hu'⟩ := tyOf_some (hX t y hy)
        obtain ⟨fl, rfl, _, hfl⟩ := uOf_struct (hu'.symm.trans hu)
        obtain ⟨fl, fi, fd, h1, h2, h3, h4, h5, h6⟩ := hfl f _ _ _ hfs
        have hne : ¬ fi.size = 0 := by rw [h4]; exact beq_ne hz
        have run : ∀ b o, v = .pointer (some ⟨b, o, none⟩) → ∀ w, (Instr.fieldAt t v f).run P w = .ok (.pointer (some ⟨b, o + off', none⟩)) w := by
          intro b o hv w
          subst hv
          unfold Instr.fieldAt
          simp only [Sem.run_bind, run_und hd, Result.andThen_ok, h1, Instr.sureAddr, Sem.run_pure, fieldPlace, run_size h3, hne, if_false, addr_add, h2]
        unfold fieldAddrA at e
        split at e
        · simp only [val_ok, Option.some.injEq] at e
          subst e
          cases h with
          | one h => cases h with
            | ptr he hlt => exact ⟨_, run _ _ rfl, .one (by rw [Nat.add_assoc]; exact .ptr he hlt)⟩
        · simp only [val_ok, Option.some.injEq] at e
          subst e
          cases h with
          | one h => cases h with
            | ep hM hb hR => exact ⟨_, run _ _ rfl, .one (.ep hM hb (by rw [← List.drop_drop]; exact hR.drop0 _))⟩
        · simp [val_stuck] at e
      · simp [val_stuck] at hf
    · simp [val_stuck] at hf
  · simp [val_stuck] at hf

theorem sliceOf_sound (hX : XOk P X) {t : TypeId} {y : TyI} (h : (sliceOf X t).val = some y) : ∃ e i, P.underlying t = some (.slice e) ∧ X e = some y ∧ P.info? e = some i ∧ i.size = y.size ∧ i.bytes = y.bytes := by
  unfold sliceOf typ at h
  rw [val_do] at h
  obtain ⟨y0, hy, h⟩ := some_bind h
  rw [val_of] at hy
  split at h
  · rename_i e hu
    rw [val_of] at h
    obtain ⟨i, d, z, hi, hd, _, _, _, _, _, hu'⟩ := tyOf_some (hX t y0 hy)
    obtain ⟨i2, d2, z2, hi2, hd2, _, _, _, hs, hb, _⟩ := tyOf_some (hX e y h)
    have := uOf_slice (hu'.symm.trans hu)
    subst this
    exact ⟨e, i2, hd, h, hi2, hs.symm, hb.symm⟩
  · simp [val_stuck] at h

theorem rowSz_sound {c sz : Nat} {u : Unit} (e : (rowSz S c sz).val = some u) : ∃ ch, lk c S.σ = some ch ∧ ch.sz = sz := by
  unfold rowSz at e
  split at e
  · rename_i sz' es hlk
    split at e
    · rename_i hb
      exact ⟨_, hlk, beq_eq hb⟩
    · simp [val_stuck] at e
  · rename_i sz' es i cs hlk
    split at e
    · rename_i hb
      exact ⟨_, hlk, beq_eq hb⟩
    · simp [val_stuck] at e
  · simp [val_stuck] at e

theorem indexAddrA_sound (hX : XOk P X) {t : TypeId} {y : TyI} {x r : AV} {i : Int} {k : IntKind} {v : Value} (hy : (sliceOf X t).val = some y) (h : RAV w M (envOf β S.σ) x v)
    (e : (indexAddrA real S y x i).val = some r) : ∃ u, (∀ w, (Instr.indexAt t v (.int k i)).run P w = .ok u w) ∧ RAV w M (envOf β S.σ) r u := by
  obtain ⟨el, ti, hd, _, hi, hs, _⟩ := sliceOf_sound hX hy
  have run : ∀ b o n cap, v = .slice (some ⟨b, o, none⟩) n cap → (0 ≤ i ∧ i < n) → ∀ w, (Instr.indexAt t v (.int k i)).run P w = .ok (.pointer (some ⟨b, o + i.toNat * y.size, none⟩)) w := by
    intro b o n cap hv hlt w
    subst hv
    unfold Instr.indexAt
    simp only [Sem.run_bind, asIntOf, Sem.run_pure, Result.andThen_ok, run_und hd, hlt, and_self, if_true, run_size hi, hs, addr_add]
  unfold indexAddrA at e
  split at e
  · rename_i c o n
    rw [val_do] at e
    obtain ⟨_, hr, e⟩ := some_bind e
    obtain ⟨ch', hlk, hrs⟩ := rowSz_sound hr
    rw [val_demand] at e
    split at e
    · rename_i hin
      have hin : 0 ≤ i ∧ i < n := of_decide_eq_true hin
      simp only [val_ok, Option.some.injEq] at e
      subst e
      cases h with
      | one h => cases h with
        | arr he hm hn hc =>
          rename_i b off sz m N cap
          obtain ⟨ch, h1, h2, h3, h4, h5⟩ := envOf_some he
          rw [hlk] at h1
          obtain rfl := Option.some.inj h1
          have := h3.symm.trans hrs
          subst this
          have hoff : off = o * y.size := by
            rcases hc with h0 | ⟨h0, _⟩
            · omega
            · exact h0
          refine ⟨_, run _ _ _ _ rfl hin, .one ?_⟩
          have : off + i.toNat * y.size = (o + i.toNat) * y.size + 0 := by rw [hoff, Nat.add_mul]; omega
          rw [this]
          exact .ptr he (by show o + i.toNat < m; omega)
    · cases e
  · rename_i un sz es
    rw [val_demand] at e
    split at e
    · rename_i hin
      have hin : 0 ≤ i ∧ i < es.length := of_decide_eq_true hin
      split at e
      · rename_i hsz
        have := beq_eq hsz
        subst this
        simp only [val_ok, Option.some.injEq] at e
        subst e
        cases h with
        | one h => cases h with
          | pv h =>
            cases h with
            | nil => simp at hin; omega
            | sh hne hM hb hcap hR =>
              rename_i b off cap cs
              refine ⟨_, run _ _ _ _ rfl hin, .one (.ep hM hb ?_)⟩
              have hlt : i.toNat < es.length := by omega
              have hge : es[i.toNat]? = some es[i.toNat] := List.getElem?_eq_getElem hlt
              obtain ⟨h1, A, B, C, h2, h3⟩ := hR.get i.toNat _ hge
              have hB : B = [] := by
                have := List.append_eq_nil_iff.1 h2.symm
                exact (List.append_eq_nil_iff.1 this.1).2
              subst hB
              rw [List.drop_drop] at h3
              have hle := h3.le
              rw [h1] at hle
              refine RL.of_get0 (by simpa using hle) ?_
              intro q p v' hp hv
              obtain ⟨hq, rfl⟩ := range_get hp
              have hq2 : q < es[i.toNat].length := by rw [h1]; exact hq
              obtain ⟨v2, O1, h4, h5, h6⟩ := h3.get q es[i.toNat][q] (List.getElem?_eq_getElem hq2)
              rw [hv] at h4
              obtain rfl := Option.some.inj h4
              have hn : real.nth es (real.tn i) q = es[i.toNat][q] := by
                show ((es[i.toNat]?.getD [])[q]?).getD _ = _
                rw [hge]
                simp [List.getElem?_eq_getElem hq2]
              have hO1 : O1 = [] := List.eq_nil_iff_forall_not_mem.2 fun b hb => by have := h6 b hb; simp at this
              rw [hn]
              exact hO1 ▸ h5
      · simp [val_stuck] at e
    · cases e
  · simp [val_stuck] at e

def boundS (v : Option Value) (y : Nat) (code : BoundsCode) (dflt : Nat) : Sem Nat := match v with
  | some v => Instr.sliceBound v y code
  | none => pure dflt
def ROpt (w : World) (M : Nat → Prop) (env : EnvT) : Option AV → Option Value → Prop
  | none, none => True
  | some x, some v => RAV w M env x v
  | _, _ => False
theorem boundA_sound {x : Option AV} {v : Option Value} {dflt top n : Nat} {y : Nat} {code : BoundsCode} (h : ROpt w M env x v)
    (e : (boundA real x dflt top).val = some n) (hty : top ≤ y) : (boundS v y code dflt).run P w = .ok n w ∧ (n = dflt ∨ n ≤ top) := by
  cases x with
  | none =>
    cases v with
    | none =>
      simp only [boundA, val_ok, Option.some.injEq] at e
      subst e
      exact ⟨rfl, .inl rfl⟩
    | some v => exact h.elim
  | some x =>
    cases v with
    | none => exact h.elim
    | some v =>
      simp only [boundA] at e
      rw [val_do] at e
      obtain ⟨i, hi, e⟩ := some_bind e
      obtain ⟨k, rfl⟩ := asI_sound (show RAV w M env x v from h) hi
      rw [val_demand] at e
      split at e
      · rename_i hin
        have hin : 0 ≤ i ∧ i ≤ top := of_decide_eq_true hin
        simp only [val_ok, Option.some.injEq] at e
        subst e
        refine ⟨?_, .inr (by show i.toNat ≤ top; omega)⟩
        have h2 : 0 ≤ i ∧ i ≤ y := by omega
        simp only [boundS, Instr.sliceBound, Sem.run_bind, asIntOf, Sem.run_pure, Result.andThen_ok, h2, and_self, if_true]
        rfl
      · cases e

/-- The bounds of a slice expression without a third index. -/
theorem run_bounds {g : Bool} {len cap l h : Nat} {lo hi : Option Value} (c1 : (boundS hi cap (if g then .sliceAcap else .sliceAlen) len).run P w = .ok h w)
    (c2 : (boundS lo h .sliceB 0).run P w = .ok l w) : (Instr.sliceBounds g len cap lo hi none).run P w = .ok (l, h, cap) w := by
  unfold Instr.sliceBounds
  cases hi with
  | none =>
    have e1 : len = h := by simpa [boundS] using c1
    subst e1
    cases lo with
    | none =>
      have e2 : 0 = l := by simpa [boundS] using c2
      subst e2
      simp
    | some u =>
      have c3 : (Instr.sliceBound u len .sliceB).run P w = .ok l w := c2
      simp [c3]
  | some x =>
    have c4 : (Instr.sliceBound x cap (if g then .sliceAcap else .sliceAlen)).run P w = .ok h w := c1
    cases lo with
    | none =>
      have e2 : 0 = l := by simpa [boundS] using c2
      subst e2
      simp [c4]
    | some u =>
      have c3 : (Instr.sliceBound u h .sliceB).run P w = .ok l w := c2
      simp [c4, c3]

theorem sliceA_sound {t e : TypeId} {ti : TypeInfo} {y : TyI} {x r : AV} {v : Value} {lo hi : Option AV} {vlo vhi : Option Value} (hd : P.underlying t = some (.slice e)) (hi2 : P.info? e = some ti) (hs : ti.size = y.size)
    (h : RAV w M (envOf β S.σ) x v)
    (hlo : ROpt w M (envOf β S.σ) lo vlo) (hhi : ROpt w M (envOf β S.σ) hi vhi)
    (er : (sliceA real S y x lo hi).val = some r) : ∃ u, (Instr.sliceAt t v vlo vhi none).run P w = .ok u w ∧ RAV w M (envOf β S.σ) r u := by
  have run : ∀ b o n cap l h', v = .slice (some ⟨b, o, none⟩) n cap → (Instr.sliceBounds true n cap vlo vhi none).run P w = .ok (l, h', cap) w →
      (Instr.sliceAt t v vlo vhi none).run P w = .ok (.slice (if cap = l then some ⟨b, o, none⟩ else some ⟨b, o + l * y.size, none⟩) (h' - l) (cap - l)) w := by
    intro b o n cap l h' hv hb
    subst hv
    unfold Instr.sliceAt
    simp only [Sem.run_bind, run_und hd, Result.andThen_ok]
    unfold Instr.slice
    simp only [Sem.run_bind, run_und hd, Result.andThen_ok, hb, run_size hi2, hs, Sem.run_pure]
    congr 2
    split
    · rfl
    · simp [addr_add]
  unfold sliceA at er
  split at er
  · rename_i c o n
    rw [val_do] at er
    obtain ⟨_, hr, er⟩ := some_bind er
    obtain ⟨ch', hlk, hrs⟩ := rowSz_sound hr
    rw [val_do] at er
    obtain ⟨h', hh, er⟩ := some_bind er
    rw [val_do] at er
    obtain ⟨l, hl, er⟩ := some_bind er
    simp only [val_ok, Option.some.injEq] at er
    subst er
    cases h with
    | one h => cases h with
      | arr he hm hn hc =>
        rename_i b off sz m N cap
        obtain ⟨ch, h1, h2, h3, h4, h5⟩ := envOf_some he
        rw [hlk] at h1
        obtain rfl := Option.some.inj h1
        have := h3.symm.trans hrs
        subst this
        obtain ⟨r1, b1⟩ := boundA_sound (P := P) (y := cap) (code := if true then .sliceAcap else .sliceAlen) hhi hh hn
        obtain ⟨r2, b2⟩ := boundA_sound (P := P) (y := h') (code := .sliceB) hlo hl (Nat.le_refl _)
        have hb1 : h' ≤ n := by omega
        have hb2 : l ≤ h' := by omega
        refine ⟨_, run _ _ _ _ _ _ rfl (run_bounds r1 r2), .one ?_⟩
        show RCell w M _ (.arr c (o + l) (h' - l)) _
        by_cases hcl : cap = l
        · rw [if_pos hcl]
          exact .arr he (by omega) (by omega) (.inl (by omega))
        · rw [if_neg hcl]
          refine .arr he (by omega) (by omega) (.inr ?_)
          rcases hc with h0 | ⟨h0, h00⟩
          · omega
          · refine ⟨by rw [h0, Nat.add_mul], ?_⟩
            have : (o + l) * y.size + (cap - l) * y.size = o * y.size + cap * y.size := by
              rw [← Nat.add_mul, ← Nat.add_mul]; congr 1; omega
            omega
  · rename_i un sz es
    split at er
    · rename_i hsz
      have := beq_eq hsz
      subst this
      rw [val_do] at er
      obtain ⟨h', hh, er⟩ := some_bind er
      rw [val_do] at er
      obtain ⟨l, hl, er⟩ := some_bind er
      simp only [val_ok, Option.some.injEq] at er
      subst er
      cases h with
      | one h => cases h with
        | pv h =>
          cases h with
          | nil =>
            rename_i cap a _
            obtain ⟨r1, b1⟩ := boundA_sound (P := P) (y := cap) (code := if true then .sliceAcap else .sliceAlen) hhi hh (by simp [real])
            obtain ⟨r2, b2⟩ := boundA_sound (P := P) (y := h') (code := .sliceB) hlo hl (Nat.le_refl _)
            have hb1 : h' = 0 := by simp [real] at b1; omega
            have hb2 : l = 0 := by omega
            subst hb1; subst hb2
            have hbd : (Instr.sliceBounds true 0 cap vlo vhi none).run P w = .ok (0, 0, cap) w := run_bounds r1 r2
            have hrun : ∃ a', (Instr.sliceAt t (.slice a 0 cap) vlo vhi none).run P w = .ok (.slice a' 0 cap) w := by
              unfold Instr.sliceAt
              simp only [Sem.run_bind, run_und hd, Result.andThen_ok]
              unfold Instr.slice
              simp only [Sem.run_bind, run_und hd, Result.andThen_ok, hbd, run_size hi2, Sem.run_pure]
              exact ⟨_, rfl⟩
            obtain ⟨a', hrun⟩ := hrun
            refine ⟨_, hrun, .one (.pv ?_)⟩
            show RPV w M (.sl false y.size (downs ((([] : List (List PV)).drop 0).take (0 - 0)))) _ _
            simp only [List.drop_nil, List.take_nil, downs]
            exact .nil
          | sh hne hM hb hcap hR =>
            rename_i b off cap cs
            obtain ⟨r1, b1⟩ := boundA_sound (P := P) (y := cap) (code := if true then .sliceAcap else .sliceAlen) hhi hh hcap
            obtain ⟨r2, b2⟩ := boundA_sound (P := P) (y := h') (code := .sliceB) hlo hl (Nat.le_refl _)
            have hb1 : h' ≤ es.length := by simp [real] at b1; omega
            have hb2 : l ≤ h' := by omega
            refine ⟨_, run _ _ _ _ _ _ rfl (run_bounds r1 r2), .one (.pv ?_)⟩
            show RPV w M (.sl false y.size (downs ((es.drop l).take (h' - l)))) _ _
            have hlen : (downs ((es.drop l).take (h' - l))).length = h' - l := by
              rw [downs_length, List.length_take, List.length_drop]; omega
            by_cases h0 : h' - l = 0
            · rw [h0]
              simp only [List.take_zero, downs]
              split <;> exact .nil
            · rw [if_neg (by omega)]
              obtain ⟨A, B, C, e1, e2⟩ := hR.ext l (h' - l)
              have hB : B = [] := by
                have := List.append_eq_nil_iff.1 e1.symm
                exact (List.append_eq_nil_iff.1 this.1).2
              subst hB
              rw [List.drop_drop] at e2
              have := RPV.sh (w := w) (M := M) (sz := y.size) (b := b) (off := off + l * y.size) (cap := cap - l) (es := downs ((es.drop l).take (h' - l))) (cs := cs)
                (by rw [← List.length_pos_iff, hlen]; omega) hM hb (by rw [hlen]; omega) (e2.downs (fun b hb => by simp at hb))
              rw [hlen] at this
              exact this
    · simp [val_stuck] at er
  · unfold sliceNlA at er
    rw [val_do] at er
    obtain ⟨h', hh, er⟩ := some_bind er
    rw [val_do] at er
    obtain ⟨l, hl, er⟩ := some_bind er
    simp only [val_ok, Option.some.injEq] at er
    subst er
    cases h with
    | one h => cases h with
      | pv h =>
        cases h with
        | nl =>
          obtain ⟨r1, b1⟩ := boundA_sound (P := P) (y := 0) (code := if true then .sliceAcap else .sliceAlen) hhi hh (Nat.le_refl _)
          obtain ⟨r2, b2⟩ := boundA_sound (P := P) (y := h') (code := .sliceB) hlo hl (Nat.le_refl _)
          have hb1 : h' = 0 := by omega
          have hb2 : l = 0 := by omega
          subst hb1; subst hb2
          have hbd : (Instr.sliceBounds true 0 0 vlo vhi none).run P w = .ok (0, 0, 0) w := run_bounds r1 r2
          refine ⟨.slice none 0 0, ?_, .one (.pv .nl)⟩
          unfold Instr.sliceAt
          simp only [Sem.run_bind, run_und hd, Result.andThen_ok]
          unfold Instr.slice
          simp only [Sem.run_bind, run_und hd, Result.andThen_ok, hbd, run_size hi2, Sem.run_pure]
          rfl
  · simp [val_stuck] at er

theorem sliceStrA_sound {t : TypeId} {x r : AV} {v : Value} {lo hi : Option AV} {vlo vhi : Option Value} (hd : P.underlying t = some .string) (h : RAV w M env x v)
    (hlo : ROpt w M env lo vlo) (hhi : ROpt w M env hi vhi)
    (er : (sliceStrA real x lo hi).val = some r) : ∃ u, (Instr.sliceAt t v vlo vhi none).run P w = .ok u w ∧ RAV w M env r u := by
  unfold sliceStrA at er
  split at er
  · rename_i s
    rw [val_do] at er
    obtain ⟨h', hh, er⟩ := some_bind er
    rw [val_do] at er
    obtain ⟨l, hl, er⟩ := some_bind er
    simp only [val_ok, Option.some.injEq] at er
    subst er
    obtain rfl := RAV.sc h
    obtain ⟨r1, b1⟩ := boundA_sound (P := P) (y := s.size) (code := if false then .sliceAcap else .sliceAlen) hhi hh (Nat.le_refl _)
    obtain ⟨r2, b2⟩ := boundA_sound (P := P) (y := h') (code := .sliceB) hlo hl (Nat.le_refl _)
    refine ⟨.string (s.extract l h'), ?_, RAV.scal rfl⟩
    unfold Instr.sliceAt
    simp only [Sem.run_bind, run_und hd, Result.andThen_ok]
    unfold Instr.slice
    simp only [Sem.run_bind, run_und hd, Result.andThen_ok]
    have hb : (Instr.sliceBounds false s.size s.size vlo vhi none).run P w = .ok (l, h', s.size) w := run_bounds (g := false) r1 r2
    simp [hb]
  · simp [val_stuck] at er
end
end Go.Aix
