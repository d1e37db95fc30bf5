/-
  THE CALCULUS, FOURTEENTH TEXT: every operation that is no call of a function.
-/
import Derived.Test.YtafdnkachndacaaAixStep
import Derived.Laws.Tables
set_option linter.unusedSimpArgs false
set_option linter.unusedVariables false
namespace Go.Aix
section
variable {P : Program} {X : Ctx} {E : Ent} {β : Nat → Nat × Nat} {O : Nat → List Nat} {S : St} {σ : Store} {next : Nat} {a : Act} {w : World} {M : Nat → Prop} {env : EnvT}

theorem fieldPart_sound (hX : XOk P X) {t : TypeId} {f off sz : Nat} {g : Bool} {cs : List Cell} {u : Value} {x : AV} (hf : (fieldOf X t f).val = some (off, sz, g)) (h : RAV w M env (.ag cs) u) (hle : Nat.ble (off + sz) cs.length = true)
    (e : (mk g ((cs.drop off).take sz)).val = some x) : ∃ v, (∀ w, (Instr.field t u f).run P w = .ok v w) ∧ RAV w M env x v := by
  obtain ⟨fl, fs, fi, fd, h1, h2, h3, h4, h5, h6, h7, h8⟩ := fieldOf_sound hX hf
  have hle := Nat.le_of_ble_eq_true hle
  cases h with
  | ag h =>
    rename_i vs
    have hl := h.length
    simp at hl
    obtain ⟨m1, m2⟩ := mk_sound ((h.drop off).take sz) e
    refine ⟨_, fun w => ?_, m1⟩
    unfold Instr.field
    simp only [Sem.run_bind, run_und h1, Result.andThen_ok, h2, asAgg, Sem.run_pure, part, run_isAgg h6, h7, run_size h4, h5, h3]
    cases g with
    | true =>
      simp only [if_true, Sem.run_bind, run_size h4, h5, Result.andThen_ok, Sem.run_pure, gv]
      congr 2
      apply Array.ext'
      simp [List.drop_take]
    | false =>
      have m2 := m2 rfl
      simp only [Bool.false_eq_true, if_false, gv]
      have hlt : off < vs.size := by omega
      have hsz1 : sz = 1 := by
        rw [List.length_take, List.length_drop] at m2
        simp at m2
        omega
      subst hsz1
      rw [Array.getElem?_eq_getElem hlt]
      simp only [Sem.run_pure]
      congr 1
      rw [List.drop_eq_getElem_cons (by simpa using hlt)]
      simp

theorem mapM_of_get {α γ : Type} {f : α → Option γ} : ∀ {l : List α} {r : List γ}, r.length = l.length → (∀ (k : Nat) (x : α), l[k]? = some x → ∃ y, f x = some y ∧ r[k]? = some y) → l.mapM f = some r
  | [], r, hl, _ => by
    have : r = [] := List.length_eq_zero_iff.1 hl
    subst this; rfl
  | x :: l, [], hl, _ => by simp at hl
  | x :: l, y :: r, hl, h => by
    obtain ⟨z, h1, h2⟩ := h 0 x rfl
    simp at h2
    subst h2
    have := mapM_of_get (l := l) (r := r) (by simpa using hl) (fun k x' hx => h (k + 1) x' hx)
    simp [List.mapM_cons, h1, this]

theorem build_sound (hX : XOk P X) (h : Rel E β O S a w) {t : TypeId} {y : TyI} {fs : List (Nat × Nat × Bool)} {parts : Array (Nat × Operand)} {ps : List (Nat × Nat × List Cell)} {cs : List Cell} (hy : X t = some y) (hu : y.u = .struct fs)
    (h1 : (partsA S (placeOf fs) parts.toList).val = some ps) (h2 : (fillA y.zero ps).val = some cs) : ∃ v, (Instr.build t (parts.map fun (i, x) => (i, a.eval x))).run P w = .ok v w ∧ RAV w (Mof E β O S.σ) (envOf β S.σ) (.ag cs) v := by
  obtain ⟨i, d, z, hi, hd', hz, hzs, _, hsz, _, hu'⟩ := tyOf_some (hX t y hy)
  obtain ⟨fl, rfl, hlen, hfl⟩ := uOf_struct (hu'.symm.trans hu)
  have hR : RCs w (Mof E β O S.σ) (envOf β S.σ) y.zero z.cells.toList := cellsOf_sound hzs
  have hp : fl.toList.mapM (fun f => (P.info? f.type).map fun i => (f.offset, i.size)) = some (fs.map fun x => (x.1, x.2.1)) := by
    refine mapM_of_get (by simpa using hlen) ?_
    intro k f hf
    have hk : k < fs.length := by
      have := (List.getElem?_eq_some_iff.1 hf).1
      simp at this; omega
    obtain ⟨⟨off, sz, g⟩, hfsk'⟩ : ∃ x, fs[k]? = some x := ⟨_, List.getElem?_eq_getElem hk⟩
    obtain ⟨f', fi, fd, a1, a2, a3, a4, a5, a6⟩ := hfl k off sz g hfsk'
    have : f = f' := by
      have e1 : fl.toList[k]? = some f' := by simpa using a1
      rw [hf] at e1
      exact Option.some.inj e1
    subst this
    exact ⟨(off, sz), by rw [a3]; simp [a2, a4], by simp [hfsk']⟩
  obtain ⟨vs', f1, f2, f3⟩ := fillA_sound h (pl := ((fs.map fun x => (x.1, x.2.1)).toArray[·]?)) (place := placeOf fs) (by
    intro k x hx
    unfold placeOf at hx
    split at hx
    · rename_i off sz g hk
      simp only [Option.some.injEq] at hx
      subst hx
      simp [hk]
    · cases hx) h1 h2 hR
  refine ⟨_, run_build w t _ vs' ?_, .ag f2⟩
  unfold Program.built
  simp only [hi, hd', hz, hp]
  rw [Array.toList_map]
  exact f1

theorem step_sound (hX : XOk P X) {o : Oper} {pos : Bool} {S' : St} (h : Rel E β O S a w) (hd : ∀ t, o.dst = some t → t < a.tmps.size) (e : (stepOp X real pos S o).val = some S') : Stepped P E o a w S' := by
  unfold stepOp at e
  split at e
  · -- move
    rename_i x ho
    rw [val_do] at e
    obtain ⟨v, h1, e⟩ := some_bind e
    exact value_step h hd (by simp only [execOp, ho]; rfl) (evalO_sound h h1) e
  · rename_i x ho
    rw [val_do] at e
    obtain ⟨v, h1, e⟩ := some_bind e
    exact value_step h hd (by simp only [execOp, ho]; rfl) (evalO_sound h h1) e
  · -- pick
    rename_i c x y ho
    rw [val_do] at e
    obtain ⟨t, h1, e⟩ := some_bind e
    have hc := evalO_sound h h1
    split at e
    · rename_i b
      have hc := RAV.sc hc
      rw [val_ask] at e
      have run : (execOp a.eval o).run P w = .ok (.value (if b then a.eval x else a.eval y)) w := by
        simp only [execOp, ho, hc, asBool]
        cases b <;> rfl
      cases b with
      | true =>
        simp only at e
        rw [val_do] at e
        obtain ⟨v, h2, e⟩ := some_bind e
        exact value_step h hd run (evalO_sound h h2) e
      | false =>
        simp only at e
        rw [val_do] at e
        obtain ⟨v, h2, e⟩ := some_bind e
        exact value_step h hd run (evalO_sound h h2) e
    · simp [val_stuck] at e
  · -- alloc
    rename_i t ho
    rw [val_do] at e
    obtain ⟨y, hy, e⟩ := some_bind e
    simp only [val_ok, Option.some.injEq] at e
    subst e
    exact alloc_step hX ho h hd (typ_some hy)
  · -- box
    rename_i t x ho
    rw [val_do] at e
    obtain ⟨v, h1, e⟩ := some_bind e
    rw [val_do] at e
    obtain ⟨cs, h2, e⟩ := some_bind e
    simp only [val_ok, Option.some.injEq] at e
    subst e
    exact box_step ho h hd h1 h2
  · -- build
    rename_i t parts ho
    rw [val_do] at e
    obtain ⟨y, hy, e⟩ := some_bind e
    split at e
    · rename_i fs hu
      rw [val_do] at e
      obtain ⟨ps, h1, e⟩ := some_bind e
      rw [val_do] at e
      obtain ⟨cs, h2, e⟩ := some_bind e
      obtain ⟨v, r1, r2⟩ := build_sound (P := P) hX h (typ_some hy) hu h1 h2
      exact value_step h hd (by simp only [execOp, ho]; exact run_v r1) r2 e
    · simp [val_stuck] at e
  · -- buildSlice
    rename_i t n parts ho
    rw [val_do] at e
    obtain ⟨y, hy, e⟩ := some_bind e
    split at e
    · rename_i hb
      rw [val_do] at e
      obtain ⟨ps, h1, e⟩ := some_bind e
      rw [val_do] at e
      obtain ⟨cs, h2, e⟩ := some_bind e
      rw [val_do] at e
      obtain ⟨⟨vs, S1⟩, h3, e⟩ := some_bind e
      simp only [val_ok, Option.some.injEq] at e
      subst e
      exact buildSlice_step hX ho h hd hy hb h1 h2 h3
    · simp [val_stuck] at e
  · -- load
    rename_i t x ho
    rw [val_do] at e
    obtain ⟨y, hy, e⟩ := some_bind e
    rw [val_do] at e
    obtain ⟨av, h1, e⟩ := some_bind e
    rw [val_do] at e
    obtain ⟨v, h2, e⟩ := some_bind e
    obtain ⟨u, r1, r2⟩ := loadA_sound (P := P) hX (typ_some hy) h (evalO_sound h h1) h2
    exact value_step h hd (by simp only [execOp, ho]; exact run_v r1) r2 e
  · -- store
    rename_i t x y ho
    rw [val_do] at e
    obtain ⟨yi, hy, e⟩ := some_bind e
    rw [val_do] at e
    obtain ⟨av, h1, e⟩ := some_bind e
    rw [val_do] at e
    obtain ⟨v, h2, e⟩ := some_bind e
    rw [val_do] at e
    obtain ⟨cs, h3, e⟩ := some_bind e
    split at e
    · rename_i hb
      rw [val_do] at e
      obtain ⟨S1, h4, e⟩ := some_bind e
      simp only [val_ok, Option.some.injEq] at e
      subst e
      obtain ⟨i, d, z, hi, _, _, _, _, hsz, _, _⟩ := tyOf_some (hX t yi (typ_some hy))
      obtain ⟨w', O', r1, r2⟩ := storeA_sound (P := P) h hi (by rw [← hsz]; exact beq_eq hb) (evalO_sound h h1) (AV.cells_sound (evalO_sound h h2) h3) h4
      refine ⟨.skip, w', β, O', by simp only [execOp, ho]; exact run_u r1, .inr ⟨rfl, ?_⟩⟩
      exact r2.setDst hd (.tp (by exact .nil))
    · simp [val_stuck] at e
  · -- nilCheck
    rename_i x ho
    rw [val_do] at e
    obtain ⟨v, h1, e⟩ := some_bind e
    have hv := evalO_sound h h1
    split at e
    · refine value_step h hd ?_ hv e
      simp only [execOp, ho]
      generalize a.eval x = u at hv
      cases hv with
      | one hv => cases hv with
        | ptr => rfl
    · refine value_step h hd ?_ hv e
      simp only [execOp, ho]
      generalize a.eval x = u at hv
      cases hv with
      | one hv => cases hv with
        | ep => rfl
    · simp [val_stuck] at e
  · -- binOp
    rename_i op t x y _ ho
    rw [val_do] at e
    obtain ⟨av, h1, e⟩ := some_bind e
    rw [val_do] at e
    obtain ⟨bv, h2, e⟩ := some_bind e
    have ha := evalO_sound h h1
    have hb := evalO_sound h h2
    split at e
    · rename_i u
      split at e
      · rename_i u'
        have ha := RAV.sc ha
        have hb := RAV.sc hb
        rw [val_do] at e
        obtain ⟨v, h3, e⟩ := some_bind e
        obtain ⟨r1, r2, r3, r4⟩ := binA_sound (P := P) (w := w) hX h3
        refine value_step h hd ?_ (RAV.scal r2) e
        simp only [execOp, ho, ha, hb]
        refine run_v ?_
        rw [Sem.run_bind, run_eqGuard r4 r3, Result.andThen_ok, r1]
      · simp [val_stuck] at e
    · simp [val_stuck] at e
  · -- unOp
    rename_i op _ x ho
    rw [val_do] at e
    obtain ⟨av, h1, e⟩ := some_bind e
    have ha := evalO_sound h h1
    split at e
    · rename_i u
      have ha := RAV.sc ha
      rw [val_do] at e
      obtain ⟨v, h3, e⟩ := some_bind e
      obtain ⟨r1, r2⟩ := unA_sound (P := P) (w := w) h3
      refine value_step h hd ?_ (RAV.scal r2) e
      simp only [execOp, ho, ha]
      exact run_v r1
    · simp [val_stuck] at e
  · -- convert
    rename_i s t x ho
    rw [val_do] at e
    obtain ⟨y0, hy0, e⟩ := some_bind e
    rw [val_do] at e
    obtain ⟨y, hy, e⟩ := some_bind e
    rw [val_do] at e
    obtain ⟨av, h1, e⟩ := some_bind e
    have ha := evalO_sound h h1
    obtain ⟨i, d, z, hi, hd', _, _, _, _, _, hu⟩ := tyOf_some (hX t y (typ_some hy))
    obtain ⟨i0, d0, z0, hi0, hd0, _, _, _, _, _, hu0⟩ := tyOf_some (hX s y0 (typ_some hy0))
    split at e
    · rename_i k hyk
      have := uOf_int (hu.symm.trans hyk)
      subst this
      split at e
      · rename_i k' n
        have ha := RAV.sc ha
        refine value_step h hd ?_ (RAV.scal rfl) e
        simp only [execOp, ho, ha]
        refine run_v ?_
        unfold convert
        simp only [Sem.run_bind, run_und hd0, run_und hd', Result.andThen_ok]
        rfl
      · simp [val_stuck] at e
    · simp [val_stuck] at e
  · -- makeFunc
    rename_i fn first caps ho
    split at e
    · rename_i f
      split at e
      · rename_i hf
        rw [val_do] at e
        obtain ⟨ps, h1, e⟩ := some_bind e
        have hc := capsA_sound h h1
        refine value_step h hd (u := .func (.func f) #[] (caps.map a.eval)) ?_ (.one (.fn (by rw [Array.toList_map]; exact hc))) e
        have : first = #[] := by rw [← Array.toArray_toList (xs := first), hf]
        subst this
        simp only [execOp, ho]
        refine run_v ?_
        simp [Instr.makeFunc]
      · simp [val_stuck] at e
    · simp [val_stuck] at e
  · -- makeSlice
    rename_i t l c ho
    rw [val_do] at e
    obtain ⟨y, hy, e⟩ := some_bind e
    rw [val_do] at e
    obtain ⟨lv, hl, e⟩ := some_bind e
    rw [val_do] at e
    obtain ⟨cv, hc, e⟩ := some_bind e
    rw [val_do] at e
    obtain ⟨n, hn, e⟩ := some_bind e
    rw [val_do] at e
    obtain ⟨m, hm, e⟩ := some_bind e
    rw [val_demand] at e
    split at e
    · rename_i hnm
      rw [val_demand] at e
      split at e
      · rename_i hle
        split at e
        · rename_i hz0
          rw [val_do] at e
          obtain ⟨z, hz1, e⟩ := some_bind e
          simp only [val_ok, Option.some.injEq] at e
          subst e
          exact makeSlice_step hX ho h hd hy hl hc hn hm hnm hle hz0 hz1
        · simp [val_stuck] at e
      · cases e
    · cases e
  · -- slice
    rename_i t x lo hi mx ho
    split at e
    · rw [val_do] at e
      obtain ⟨av, h1, e⟩ := some_bind e
      rw [val_do] at e
      obtain ⟨lv, h2, e⟩ := some_bind e
      rw [val_do] at e
      obtain ⟨hv, h3, e⟩ := some_bind e
      rw [val_do] at e
      obtain ⟨y, hy, e⟩ := some_bind e
      obtain ⟨i, d, z, hi', hd', _, _, _, _, _, hu⟩ := tyOf_some (hX t y (typ_some hy))
      split at e
      · rename_i el hye
        have := uOf_slice (hu.symm.trans hye)
        subst this
        rw [val_do] at e
        obtain ⟨ye, hye2, e⟩ := some_bind e
        obtain ⟨ie, de, ze, hie, hde, _, _, _, hsz, _, _⟩ := tyOf_some (hX el ye (typ_some hye2))
        rw [val_do] at e
        obtain ⟨v, h4, e⟩ := some_bind e
        obtain ⟨u, r1, r2⟩ := sliceA_sound (P := P) (w := w) hd' hie hsz.symm (evalO_sound h h1) (evalOO_sound h h2) (evalOO_sound h h3) h4
        exact value_step h hd (by simp only [execOp, ho]; exact run_v r1) r2 e
      · rename_i hye
        have := uOf_str (hu.symm.trans hye)
        subst this
        rw [val_do] at e
        obtain ⟨v, h4, e⟩ := some_bind e
        obtain ⟨u, r1, r2⟩ := sliceStrA_sound (P := P) (w := w) hd' (evalO_sound h h1) (evalOO_sound h h2) (evalOO_sound h h3) h4
        exact value_step h hd (by simp only [execOp, ho]; exact run_v r1) r2 e
      · simp [val_stuck] at e
    · simp [val_stuck] at e
  · -- fieldAddr
    rename_i t x f ho
    rw [val_do] at e
    obtain ⟨⟨off, sz, g⟩, hf, e⟩ := some_bind e
    simp only at e
    rw [val_do] at e
    obtain ⟨av, h1, e⟩ := some_bind e
    rw [val_do] at e
    obtain ⟨v, h2, e⟩ := some_bind e
    obtain ⟨u, r1, r2⟩ := fieldAddrA_sound (P := P) (w := w) hX hf (evalO_sound h h1) h2
    exact value_step h hd (by simp only [execOp, ho]; exact run_v (r1 w)) r2 e
  · -- field
    rename_i t x f ho
    rw [val_do] at e
    obtain ⟨⟨off, sz, g⟩, hf, e⟩ := some_bind e
    simp only at e
    rw [val_do] at e
    obtain ⟨av, h1, e⟩ := some_bind e
    have ha := evalO_sound h h1
    split at e
    · split at e
      · rename_i hle
        rw [val_do] at e
        obtain ⟨v, h2, e⟩ := some_bind e
        obtain ⟨u, r1, r2⟩ := fieldPart_sound (P := P) (w := w) hX hf ha hle h2
        exact value_step h hd (by simp only [execOp, ho]; exact run_v (r1 w)) r2 e
      · simp [val_stuck] at e
    · simp [val_stuck] at e
  · -- indexAddr
    rename_i t x i ho
    rw [val_do] at e
    obtain ⟨y, hy, e⟩ := some_bind e
    rw [val_do] at e
    obtain ⟨av, h1, e⟩ := some_bind e
    rw [val_do] at e
    obtain ⟨iv, h2, e⟩ := some_bind e
    rw [val_do] at e
    obtain ⟨n, h3, e⟩ := some_bind e
    rw [val_do] at e
    obtain ⟨v, h4, e⟩ := some_bind e
    obtain ⟨k, hk⟩ := asI_sound (evalO_sound h h2) h3
    obtain ⟨u, r1, r2⟩ := indexAddrA_sound (P := P) (w := w) (k := k) hX hy (evalO_sound h h1) h4
    exact value_step h hd (by simp only [execOp, ho, hk]; exact run_v (r1 w)) r2 e
  · -- index
    rename_i t x i ho
    rw [val_do] at e
    obtain ⟨y, hy, e⟩ := some_bind e
    rw [val_do] at e
    obtain ⟨av, h1, e⟩ := some_bind e
    rw [val_do] at e
    obtain ⟨iv, h2, e⟩ := some_bind e
    rw [val_do] at e
    obtain ⟨n, h3, e⟩ := some_bind e
    obtain ⟨k, hk⟩ := asI_sound (evalO_sound h h2) h3
    obtain ⟨i0, d, z, hi', hd', _, _, _, _, _, hu⟩ := tyOf_some (hX t y (typ_some hy))
    have ha := evalO_sound h h1
    split at e
    · rename_i hye
      have := uOf_str (hu.symm.trans hye)
      subst this
      split at e
      · rename_i s e0 e1
        clear e0 e1
        have ha := RAV.sc ha
        rw [val_demand] at e
        split at e
        · rename_i hin
          have hin : 0 ≤ n ∧ n < (s.size : Int) := of_decide_eq_true hin
          refine value_step h hd ?_ (RAV.scal rfl) e
          simp only [execOp, ho, hk, ha]
          refine run_v ?_
          have hlt : n.toNat < s.size := by omega
          have hg : s[n.toNat]? = some s[n.toNat] := getElem?_pos s n.toNat hlt
          unfold Instr.index
          simp only [Sem.run_bind, asIntOf, Sem.run_pure, Result.andThen_ok, run_und hd', hin.1, if_true, hg]
          simp [real, hg]
        · cases e
      · simp [val_stuck] at e
    · simp [val_stuck] at e
  · -- extract
    rename_i x i ho
    rw [val_do] at e
    obtain ⟨av, h1, e⟩ := some_bind e
    have ha := evalO_sound h h1
    split at e
    · split at e
      · rename_i g cs hg
        rw [val_do] at e
        obtain ⟨v, h2, e⟩ := some_bind e
        generalize hu : a.eval x = u at ha
        cases ha with
        | tp ha =>
          rename_i vs
          obtain ⟨u, hu1, hu2⟩ := ha.get i _ hg
          refine value_step h hd (u := u) ?_ ?_ e
          · simp only [execOp, ho, hu]
            refine run_v ?_
            unfold Instr.extract
            have : vs[i]? = some u := by simpa using hu1
            simp [this]
          · cases g with
            | true =>
              obtain ⟨us, rfl, hus⟩ := hu2
              simp only [mk, val_ok, Option.some.injEq] at h2
              subst h2
              exact .ag hus
            | false =>
              obtain ⟨c, rfl, hc⟩ := hu2
              simp only [mk, val_ok, Option.some.injEq] at h2
              subst h2
              exact .one hc
      · simp [val_stuck] at e
    · simp [val_stuck] at e
  · -- a built-in function
    rename_i c ho
    split at e
    · rename_i b hb
      unfold builtinA at e
      split at e
      · split at e
        · rename_i x ha
          split at e
          · rename_i t ht
            rw [val_do] at e
            obtain ⟨y, hy, e⟩ := some_bind e
            rw [val_do] at e
            obtain ⟨v, h1, e⟩ := some_bind e
            rw [val_do] at e
            obtain ⟨n, h2, e⟩ := some_bind e
            obtain ⟨r1, r2⟩ := lenA_sound (P := P) (w := w) hX (typ_some hy) (evalO_sound h h1) (o := o.type) h2
            exact value_step h hd (run_call_len ho hb ha ht (r1 w)) (RAV.scal r2) e
          · simp [val_stuck] at e
        · simp [val_stuck] at e
      · split at e
        · rename_i s x ha
          split at e
          · rename_i t t' ht
            rw [val_do] at e
            obtain ⟨y, hy, e⟩ := some_bind e
            rw [val_do] at e
            obtain ⟨y', hy', e⟩ := some_bind e
            rw [val_do] at e
            obtain ⟨sv, h1, e⟩ := some_bind e
            rw [val_do] at e
            obtain ⟨xv, h2, e⟩ := some_bind e
            split at e
            · rename_i hz0
              exact append_step hX ho hb ha ht h hd hy hy' h1 h2 (beq_eq hz0) e
            · simp [val_stuck] at e
          · simp [val_stuck] at e
        · simp [val_stuck] at e
      · split at e
        · rename_i x y ha
          rw [val_do] at e
          obtain ⟨av, h1, e⟩ := some_bind e
          rw [val_do] at e
          obtain ⟨bv, h2, e⟩ := some_bind e
          split at e
          · rename_i k n
            split at e
            · rename_i k' m
              have q1 := RAV.sc (evalO_sound h h1)
              have q2 := RAV.sc (evalO_sound h h2)
              exact value_step h hd (run_call_min ho hb ha q1 q2) (RAV.scal rfl) e
            · simp [val_stuck] at e
          · simp [val_stuck] at e
        · simp [val_stuck] at e
      · split at e
        · rename_i x y ha
          rw [val_do] at e
          obtain ⟨av, h1, e⟩ := some_bind e
          rw [val_do] at e
          obtain ⟨bv, h2, e⟩ := some_bind e
          split at e
          · rename_i k n
            split at e
            · rename_i k' m
              have q1 := RAV.sc (evalO_sound h h1)
              have q2 := RAV.sc (evalO_sound h h2)
              exact value_step h hd (run_call_max ho hb ha q1 q2) (RAV.scal rfl) e
            · simp [val_stuck] at e
          · simp [val_stuck] at e
        · simp [val_stuck] at e
      · simp [val_stuck] at e
    · simp [val_stuck] at e
  · simp [val_stuck] at e
end
end Go.Aix
