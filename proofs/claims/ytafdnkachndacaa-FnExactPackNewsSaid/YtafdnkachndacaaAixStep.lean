/-
  THE CALCULUS, THIRTEENTH TEXT: one operation that is no call of a function.
-/
import Derived.Test.YtafdnkachndacaaAixApp2
import Derived.Laws.BitsLemmas
set_option linter.unusedSimpArgs false
set_option linter.unusedVariables false
namespace Go.Aix
section
variable {P : Program} {X : Ctx} {E : Ent} {β : Nat → Nat × Nat} {O : Nat → List Nat} {S : St} {σ : Store} {next : Nat} {a : Act} {w : World} {M : Nat → Prop} {env : EnvT}

theorem typ_some {t : TypeId} {y : TyI} (h : (typ X t).val = some y) : X t = some y := by unfold typ at h; rwa [val_of] at h

theorem makeSlice_step (hX : XOk P X) {o : Oper} {t : TypeId} {l c : Operand} {y : TyI} {lv cv : AV} {n m : Int} {z : List PV} (ho : o.op = .makeSlice t l c) (h : Rel E β O S a w)
    (hd : ∀ t, o.dst = some t → t < a.tmps.size) (hy : (sliceOf X t).val = some y) (hl : (evalO S l).val = some lv) (hc : (evalO S c).val = some cv) (hn : (i64Of lv).val = some n) (hm : (i64Of cv).val = some m)
    (hnm : real.cmp .eql n m = true) (hle : real.inle n (140737488355328 / y.bytes) = true) (hz0 : Nat.beq y.zero.length y.size = true) (hz1 : (pvsOf y.zero).val = some z) :
    Stepped P E o a w (newRow S o.dst y.size (List.replicate n.toNat z) n.toNat) := by
  obtain ⟨el, ti, hdt, hye, hi, hs, hbt⟩ := sliceOf_sound hX hy
  obtain ⟨i, dd, zv, hi', hd', hz, hzs, _, hsz, _, _⟩ := tyOf_some (hX el y hye)
  have := hi.symm.trans hi'
  obtain rfl := Option.some.inj this
  have rl := evalO_sound h hl
  have rc := evalO_sound h hc
  have hi64 : ∀ {v : AV} {i : Int} {u : Value}, (i64Of v).val = some i → RAV w (Mof E β O S.σ) (envOf β S.σ) v u → u = .int .i64 i := by
    intro v i u e hr
    unfold i64Of at e
    split at e
    · simp only [val_ok, Option.some.injEq] at e
      subst e
      exact RAV.sc hr
    · simp [val_stuck] at e
  have el1 := hi64 hn rl
  have ec1 := hi64 hm rc
  have hnm : n = m := by simpa [real, cmpReal] using hnm
  subst hnm
  have hle : 0 ≤ n ∧ n ≤ ((140737488355328 / y.bytes : Nat) : Int) := of_decide_eq_true hle
  have hb0 := beq_eq hz0
  have hR := cellsOf_sound (w := w) (M := Mof E β O S.σ) (env := envOf β S.σ) hzs
  have hzl : zv.cells.size = y.size := by have := hR.length; simp at this; omega
  obtain ⟨p1, p2⟩ := pvsOf_sound hR hz1
  obtain ⟨k, rfl⟩ : ∃ k : Nat, n = k := ⟨n.toNat, by omega⟩
  have hk : k ≤ 140737488355328 / ti.bytes := by rw [hbt]; omega
  have hkb : k * ti.bytes ≤ 140737488355328 := Nat.le_trans (Nat.mul_le_mul_right _ hk) (Nat.div_mul_le_self _ _)
  have hk2 : k ≤ 140737488355328 := Nat.le_trans hk (Nat.div_le_self _ _)
  have hsize : ((Array.range (k * y.size)).map fun q => zv.cells[q % zv.cells.size]!).size = k * y.size := by simp
  have hrow := h.newRow (fun _ h => h) (d := o.dst) (t := el) (sz := y.size) (n := k) (cap := k) (es := List.replicate k z) (vs := (Array.range (k * y.size)).map fun q => zv.cells[q % zv.cells.size]!) (Oc := []) hd
    (by
      rw [zeros k y.size zv.cells hzl]
      have := RLL.zeros p1 (sz := y.size) (by rw [p2]; simpa using hzl) (by simpa using hzl) k []
      simpa using this)
    (fun _ hx => nomatch hx) List.nodup_nil (fun _ _ _ _ hx => nomatch hx) (fun _ hx => nomatch hx) (by simp) (Nat.le_refl _) (by rw [hsize]; exact Nat.le_refl _)
  refine ⟨_, _, _, _, ?_, .inl ⟨_, rfl, hrow⟩⟩
  simp only [execOp, ho]
  refine run_v ?_
  rw [el1, ec1]
  unfold Instr.makeSlice
  have hwrap : IntKind.i64.wrap (k : Int) = k := by
    rw [IntKind.wrap_i64]
    omega
  have hbytes : ¬ ((ti.bytes : Int) * k > 2 ^ 48) := by
    have e : ((ti.bytes : Int) * k) = ((k * ti.bytes : Nat) : Int) := by rw [Int.natCast_mul, Int.mul_comm]
    rw [e]
    have : (2 : Int) ^ 48 = 281474976710656 := by decide
    omega
  have hneg : ¬ ((k : Int) < 0) := by omega
  have hself : ¬ ((k : Int) > k) := by omega
  have hroomm : ∀ P w, (askRoom (k * ti.bytes)).run P w = .ok () w := by
    intro P w
    unfold askRoom
    split
    · rfl
    · rfl
  have hok : (Instr.makeSlice t (.int .i64 k) (.int .i64 k)).run P w = .ok (.slice (some ⟨w.heap.size, 0, none⟩) k k) (w.alloc (.cells ((Array.range (k * y.size)).map fun q => zv.cells[q % zv.cells.size]!) el (0, 0))) := by
    unfold Instr.makeSlice
    simp only [Sem.run_bind, run_und hdt, Result.andThen_ok, asInt, asIntOf, Sem.run_pure, run_info hi, hwrap, hneg, hbytes, hself, decide_false, Bool.false_or, Bool.or_false, Bool.false_eq_true, if_false, Int.toNat_natCast, false_or, hroomm, run_size hi, hs]
    by_cases h0 : k * y.size = 0
    · rw [if_pos h0]
      have e0 : Array.range 0 = #[] := rfl
      simp [Go.newRow, h0, e0]
    · rw [if_neg h0]
      simp [Go.newRow, zeroValue, run_info hi, hz]
  exact hok

theorem value_step (h : Rel E β O S a w) {o : Oper} (hd : ∀ t, o.dst = some t → t < a.tmps.size) {u : Value} {x : AV} (hr : (execOp a.eval o).run P w = .ok (.value u) w) (hv : RAV w (Mof E β O S.σ) (envOf β S.σ) x u) {S' : St} (e : (R.ok (Aix.setDst S o.dst x)).val = some S') :
    Stepped P E o a w S' := by
  simp only [val_ok, Option.some.injEq] at e
  subst e
  exact Stepped.pure h hd hr hv

theorem evalOO_sound (h : Rel E β O S a w) {x : Option Operand} {v : Option AV} (e : (evalOO S x).val = some v) : ROpt w (Mof E β O S.σ) (envOf β S.σ) v (x.map a.eval) := by
  cases x with
  | none =>
    simp only [evalOO, val_ok, Option.some.injEq] at e
    subst e
    trivial
  | some x =>
    simp only [evalOO, val_do] at e
    obtain ⟨v', h1, e⟩ := some_bind e
    simp only [val_ok, Option.some.injEq] at e
    subst e
    exact evalO_sound h h1

theorem capsA_sound (h : Rel E β O S a w) : ∀ {l : List Operand} {ps : List (Nat × Nat × Nat)}, (capsA S l).val = some ps → CapsR (envOf β S.σ) ps (l.map a.eval)
  | [], ps, e => by
    simp only [capsA, val_ok, Option.some.injEq] at e
    subst e
    exact .nil
  | x :: r, ps, e => by
    simp only [capsA, val_do] at e
    obtain ⟨v, h1, e⟩ := some_bind e
    have hv := evalO_sound h h1
    split at e
    · rw [val_do] at e
      obtain ⟨qs, h2, e⟩ := some_bind e
      simp only [val_ok, Option.some.injEq] at e
      subst e
      cases hv with
      | one hv =>
        generalize hu : a.eval x = u at hv
        cases hv with
        | ptr he hi =>
          rw [List.map_cons, hu]
          exact .cons he hi (capsA_sound h h2)
    · simp [val_stuck] at e

theorem RGs.get : ∀ {l : List (Bool × List Cell)} {vs : List Value}, RGs w M env l vs → ∀ (i : Nat) (x : Bool × List Cell), l[i]? = some x → ∃ v, vs[i]? = some v ∧ RG w M env x.1 x.2 v
  | _, _, .nil, i, x, hx => by simp at hx
  | _, _, .cons h hr, 0, x, hx => by
    simp only [List.getElem?_cons_zero, Option.some.injEq] at hx
    subst hx
    exact ⟨_, rfl, h⟩
  | _, _, .cons h hr, i + 1, x, hx => by
    simp only [List.getElem?_cons_succ] at hx ⊢
    exact RGs.get hr i x hx

theorem lenA_sound (hX : XOk P X) {t : TypeId} {y : TyI} (hy : X t = some y) {x : AV} {u n : Value} (h : RAV w M env x u) (e : (lenA real y.u x).val = some n) {o : TypeId} : (∀ w, (Builtin.len_ #[t] o #[u]).run P w = .ok n w) ∧ oneV n = true := by
  obtain ⟨i, d, z, hi, hd, _, _, _, _, _, hu⟩ := tyOf_some (hX t y hy)
  unfold lenA at e
  split at e
  · rename_i el hye
    have := uOf_slice (hu.symm.trans hye)
    subst this
    have run : ∀ ad n cap, u = .slice ad n cap → ∀ w, (Builtin.len_ #[t] o #[u]).run P w = .ok (.int .i64 n) w := by
      intro ad n cap hu w
      subst hu
      simp [Builtin.len_, run_und hd, goInt]
    split at e
    · simp only [val_ok, Option.some.injEq] at e
      subst e
      cases h with
      | one h => cases h with
        | arr => exact ⟨run _ _ _ rfl, rfl⟩
    · simp only [val_ok, Option.some.injEq] at e
      subst e
      cases h with
      | one h => cases h with
        | pv h => cases h; exact ⟨run _ _ _ rfl, rfl⟩
    · simp only [val_ok, Option.some.injEq] at e
      subst e
      cases h with
      | one h => cases h with
        | pv h =>
          generalize hOO : ([] : List Nat) = O0 at h
          cases h with
          | nil => exact ⟨run _ _ _ rfl, rfl⟩
          | sh => exact ⟨run _ _ _ rfl, rfl⟩
          | un => cases hOO
    · simp [val_stuck] at e
  · rename_i hye
    have := uOf_str (hu.symm.trans hye)
    subst this
    split at e
    · simp only [val_ok, Option.some.injEq] at e
      subst e
      obtain rfl := RAV.sc h
      refine ⟨fun w => ?_, rfl⟩
      simp [Builtin.len_, run_und hd, goInt, real]
    · simp [val_stuck] at e
  · simp [val_stuck] at e

theorem run_call_len {o : Oper} {c : Call} (ho : o.op = .call c) (hb : c.callee = .builtin .len) {x : Operand} {t : TypeId} (ha : c.args.toList = [x]) (ht : c.argTypes.toList = [t]) {v : Value} {w' : World}
    (h : (Builtin.len_ #[t] o.type #[a.eval x]).run P w = .ok v w') : (execOp a.eval o).run P w = .ok (.value v) w' := by
  have ha' : c.args = #[x] := by rw [← Array.toArray_toList (xs := c.args), ha]
  have ht' : c.argTypes = #[t] := by rw [← Array.toArray_toList (xs := c.argTypes), ht]
  obtain ⟨callee, args, argTypes⟩ := c
  dsimp only at hb ha' ht'
  subst hb ha' ht'
  unfold execOp
  simp only [ho, resolve, invoke, builtin, Sem.run_bind, Sem.run_pure, Result.andThen_ok, List.map_toArray, List.map_cons, List.map_nil, h]

theorem run_call_min {o : Oper} {c : Call} (ho : o.op = .call c) (hb : c.callee = .builtin .min) {x y : Operand} (ha : c.args.toList = [x, y]) {k k' : IntKind} {n m : Int} (hx : a.eval x = .int k n) (hy : a.eval y = .int k' m) {w' : World} :
    (execOp a.eval o).run P w' = .ok (.value (.int k (real.mn n m))) w' := by
  have ha' : c.args = #[x, y] := by rw [← Array.toArray_toList (xs := c.args), ha]
  obtain ⟨callee, args, argTypes⟩ := c
  dsimp only at hb ha'
  subst hb ha'
  unfold execOp
  simp only [ho, resolve, invoke, builtin, Sem.run_bind, Sem.run_pure, Result.andThen_ok, List.map_toArray, List.map_cons, List.map_nil, hx, hy, Builtin.min_, List.foldlM_cons, List.foldlM_nil, Builtin.min2]
  rfl

theorem run_call_max {o : Oper} {c : Call} (ho : o.op = .call c) (hb : c.callee = .builtin .max) {x y : Operand} (ha : c.args.toList = [x, y]) {k k' : IntKind} {n m : Int} (hx : a.eval x = .int k n) (hy : a.eval y = .int k' m) {w' : World} :
    (execOp a.eval o).run P w' = .ok (.value (.int k (real.mx n m))) w' := by
  have ha' : c.args = #[x, y] := by rw [← Array.toArray_toList (xs := c.args), ha]
  obtain ⟨callee, args, argTypes⟩ := c
  dsimp only at hb ha'
  subst hb ha'
  unfold execOp
  simp only [ho, resolve, invoke, builtin, Sem.run_bind, Sem.run_pure, Result.andThen_ok, List.map_toArray, List.map_cons, List.map_nil, hx, hy, Builtin.max_, List.foldlM_cons, List.foldlM_nil, Builtin.max2]
  rfl

theorem fieldOf_sound (hX : XOk P X) {t : TypeId} {f off sz : Nat} {g : Bool} (hf : (fieldOf X t f).val = some (off, sz, g)) :
    ∃ fl fs fi fd, P.underlying t = some (.struct fs) ∧ fs[f]? = some fl ∧ fl.offset = off ∧ P.info? fl.type = some fi ∧ fi.size = sz ∧ P.underlying fl.type = some fd ∧ aggOf fd = g ∧ sz ≠ 0 := by
  unfold fieldOf typ at hf
  rw [val_do] at hf
  obtain ⟨y, hy, hf⟩ := some_bind hf
  rw [val_of] at hy
  split at hf
  · rename_i fs hu
    split at hf
    · rename_i off' sz' g' hfs
      split at hf
      · rename_i hz
        simp only [val_ok, Option.some.injEq, Prod.mk.injEq] at hf
        obtain ⟨rfl, rfl, rfl⟩ := hf
        obtain ⟨i, d, z, hi, hd, _, _, _, _, _, hu'⟩ := tyOf_some (hX t y hy)
        obtain ⟨fl, rfl, _, hfl⟩ := uOf_struct (hu'.symm.trans hu)
        obtain ⟨fl', fi, fd, h1, h2, h3, h4, h5, h6⟩ := hfl f _ _ _ hfs
        exact ⟨fl', _, fi, fd, hd, h1, h2, h3, h4, h5, h6, beq_ne hz⟩
      · simp [val_stuck] at hf
    · simp [val_stuck] at hf
  · simp [val_stuck] at hf
end
end Go.Aix
