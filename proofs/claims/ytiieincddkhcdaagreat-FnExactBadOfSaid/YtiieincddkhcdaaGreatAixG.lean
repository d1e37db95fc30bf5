/-
  THE CALCULUS, A FURTHER TEXT: regions in which some operations are stepped by hand; the room of a slice that is nil.
-/
import Derived.Test.YtiieincddkhcdaaGreatAixF
set_option linter.unusedSimpArgs false
set_option linter.unusedVariables false
namespace Go.Aix
section
variable {P : Program} {X : Ctx} {Y : CallsA} {f : FuncId} {fn : Func} {b : Code} {E : Ent} {R : Value → World → Prop}
inductive OpsR (P : Program) (X : Ctx) (I : Ops) (Y : CallsA) (E : Ent) (n : Nat) (ops : Array Oper) : List Nat → St → St → Prop
  | nil {S : St} : OpsR P X I Y E n ops [] S S
  | go {l l1 l2 : List Nat} {S S1 S2 : St} (hl : l = l1 ++ l2) (e : (goOps X I Y ops l1 S).val = some S1) (h : OpsR P X I Y E n ops l2 S1 S2) : OpsR P X I Y E n ops l S S2
  | step {i : Nat} {l : List Nat} {o : Oper} {S S1 S2 : St} (ho : ops[i]? = some o) (hg : o.guard = none)
      (hs : ∀ (β : Nat → Nat × Nat) (O : Nat → List Nat) (a : Act) (w : World), Rel E β O S a w → a.tmps.size = n → Stepped P E o a w S1) (h : OpsR P X I Y E n ops l S1 S2) : OpsR P X I Y E n ops (i :: l) S S2
theorem goOps_app (hX : XOk P X) (hY : CallsOk P Y) {ops : Array Oper} {n : Nat} (hd : ∀ (i : Nat) (o : Oper) t, ops[i]? = some o → o.dst = some t → t < n) {Q : Exit → Act → World → Prop} {l2 : List Nat} :
    ∀ {l : List Nat} {S S' : St} {β : Nat → Nat × Nat} {O : Nat → List Nat} {a : Act} {w : World}, Rel E β O S a w → a.tmps.size = n → (goOps X real Y ops l S).val = some S' →
    (∀ β' O' a' w', Rel E β' O' S' a' w' → a'.tmps.size = n → wpOps P ops Q l2 a' w') → wpOps P ops Q (l ++ l2) a w
  | [], S, S', β, O, a, w, h, hn, e, hQ => by
    simp only [goOps, val_ok, Option.some.injEq] at e
    subst e
    exact hQ β O a w h hn
  | i :: l, S, S', β, O, a, w, h, hn, e, hQ => by
    rw [List.cons_append]
    unfold goOps at e
    split at e
    · rename_i ho
      rw [wpOps]
      simp only [ho]
      exact goOps_app hX hY hd h hn e hQ
    · rename_i o ho
      rw [val_do] at e
      obtain ⟨S1, h1, e⟩ := some_bind e
      rw [wpOps_cons]
      exact opA_sound hX hY ho h (fun t ht => by rw [hn]; exact hd i o t ho ht) h1 (fun β' O' a' w' h' hs => goOps_app hX hY hd h' (hs.trans hn) e hQ)
theorem OpsR.sound (hX : XOk P X) (hY : CallsOk P Y) {I : Ops} (hI : I = real) {ops : Array Oper} {n : Nat} (hd : ∀ (i : Nat) (o : Oper) t, ops[i]? = some o → o.dst = some t → t < n) {Q : Exit → Act → World → Prop} {l : List Nat} {S S' : St} (k : OpsR P X I Y E n ops l S S') :
    ∀ {β : Nat → Nat × Nat} {O : Nat → List Nat} {a : Act} {w : World}, Rel E β O S a w → a.tmps.size = n → (∀ β' O' a' w', Rel E β' O' S' a' w' → a'.tmps.size = n → Q .normal a' w') → wpOps P ops Q l a w := by
  subst hI
  induction k with
  | nil => exact fun h hn hQ => hQ _ _ _ _ h hn
  | go hl e _ ih => subst hl; exact fun h hn hQ => goOps_app hX hY hd h hn e (fun β' O' a' w' h' hn' => ih h' hn' hQ)
  | @step i l o S S1 S2 ho hg hs _ ih =>
    intro β O a w h hn hQ
    obtain ⟨nx, w', β', O', hrun, hres⟩ := hs β O a w h hn
    rw [wpOps_cons]
    unfold wpOp
    simp only [ho]
    rw [if_pos (by unfold Region.wanted; rw [hg])]
    left
    show o.upon P a _ _ ((execOp a.eval o).run P w)
    rw [hrun]
    rcases hres with ⟨u, rfl, hR⟩ | ⟨rfl, hR⟩
    · exact ih hR ((put_size ..).trans hn) hQ
    · exact ih hR ((put_size ..).trans hn) hQ
theorem W_ops (hX : XOk P X) (hY : CallsOk P Y) {I : Ops} (hI : I = real) {l : List Nat} {p q : List Nat} {id : Nat} {ops : Array Oper} {S S' : St}
    (hp : (start [] b p []).head? = some (.code q (.region id ops false))) (hin : codeIn fn.ntmps b = true) (hl' : List.range ops.size = l) (k : OpsR P X I Y E fn.ntmps ops l S S')
    (h : W P f fn E R ((behind b p).map Itm.item) S') : W P f fn E R (place b p []) S := by
  have hl : start [] b p [] = .code q (.region id ops false) :: behind b p := by
    unfold behind
    generalize start [] b p [] = l at hp
    cases l with
    | nil => cases hp
    | cons x l => simp only [List.head?_cons, Option.some.injEq] at hp; subst hp; rfl
  have hi := start_in (n := fn.ntmps) p [] b [] hin (fun _ h => nomatch h)
  have hpl : place b p [] = .code (.region id ops false) :: (behind b p).map Itm.item := by
    have := start_item p [] b []
    rw [hl] at this
    exact this.symm
  have hc : codeIn fn.ntmps (.region id ops false) = true := hi (.code q (.region id ops false)) (by rw [hl]; exact List.mem_cons_self)
  have hd : ∀ (i : Nat) (o : Oper) tt, ops[i]? = some o → o.dst = some tt → tt < fn.ntmps := fun i o tt ho ht => opsIn_spec hc o (by have := Array.mem_of_getElem? ho; simpa using this) tt ht
  rw [hpl]
  intro β O a w hr hsz
  refine At.region ?_
  show wpOps P ops _ (List.range ops.size) a w
  rw [hl']
  refine k.sound hX hY hI hd hr hsz (fun β' O' a' w' h' hs' => ?_)
  show At P f R _ _ _
  exact h β' O' a' w' h' hs'
end
section
variable {P : Program} {X : Ctx} {E : Ent} {β : Nat → Nat × Nat} {O : Nat → List Nat} {S : St} {a : Act} {w : World}
theorem run_call_cap {o : Oper} {c : Call} (ho : o.op = .call c) (hb : c.callee = .builtin .cap) {x : Operand} {t : TypeId} (ha : c.args.toList = [x]) (ht : c.argTypes.toList = [t]) {v : Value} {w' : World}
    (h : (Builtin.cap_ #[t] o.type #[a.eval x]).run P w = .ok v w') : (execOp a.eval o).run P w = .ok (.value v) w' := by
  have ha' : c.args = #[x] := by rw [← Array.toArray_toList (xs := c.args), ha]
  have ht' : c.argTypes = #[t] := by rw [← Array.toArray_toList (xs := c.argTypes), ht]
  obtain ⟨callee, args, argTypes⟩ := c
  dsimp only at hb ha' ht'
  subst hb ha' ht'
  unfold execOp
  simp only [ho, resolve, invoke, builtin, Sem.run_bind, Sem.run_pure, Result.andThen_ok, List.map_toArray, List.map_cons, List.map_nil, h]
theorem cap_step (hX : XOk P X) {o : Oper} {c : Call} (ho : o.op = .call c) (hb : c.callee = .builtin .cap) {x : Operand} {t : TypeId} (ha : c.args.toList = [x]) (ht : c.argTypes.toList = [t]) (h : Rel E β O S a w)
    (hd : ∀ t, o.dst = some t → t < a.tmps.size) {y : TyI} (hy : (sliceOf X t).val = some y) (hs : (evalO S x).val = some (.one (.pv .nl))) : Stepped P E o a w (setDst S o.dst (scal (.int .i64 0))) := by
  obtain ⟨el, ti, hdt, hye, hi, hsz, hbt⟩ := sliceOf_sound hX hy
  have rs := evalO_sound h hs
  refine Stepped.pure h hd (run_call_cap ho hb ha ht ?_) (u := .int .i64 0) (RAV.scal rfl)
  generalize a.eval x = su at rs
  cases rs with
  | one rs => cases rs with
    | pv rs => cases rs; simp [Builtin.cap_, run_und hdt, goInt]
theorem app0_step (hX : XOk P X) {o : Oper} {c : Call} (ho : o.op = .call c) (hb : c.callee = .builtin .append) {s x : Operand} {t t' : TypeId} (ha : c.args.toList = [s, x]) (ht : c.argTypes.toList = [t, t']) (h : Rel E β O S a w)
    (hd : ∀ t, o.dst = some t → t < a.tmps.size) {y y' : TyI} {k : IntKind} {n : Int} {z : List PV} (hy : (sliceOf X t).val = some y) (hy' : X t' = some y') (hu : y'.u = .int k) (hs : (evalO S s).val = some (.one (.pv .nl))) (hx : (evalO S x).val = some (scal (.int .i64 n)))
    (h0 : 0 < n) (hle : n ≤ ((140737488355328 / y.bytes : Nat) : Int)) (hpos : 0 < y.size) (hz0 : y.zero.length = y.size) (hz1 : (pvsOf y.zero).val = some z) :
    Stepped P E o a w (newRow S o.dst y.size (List.replicate n.toNat z) n.toNat) := by
  obtain ⟨el, ti, hdt, hye, hi, hsz, hbt⟩ := sliceOf_sound hX hy
  obtain ⟨i, dd, zv, hi', hd', hz, hzs, _, hszi, _, _⟩ := tyOf_some (hX el y hye)
  have := hi.symm.trans hi'
  obtain rfl := Option.some.inj this
  obtain ⟨i2, d2, z2, j1, j2, j3, j4, j5, j6, j7, j8⟩ := tyOf_some (hX t' y' hy')
  have hdt' : ∃ kk, d2 = .int kk := by
    rw [hu] at j8
    cases d2 <;> simp [uOf] at j8 <;> first | exact ⟨_, rfl⟩ | (split at j8 <;> cases j8)
  obtain ⟨kk, rfl⟩ := hdt'
  have rs := evalO_sound h hs
  have rx := evalO_sound h hx
  have ex := RAV.sc rx
  generalize hsv : a.eval s = su at rs
  have hR := cellsOf_sound (w := w.drew) (M := Mof E β O S.σ) (env := envOf β S.σ) hzs
  have hzl : zv.cells.size = y.size := by have := hR.length; simp at this; omega
  obtain ⟨p1, p2⟩ := pvsOf_sound hR hz1
  obtain ⟨m, rfl⟩ : ∃ m : Nat, n = m := ⟨n.toNat, by omega⟩
  have hk : m ≤ 140737488355328 / ti.bytes := by rw [hbt]; omega
  have hkb : m * ti.bytes ≤ 140737488355328 := Nat.le_trans (Nat.mul_le_mul_right _ hk) (Nat.div_mul_le_self _ _)
  have hk2 : m ≤ 140737488355328 := Nat.le_trans hk (Nat.div_le_self _ _)
  cases rs with
  | one rs => cases rs with
    | pv rs =>
      cases rs
      have hm : 0 < m := by omega
      have hrun : (Builtin.append_ #[t, t'] o.type #[.slice none 0 0, .int .i64 (m : Int)]).run P w = .ok (.slice (some ⟨w.heap.size, 0, none⟩) m (grownCap w m 0 el))
          (w.drew.alloc (.cells (#[] ++ Builtin.zeroCells zv.cells m ++ Builtin.zeroCells zv.cells (grownCap w m 0 el - m)) el (0, 0))) := by
        have hwrap : IntKind.i64.wrap (m : Int) = m := by rw [IntKind.wrap_i64]; omega
        have h63' : ¬ (9223372036854775807 < (m : Int)) := by omega
        have h48 : ¬ (281474976710656 < (m : Int) * (ti.bytes : Int)) := by
          have e : ((m : Int) * ti.bytes) = ((m * ti.bytes : Nat) : Int) := by rw [Int.natCast_mul]
          rw [e]; omega
        have h48' : ¬ (281474976710656 < Builtin.nextslicecap m 0 * ti.bytes) := by
          have := growslice_fits (need := m) (old := 0) (bytes := ti.bytes) hm hkb
          omega
        have hns : ¬ (m * y.size = 0) := by
          have := Nat.mul_pos hm hpos
          omega
        have hm0 : ¬ m = 0 := by omega
        have hneg : ¬ ((m : Int) < 0) := by omega
        have hs0 : ¬ y.size = 0 := by omega
        simp [Builtin.append_, run_und hdt, run_und j2, sizeOf, run_info hi, hz, zeroValue, asInt, asIntOf, hwrap, hsz, h63', h48, h48', hns, hm0, hs0, hneg, Question.forced, Builtin.firstCells, Go.newRow, grownCap]
      have hge := grownCap_ge w m 0 el
      generalize grownCap w m 0 el = cap at hrun hge
      have hrow := (RelM.drew h).newRow (fun _ h => h) (d := o.dst) (t := el) (sz := y.size) (n := m) (cap := cap) (es := List.replicate m z) (vs := (#[] ++ Builtin.zeroCells zv.cells m ++ Builtin.zeroCells zv.cells (cap - m))) (Oc := []) hd
        (by
          have := RLL.zeros (w := w.drew) (M := Mof E β O S.σ) p1 (sz := y.size) (by rw [p2]; simpa using hzl) (by simpa using hzl) m (Builtin.zeroCells zv.cells (cap - m)).toList
          rw [Array.toList_append, Array.toList_append]
          simp only [Builtin.zeroCells] at this ⊢
          rw [show (Array.map (fun i => zv.cells[i % zv.cells.size]!) (Array.range (m * zv.cells.size))).toList = (List.replicate m zv.cells.toList).flatten from zeros m zv.cells.size zv.cells rfl]
          simpa using this)
        (fun _ hx => nomatch hx) List.nodup_nil (fun _ _ _ _ hx => nomatch hx) (fun _ hx => nomatch hx) (by simp) hge (by
          rw [Array.size_append, Array.size_append, zeroCells_size, zeroCells_size, hzl]
          have : cap * y.size = m * y.size + (cap - m) * y.size := by rw [← Nat.add_mul]; congr 1; omega
          simp; omega)
      exact ⟨_, _, _, _, run_call_append ho hb ha ht (by rw [hsv, ex]; exact hrun), .inl ⟨_, rfl, hrow⟩⟩
end
theorem Back.trim1 {w0 w : World} {Xs : Nat → Prop} {sz : Nat} {es : List (List PV)} {u : Value} (h : Back (Ent0 w0 Xs) (.one (.arr 0 0 0)) [(0, .row sz es)] 1 u w) : Back (Ent0 w0 Xs) (.one (.arr 0 0 0)) [(0, .row sz [])] 1 u w := by
  obtain ⟨β, O, m, hr⟩ := h
  have k0 : lk 0 [((0 : Nat), Chunk.row sz es)] = some (.row sz es) := rfl
  have k : ∀ {c ch}, lk c [((0 : Nat), Chunk.row sz [])] = some ch → c = 0 ∧ ch = .row sz [] := by
    intro c ch hc
    unfold lk at hc
    split at hc
    · rename_i hb; exact ⟨beq_eq hb, (Option.some.inj hc).symm⟩
    · cases hc
  have hown := fun b hb => m.own 0 _ k0 b hb
  refine ⟨β, fun _ => [], ⟨?_, ?_, ?_, ?_, ?_, m.os, m.tape, m.output, m.size, m.frame, m.xlt, m.nxt, ?_⟩, ?_⟩
  · intro c ch hc
    obtain ⟨rfl, _⟩ := k hc
    exact Nat.zero_lt_one
  · intro c ch hc
    obtain ⟨rfl, rfl⟩ := k hc
    cases m.chunk 0 _ k0 with
    | row hb hN h => exact .row hb hN .nil
  · intro c ch hc
    simp
  · intro c d ch dh hc hd hcd
    obtain ⟨rfl, _⟩ := k hc
    obtain ⟨rfl, _⟩ := k hd
    exact absurd rfl hcd
  · intro c ch hc b hb
    obtain ⟨rfl, _⟩ := k hc
    exact hown b (by simp at hb; subst hb; exact List.mem_cons_self)
  · intro c ch h0 hc
    exact absurd h0 (Nat.not_lt_zero _)
  · cases hr with
    | one hr => cases hr with
      | arr he hm hn hc =>
        have e0 : envOf β [((0 : Nat), Chunk.row sz es)] 0 = some ((β 0).1, sz, es.length, (β 0).2) := rfl
        rw [e0] at he
        simp only [Option.some.injEq, Prod.mk.injEq] at he
        obtain ⟨rfl, rfl, rfl, rfl⟩ := he
        exact .one (.arr (m := 0) rfl (Nat.le_refl _) hn hc)
theorem Ok0.trim1 {P : Program} {g : FuncId} {args : List AV} {sz : Nat} {es : List (List PV)} (h : Ok0 P g args (.one (.arr 0 0 0)) [(0, .row sz es)] 1) : Ok0 P g args (.one (.arr 0 0 0)) [(0, .row sz [])] 1 :=
  fun w Xs vs hX hv => (h w Xs vs hX hv).mono fun e w' he => by
    cases e with
    | returned u => exact Back.trim1 he
    | panicked => exact he.elim
    | outgrown => exact he.elim
def pNl : Par Unit where
  enc _ := .one (.pv .nl)
  dec x := match x with
    | .one (.pv .nl) => some ()
    | _ => none
  fit := by
    intro w M env x v a h e
    split at e
    · exact h
    · cases e
@[simp] theorem pNl_dec : pNl.dec (.one (.pv .nl)) = some () := rfl
end Go.Aix
namespace Go.Aix
def WL (live : List Nat) (P : Program) (f : FuncId) (fn : Func) (E : Ent) (R : Value → World → Prop) (k : List Item) (S : St) : Prop := W P f fn E R k S
theorem WL.loop {live : List Nat} {P : Program} {f : FuncId} {fn : Func} {E : Ent} {R : Value → World → Prop} {k : List Item} {S1 S2 : St} (h : WL live P f fn E R k S2) (e : (norm E.n0 live S1).val = some S2) : W P f fn E R k S1 := W_norm live e h
end Go.Aix
