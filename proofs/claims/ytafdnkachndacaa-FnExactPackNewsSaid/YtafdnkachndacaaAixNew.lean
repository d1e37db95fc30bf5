/-
  THE CALCULUS, NINTH TEXT: memory that is made, and memory that is written.
-/
import Derived.Test.YtafdnkachndacaaAixFill
set_option linter.unusedSimpArgs false
set_option linter.unusedVariables false
namespace Go.Aix
section
variable {P : Program} {X : Ctx} {E : Ent} {β : Nat → Nat × Nat} {O : Nat → List Nat} {S : St} {a : Act} {w : World} {M : Nat → Prop} {env : EnvT}

theorem addNew {ch : Chunk} {vs : Array Value} {t : TypeId} {Oc : List Nat} (h : RelM M E β O S a w) (hM : ∀ b, Mof E β O S.σ b → M b) (hOc : ∀ b ∈ Oc, M b)
    (hm : Mem E (upd β S.next (w.heap.size, vs.size)) (upd O S.next Oc) (S.σ ++ [(S.next, ch)]) (S.next + 1) (w.alloc (.cells vs t (0, 0)))) :
    Rel E (upd β S.next (w.heap.size, vs.size)) (upd O S.next Oc) ⟨S.T, S.σ ++ [(S.next, ch)], S.next + 1⟩ a (w.alloc (.cells vs t (0, 0))) := by
  refine ⟨hm, ?_, h.nodef⟩
  intro k av hk
  obtain ⟨h1, h2⟩ := h.slots k av hk
  exact ⟨h1, h2.turn (new_turn h.mem hM hOc ch _ _) (new_env h.mem ch _)⟩
theorem newEnv_self {ch : Chunk} {N : Nat} (h : MemM M E β O S.σ S.next w) : envOf (upd β S.next (w.heap.size, N)) (S.σ ++ [(S.next, ch)]) S.next = some (w.heap.size, ch.sz, ch.cnt, N) := by
  unfold envOf
  rw [lk_new h.keys, if_pos rfl, upd_self]
  rfl

theorem Rel.newBox (h : Rel E β O S a w) {d : Option Tmp} (hd : ∀ t, d = some t → t < a.tmps.size) {cs : List Cell} {vs : Array Value} {t : TypeId} (hR : RCs w (Mof E β O S.σ) (envOf β S.σ) cs vs.toList) :
    Rel E (upd β S.next (w.heap.size, vs.size)) (upd O S.next []) (Aix.newBox S d cs) (a.put d (.pointer (some ⟨w.heap.size, 0, none⟩))) (w.alloc (.cells vs t (0, 0))) := by
  have h1 := addNew (t := t) h (fun _ h => h) (fun _ h => by simp at h) (h.mem.new (fun _ h => h) (ch := .box cs) (vs := vs) (t := t) (Oc := []) (fun w' M' env' ht he hb => .box hb rfl (hR.turn ht he)) (fun _ h => by simp at h) List.nodup_nil (fun _ h => by simp at h) (fun _ _ _ _ h => by simp at h) (fun _ h => by simp at h))
  refine Rel.setDst h1 hd (.one ?_)
  have := RCell.ptr (w := w.alloc (.cells vs t (0, 0))) (M := Mof E (upd β S.next (w.heap.size, vs.size)) (upd O S.next []) (S.σ ++ [(S.next, Chunk.box cs)])) (i := 0) (j := 0) (newEnv_self (ch := .box cs) (N := vs.size) h.mem) (by simp [Chunk.cnt])
  simpa using this

theorem RelM.newRow (h : RelM M E β O S a w) (hM : ∀ b, Mof E β O S.σ b → M b) {d : Option Tmp} (hd : ∀ t, d = some t → t < a.tmps.size) {sz n cap : Nat} {es : List (List PV)} {vs : Array Value} {t : TypeId} {Oc : List Nat} (hR : RLL w M sz es vs.toList Oc)
    (hOc : ∀ b ∈ Oc, M b) (hn : Oc.Nodup) (hdj : ∀ c x, lk c S.σ = some x → ∀ b ∈ Oc, b ∉ (β c).1 :: O c) (ho : ∀ b ∈ Oc, ¬ E.X b ∧ (E.Z b ∨ E.w0.heap.size ≤ b)) (hnn : n ≤ es.length) (hcap : n ≤ cap) (hroom : cap * sz ≤ vs.size) :
    Rel E (upd β S.next (w.heap.size, vs.size)) (upd O S.next Oc) (Aix.newRow S d sz es n) (a.put d (.slice (some ⟨w.heap.size, 0, none⟩) n cap)) (w.alloc (.cells vs t (0, 0))) := by
  have h1 := addNew (t := t) h hM hOc (h.mem.new hM (ch := .row sz es) (vs := vs) (t := t) (Oc := Oc) (fun w' M' env' ht he hb => .row hb rfl (hR.turn ht (fun _ _ h => h))) hOc hn (hR.lt) hdj ho)
  refine Rel.setDst h1 hd (.one ?_)
  exact .arr (newEnv_self (ch := .row sz es) (N := vs.size) h.mem) (by show 0 + n ≤ es.length; omega) hcap (.inr ⟨by simp, by show 0 * sz + cap * sz ≤ vs.size; omega⟩)

/-- What is given away lies in no chunk that is left. -/
theorem given {S1 : St} (h : RelM M E β O S a w) {Op : List Nat} (h1 : ∀ b ∈ Op, ∃ k ch, lk k S.σ = some ch ∧ lk k S1.σ = none ∧ b ∈ (β k).1 :: O k) (h2 : ∀ k ch, lk k S1.σ = some ch → ∃ ch0, lk k S.σ = some ch0) :
    (∀ c x, lk c S1.σ = some x → ∀ b ∈ Op, b ∉ (β c).1 :: O c) ∧ (∀ b ∈ Op, ¬ E.X b ∧ (E.Z b ∨ E.w0.heap.size ≤ b)) ∧ (∀ b ∈ Op, Mof E β O S.σ b) := by
  refine ⟨?_, ?_, fun b hb => by obtain ⟨k, ch, a1, _, a3⟩ := h1 b hb; exact .inr ⟨k, ch, a1, a3⟩⟩
  · intro c x hc b hb
    obtain ⟨k, ch, a1, a2, a3⟩ := h1 b hb
    obtain ⟨ch0, h0⟩ := h2 c x hc
    have hne : k ≠ c := fun e => by subst e; rw [a2] at hc; cases hc
    exact h.mem.disj k c ch ch0 a1 h0 hne b a3
  · intro b hb
    obtain ⟨k, ch, a1, a2, a3⟩ := h1 b hb
    exact h.mem.own k ch a1 b a3

/-! ### Variables -/
theorem run_newRow (e : TypeId) (cs : Array Value) : (Go.newRow e cs).run P w = .ok ⟨w.heap.size, 0, none⟩ (w.alloc (.cells cs e (0, 0))) := rfl
theorem run_newVar (e : TypeId) (v : Value) : (Go.newVar e v).run P w = .ok ⟨w.heap.size, 0, none⟩ (w.alloc (.cells v.cells e (0, 0))) := rfl
theorem alloc_step (hX : XOk P X) {o : Oper} {e : TypeId} {y : TyI} (ho : o.op = .alloc e) (h : Rel E β O S a w) (hd : ∀ t, o.dst = some t → t < a.tmps.size) (hy : X e = some y) : Stepped P E o a w (newBox S o.dst y.zero) := by
  obtain ⟨i, d, z, hi, hd', hz, hzs, _⟩ := tyOf_some (hX e y hy)
  have hR : RCs w (Mof E β O S.σ) (envOf β S.σ) y.zero z.cells.toList := cellsOf_sound hzs
  refine ⟨_, _, _, _, ?_, .inl ⟨_, rfl, h.newBox (t := e) hd hR⟩⟩
  simp only [execOp, ho]
  refine run_v ?_
  unfold Instr.alloc
  simp only [Sem.run_bind, zeroValue, run_info hi, Result.andThen_ok, hz, Sem.run_pure]
  rfl

theorem box_step {o : Oper} {e : TypeId} {x : Operand} {av : AV} {cs : List Cell} (ho : o.op = .box e x) (h : Rel E β O S a w) (hd : ∀ t, o.dst = some t → t < a.tmps.size) (hx : (evalO S x).val = some av) (hc : av.cells.val = some cs) :
    Stepped P E o a w (newBox S o.dst cs) := by
  have hR := AV.cells_sound (evalO_sound h hx) hc
  refine ⟨_, _, _, _, ?_, .inl ⟨_, rfl, h.newBox (t := e) hd hR⟩⟩
  simp only [execOp, ho]
  refine run_v ?_
  rfl

/-! ### Rows of zeros -/
theorem zeros (n s : Nat) (z : Array Value) (hz : z.size = s) : ((Array.range (n * s)).map fun k => z[k % z.size]!).toList = (List.replicate n z.toList).flatten := by
  subst hz
  rw [Array.toList_map, Array.toList_range]
  induction n with
  | zero => simp
  | succ n ih =>
    rw [Nat.add_mul, Nat.one_mul, List.range_add, List.map_append, ih, List.replicate_succ', List.flatten_append]
    congr 1
    simp only [List.map_map, List.flatten_cons, List.flatten_nil, List.append_nil]
    apply List.ext_getElem
    · simp
    · intro k h1 h2
      simp at h1 h2
      simp only [List.getElem_map, List.getElem_range, Function.comp_apply, Array.getElem_toList]
      have : (n * z.size + k) % z.size = k := by rw [Nat.mul_comm, Nat.mul_add_mod, Nat.mod_eq_of_lt h2]
      rw [this]
      simp [h2]
theorem RCs.zeros {cs : List Cell} {vs : List Value} (h : RCs w M env cs vs) : ∀ n, RCs w M env (List.replicate n cs).flatten (List.replicate n vs).flatten
  | 0 => .nil
  | n + 1 => by
    rw [List.replicate_succ, List.replicate_succ, List.flatten_cons, List.flatten_cons]
    exact h.append (RCs.zeros h n)
theorem RLL.zeros {ps : List PV} {vs : List Value} {sz : Nat} (h : RL w M ps vs []) (hl : ps.length = sz) (hv : vs.length = sz) : ∀ (n : Nat) (us : List Value), RLL w M sz (List.replicate n ps) ((List.replicate n vs).flatten ++ us) []
  | 0, _ => .nil
  | n + 1, us => by
    rw [List.replicate_succ, List.replicate_succ, List.flatten_cons, List.append_assoc]
    refine .cons (O1 := []) (O2 := []) hl (h.pre _ (by rw [hl, ← hv]; simp)) ?_
    rw [← hv, List.drop_left]
    rw [hv]
    exact RLL.zeros h hl hv n us
theorem pvsOf_sound : ∀ {cs : List Cell} {vs : List Value} {ps : List PV}, RCs w M env cs vs → (pvsOf cs).val = some ps → RL w M ps vs [] ∧ ps.length = vs.length
  | [], _, ps, h, e => by
    cases h
    simp only [pvsOf, val_ok, Option.some.injEq] at e
    subst e
    exact ⟨.nil, rfl⟩
  | c :: cs, _, ps, h, e => by
    cases h with
    | cons h hr =>
      unfold pvsOf at e
      split at e
      · rw [val_do] at e
        obtain ⟨qs, e1, e⟩ := some_bind e
        simp only [val_ok, Option.some.injEq] at e
        subst e
        obtain ⟨h1, h2⟩ := pvsOf_sound hr e1
        cases h with
        | pv h => exact ⟨.cons (O1 := []) (O2 := []) h h1, by simp [h2]⟩
      · simp [val_stuck] at e
theorem RL.split : ∀ {ps : List PV} {vs : List Value} {Op : List Nat} (k : Nat), RL w M ps vs Op → ∃ A B, Op = A ++ B ∧ RL w M (ps.take k) vs A ∧ RL w M (ps.drop k) (vs.drop k) B
  | ps, vs, Op, 0, h => ⟨[], Op, rfl, by simpa using .nil, by simpa using h⟩
  | _, _, _, k + 1, .nil => ⟨[], [], rfl, by simpa using .nil, by simpa using .nil⟩
  | _, _, _, k + 1, .cons (O1 := O1) h hr => by
    obtain ⟨A, B, h1, h2, h3⟩ := RL.split k hr
    exact ⟨O1 ++ A, B, by rw [h1]; simp, by rw [List.take_succ_cons]; exact .cons h h2, by simpa using h3⟩
theorem chopP_sound {sz : Nat} : ∀ {n : Nat} {ps : List PV} {vs : List Value} {Op : List Nat}, RL w M ps vs Op → ps.length = n * sz → RLL w M sz (chopP sz n ps) vs Op ∧ (chopP sz n ps).length = n
  | 0, ps, vs, Op, h, hl => by
    have : ps = [] := List.length_eq_zero_iff.1 (by simpa using hl)
    subst this
    cases h
    exact ⟨.nil, rfl⟩
  | n + 1, ps, vs, Op, h, hl => by
    rw [Nat.add_mul, Nat.one_mul] at hl
    obtain ⟨A, B, h1, h2, h3⟩ := RL.split sz h
    obtain ⟨h4, h5⟩ := chopP_sound (sz := sz) (n := n) h3 (by rw [List.length_drop]; omega)
    subst h1
    exact ⟨.cons (by rw [List.length_take]; omega) h2 h4, by simp [chopP, h5]⟩

theorem buildSlice_step (hX : XOk P X) {o : Oper} {t : TypeId} {n : Nat} {parts : Array (Nat × Operand)} {y : TyI} {ps : List (Nat × Nat × List Cell)} {cs : List Cell} {vs : List PV} {S1 : St} (ho : o.op = .buildSlice t n parts) (h : Rel E β O S a w)
    (hd : ∀ t, o.dst = some t → t < a.tmps.size) (hy : (sliceOf X t).val = some y) (hb : (Nat.beq y.zero.length y.size && Nat.ble (n * y.size) 16777216) = true)
    (h1 : (partsA S (fun i => some (i * y.size, y.size)) parts.toList).val = some ps) (h2 : (fillA ((List.replicate n y.zero).flatten) ps).val = some cs) (h3 : (freezes real S cs).val = some (vs, S1)) :
    Stepped P E o a w (newRow S1 o.dst y.size (chopP y.size n vs) n) := by
  obtain ⟨el, ti, hdt, hye, hi, hs, hbt⟩ := sliceOf_sound hX hy
  obtain ⟨i, dd, z, hi', hd', hz, hzs, _, hsz, _, _⟩ := tyOf_some (hX el y hye)
  have := hi.symm.trans hi'
  obtain rfl := Option.some.inj this
  rw [Bool.and_eq_true] at hb
  have hb1 := beq_eq hb.1
  have hb2 := Nat.le_of_ble_eq_true hb.2
  have hR : RCs w (Mof E β O S.σ) (envOf β S.σ) y.zero z.cells.toList := cellsOf_sound hzs
  have hzl : z.cells.size = y.size := by have := hR.length; simp at this; omega
  obtain ⟨vs', f1, f2, f3⟩ := fillA_sound h (pl := fun i => some (i * y.size, y.size)) (place := fun i => some (i * y.size, y.size)) (fun _ _ h => h) (vs := (Array.range (n * y.size)).map fun k => z.cells[k % z.cells.size]!) h1 h2
    (by rw [zeros n y.size z.cells hzl]; exact hR.zeros n)
  obtain ⟨Op, g1, g2, g2', g3, g4, g5, g6, g7, g8⟩ := freezes_sound h (fun _ _ h => h) f2 h3
  have hvs : vs'.size = n * y.size := by rw [f3]; simp
  obtain ⟨c1, c2⟩ := chopP_sound (n := n) (sz := y.size) g2 (by rw [g2']; simpa using hvs)
  obtain ⟨d1, d2, d3⟩ := given h g4 g5
  refine ⟨_, _, _, _, ?_, .inl ⟨_, rfl, g1.newRow g6 (t := el) (cap := n) hd c1 d3 g3 d1 d2 (by omega) (Nat.le_refl _) (by omega)⟩⟩
  simp only [execOp, ho]
  refine run_v ?_
  have hrun : (Instr.buildSlice t n (parts.map fun (i, x) => (i, a.eval x))).run P w = .ok (.slice (some ⟨w.heap.size, 0, none⟩) n n) (w.alloc (.cells vs' el (0, 0))) := by
    unfold Instr.buildSlice
    simp only [Sem.run_bind, run_und hdt, Result.andThen_ok, run_size hi, hs]
    rw [if_neg (by omega)]
    have hfill : ∀ z' : Array Value, (Array.range (n * y.size)).map (fun k => z'[k % z'.size]!) = ((Array.range (n * y.size)).map fun k => z.cells[k % z.cells.size]!) →
        Instr.fill (fun i => some (i * y.size, y.size)) ((Array.range (n * y.size)).map fun k => z'[k % z'.size]!) (parts.map fun (i, x) => (i, a.eval x)).toList = some vs' := by
      intro z' e0
      rw [e0, Array.toList_map]
      exact f1
    by_cases h0 : n * y.size = 0
    · rw [if_pos h0]
      simp only [Sem.run_bind, Sem.run_pure, Result.andThen_ok]
      rw [hfill #[] (by rw [h0]; apply Array.ext <;> simp)]
      simp only [Sem.run_bind, run_newRow, Result.andThen_ok, Sem.run_pure]
    · rw [if_neg h0]
      simp only [Sem.run_bind, Sem.run_pure, Result.andThen_ok, zeroValue, run_info hi, hz]
      rw [hfill z.cells rfl]
      simp only [Sem.run_bind, run_newRow, Result.andThen_ok, Sem.run_pure]
  exact hrun
end
end Go.Aix
