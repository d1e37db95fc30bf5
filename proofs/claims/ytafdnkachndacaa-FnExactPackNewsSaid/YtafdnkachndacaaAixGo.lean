/-
  THE CALCULUS, SIXTEENTH TEXT: the steps of the machine on what is known, and why they hold.
-/
import Derived.Test.YtafdnkachndacaaAixRun
import Derived.Orders
set_option linter.unusedSimpArgs false
set_option linter.unusedVariables false
namespace Go.Aix

/-- What comes of stepping: an end; a question; a demand; a place where a loop's body or a drawn region begins. -/
inductive Out where
  | ret (r : AV) (S : St)
  | ask (b : Bool) (k : Bool → Out)
  | must (b : Bool) (k : Out)
  | loop (p : List Nat) (S : St)
  | any (p : List Nat) (S : St)
  | both (k : Bool → Out)
  | eqs (a b : AV) (k : Out)
  | stuck

def R.out {α : Type} : R α → (α → Out) → Out
  | .ok a, f => f a
  | .ask b k, f => .ask b fun t => (k t).out f
  | .must b k, f => .must b (k.out f)
  | .stuck, _ => .stuck

def Out.holds (H : AV → St → Prop) (L N : List Nat → St → Prop) : Out → Prop
  | .ret r S => H r S
  | .ask b k => (b = true → (k true).holds H L N) ∧ (b = false → (k false).holds H L N)
  | .must b k => b = true ∧ k.holds H L N
  | .loop p S => L p S
  | .any p S => N p S
  | .both k => (k true).holds H L N ∧ (k false).holds H L N
  | .eqs a b k => a = b ∧ k.holds H L N
  | .stuck => False

theorem R.out_holds {α : Type} {H : AV → St → Prop} {L N : List Nat → St → Prop} {f : α → Out} : ∀ {r : R α}, (r.out f).holds H L N → ∃ x, r.val = some x ∧ (f x).holds H L N
  | .ok a, h => ⟨a, rfl, h⟩
  | .ask b k, h => by
    cases b with
    | true => exact R.out_holds (r := k true) (h.1 rfl)
    | false => exact R.out_holds (r := k false) (h.2 rfl)
  | .must b k, h => by
    obtain ⟨hb, h⟩ := h
    obtain ⟨x, h1, h2⟩ := R.out_holds (r := k) h
    exact ⟨x, by simp [R.val, hb, h1], h2⟩
  | .stuck, h => h.elim

/-- What a call of a function makes: its result, and the state. -/
structure CallsA where
  run : FuncId → List AV → St → R (AV × St)
  /-- Does it only read? -/
  qt : FuncId → Bool

def evalOs (S : St) : List Operand → R (List AV)
  | [] => .ok []
  | x :: r => do
    let v ← evalO S x
    let vs ← evalOs S r
    .ok (v :: vs)
def capAVs : List (Nat × Nat × Nat) → List AV
  | [] => []
  | (c, i, j) :: r => .one (.ptr c i j) :: capAVs r
def appA : List AV → List AV → List AV
  | [], r => r
  | x :: l, r => x :: appA l r

section
variable (X : Ctx) (I : Ops) (Y : CallsA)

def callA (S : St) (o : Oper) (c : Call) : R St := match c.callee with
  | .value f => do
    let fv ← evalO S f
    match fv with
    | .one (.fn g caps) => do
      let args ← evalOs S c.args.toList
      let (r, S) ← Y.run g (appA args (capAVs caps)) S
      .ok (setDst S o.dst r)
    | _ => .stuck
  | _ => .stuck
def isCall (o : Oper) : Option Call := match o.op with
  | .call c => match c.callee with
    | .value _ => some c
    | _ => none
  | _ => none

/-- Is the second operand of this append built of some elements? -/
def posOf (ops : Array Oper) (o : Oper) : Bool := match o.op with
  | .call c => match c.args.toList with
    | [_, .tmp t] => ops.toList.any fun q => match q.dst with
      | some d => match Nat.beq d t with
        | true => match q.op with
          | .buildSlice _ n _ => Nat.blt 0 n
          | _ => false
        | false => false
      | none => false
    | _ => false
  | _ => false

def opA (ops : Array Oper) (S : St) (o : Oper) : R St := do
  let t ← wantA ops S o
  match t with
  | true => match isCall o with
    | some c => callA Y S o c
    | none => stepOp X I (posOf ops o) S o
  | false => .ok (setDst S o.dst (.tp []))

def resA1 (S : St) : ResultVar → R (Bool × List Cell)
  | .tmp t => do
    let v ← .of (lk t S.T)
    match v with
    | .one c => .ok (false, [c])
    | .ag cs => .ok (true, cs)
    | .tp _ => .stuck
  | .cell a t => do
    let y ← typ X t
    let v ← .of (lk a S.T)
    let v ← loadA I S y v
    match v with
    | .one c => .ok (false, [c])
    | .ag cs => .ok (true, cs)
    | .tp _ => .stuck
def resAs (S : St) : List ResultVar → R (List (Bool × List Cell))
  | [] => .ok []
  | x :: r => do
    let v ← resA1 X I S x
    let vs ← resAs S r
    .ok (v :: vs)
def resA (S : St) (rs : List ResultVar) : R AV := do
  let vs ← resAs X I S rs
  match vs with
  | [(g, cs)] => mk g cs
  | vs => .ok (.tp vs)

/-- One region's operations. -/
def goOps (ops : Array Oper) : List Nat → St → R St
  | [], S => .ok S
  | i :: r, S => match ops[i]? with
    | none => goOps ops r S
    | some o => do
      let S ← opA X I Y ops S o
      goOps ops r S

/-- An operation that only reads. -/
def readerOp (o : Oper) : Bool := match o.op with
  | .move _ => true
  | .assign _ => true
  | .pick _ _ _ => true
  | .nilCheck _ => true
  | .binOp _ _ _ _ _ => true
  | .unOp _ _ _ => true
  | .convert _ _ _ => true
  | .load _ _ => true
  | .fieldAddr _ _ _ => true
  | .field _ _ _ => true
  | .indexAddr _ _ _ => true
  | .index _ _ _ => true
  | .extract _ _ => true
  | .call c => match c.callee with
    | .builtin b => match b with
      | .len => true
      | .min => true
      | .max => true
      | _ => false
    | .value f => match f with
      | .func g => Y.qt g
      | _ => false
    | _ => false
  | _ => false
/-- May this drawn region be stepped through in its text's order? -/
def quietOne (ops : Array Oper) (i : Nat) (o : Oper) (j : Nat) : Bool := match ops[j]? with
  | none => false
  | some q => match q.dst with
    | none => true
    | some t => (Nat.beq i j || o.dst != some t) && (!(o.looksAt ops).contains t || (o.after.any fun e => Region.binds .any e && Nat.beq e.on j))
def quietR (ops : Array Oper) : Bool := (List.range ops.size).all fun i => match ops[i]? with
  | none => false
  | some o => readerOp Y o && (o.after.all fun e => !Region.binds .any e || Nat.blt e.on i) && (List.range ops.size).all fun j => quietOne ops i o j

def exitI (id : Nat) : List Itm → Option (List Itm)
  | [] => none
  | .blk id' :: k => match Nat.beq id' id with
    | true => some k
    | false => exitI id k
  | .code _ _ :: k => exitI id k
  | .lop _ _ :: k => exitI id k

def go (rs : List ResultVar) : Nat → List Itm → St → Out
  | 0, _, _ => .stuck
  | n + 1, [], S => (resA X I S rs).out fun r => .ret r S
  | n + 1, .blk _ :: k, S => go rs n k S
  | n + 1, .lop p _ :: _, S => .loop p S
  | n + 1, .code p c :: k, S => match c with
    | .skip => go rs n k S
    | .region _ ops d => match d with
      | false => (goOps X I Y ops (List.range ops.size) S).out fun S => go rs n k S
      | true => match quietR Y ops with
        | true => (goOps X I Y ops (List.range ops.size) S).out fun S => go rs n k S
        | false => .any p S
    | .seq x y => go rs n (.code (p ++ [0]) x :: .code (p ++ [1]) y :: k) S
    | .cond c x y => (evalO S c).out fun v => match v with
      | .one (.pv (.sc (.bool b))) => .ask b fun t => match t with
        | true => go rs n (.code (p ++ [0]) x :: k) S
        | false => go rs n (.code (p ++ [1]) y :: k) S
      | _ => .stuck
    | .block id c => go rs n (.code (p ++ [0]) c :: .blk id :: k) S
    | .loop _ => .loop p S
    | .exit id => match exitI id k with
      | some k => go rs n k S
      | none => .stuck
    | .ret => (resA X I S rs).out fun r => .ret r S
    | .label _ => go rs n k S
    | _ => .stuck
end

/-! ### Why -/
/-- A function with a body. -/
def Enters (P : Program) (g : FuncId) : Prop := ∃ fn, P.funcs[g]? = some fn ∧ (fn.name == "runtime.NumGoroutine") = false ∧ fn.body.isNone = false

inductive RAVs (w : World) (M : Nat → Prop) (env : EnvT) : List AV → List Value → Prop
  | nil : RAVs w M env [] []
  | cons {x : AV} {v : Value} {l : List AV} {vs : List Value} (h : RAV w M env x v) (hr : RAVs w M env l vs) : RAVs w M env (x :: l) (v :: vs)
theorem RAVs.app {w : World} {M : Nat → Prop} {env : EnvT} : ∀ {l r : List AV} {vs us : List Value}, RAVs w M env l vs → RAVs w M env r us → RAVs w M env (appA l r) (vs ++ us)
  | _, _, _, _, .nil, h => h
  | _, _, _, _, .cons h hr, h' => .cons h (RAVs.app hr h')

/-- What comes of a call. -/
def CallOk (P : Program) (g : FuncId) (args : List AV) (S : St) (r : AV) (S' : St) : Prop :=
  ∀ (E : Ent) (β : Nat → Nat × Nat) (O : Nat → List Nat) (a : Act) (w : World) (vs : List Value), Rel E β O S a w → RAVs w (Mof E β O S.σ) (envOf β S.σ) args vs →
    Calls P g vs.toArray w fun
      | .returned u, w' => ∃ β' O', Rel E β' O' S' a w' ∧ RAV w' (Mof E β' O' S'.σ) (envOf β' S'.σ) r u
      | _, _ => False
/-- It leaves all as it is, and asks the memory alone. -/
def Quiet (y : List AV → St → R (AV × St)) : Prop := ∀ args S r S', (y args S).val = some (r, S') → S' = S ∧ ∀ S2 : St, S2.σ = S.σ → (y args S2).val = some (r, S2)
structure CallsOk (P : Program) (Y : CallsA) : Prop where
  ok : ∀ g args S r S', (Y.run g args S).val = some (r, S') → Enters P g ∧ CallOk P g args S r S'
  quiet : ∀ g, Y.qt g = true → Quiet (Y.run g)
  mixed : P.follows .mixedOrders = true

section
variable {P : Program} {X : Ctx} {Y : CallsA} {f : FuncId} {fn : Func} {E : Ent} {R : Value → World → Prop} {β : Nat → Nat × Nat} {O : Nat → List Nat} {S : St} {a : Act} {w : World}

/-- What stands at these items when S is known. -/
def W (P : Program) (f : FuncId) (fn : Func) (E : Ent) (R : Value → World → Prop) (k : List Item) (S : St) : Prop :=
  ∀ β O a w, Rel E β O S a w → a.tmps.size = fn.ntmps → At P f R k a w

theorem evalOs_sound (h : Rel E β O S a w) : ∀ {l : List Operand} {vs : List AV}, (evalOs S l).val = some vs → RAVs w (Mof E β O S.σ) (envOf β S.σ) vs (l.map a.eval)
  | [], vs, e => by
    simp only [evalOs, val_ok, Option.some.injEq] at e
    subst e
    exact .nil
  | x :: r, vs, e => by
    simp only [evalOs, val_do] at e
    obtain ⟨v, h1, e⟩ := some_bind e
    obtain ⟨us, h2, e⟩ := some_bind e
    simp only [val_ok, Option.some.injEq] at e
    subst e
    exact .cons (evalO_sound h h1) (evalOs_sound h h2)
theorem capAVs_sound {M : Nat → Prop} {env : EnvT} : ∀ {l : List (Nat × Nat × Nat)} {vs : List Value}, CapsR env l vs → RAVs w M env (capAVs l) vs
  | _, _, .nil => .nil
  | _, _, .cons he hi hr => .cons (.one (.ptr he hi)) (capAVs_sound hr)

theorem put_size (a : Act) (d : Option Tmp) (v : Value) : (a.put d v).tmps.size = a.tmps.size := by
  unfold Act.put
  cases d <;> simp

theorem wantA_sound {ops : Array Oper} {o : Oper} {t : Bool} (h : Rel E β O S a w) (h1 : (wantA ops S o).val = some t) : Region.wanted o (yielded ops a.tmps) = t := by
  unfold wantA at h1
  unfold Region.wanted
  split at h1
  · rename_i hg
    simp only [val_ok, Option.some.injEq] at h1
    subst h1
    rw [hg]
  · rename_i j want hg
    rw [hg]
    rw [val_do] at h1
    obtain ⟨p, hp, h1⟩ := some_bind h1
    rw [val_of] at hp
    rw [val_do] at h1
    obtain ⟨d, hpd, h1⟩ := some_bind h1
    rw [val_of] at hpd
    rw [val_do] at h1
    obtain ⟨v, hv, h1⟩ := some_bind h1
    rw [val_of] at hv
    obtain ⟨hlt, hv'⟩ := h.slots d v hv
    have hy : yielded ops a.tmps j = match a.tmps.getD d undef with | .bool b => some b | _ => none := by
      unfold yielded
      rw [hp, Option.bind_some, hpd, Option.bind_some, Array.getElem?_eq_getElem hlt]
      simp [Array.getD, hlt]
      cases a.tmps[d] <;> rfl
    simp only
    rw [hy]
    split at h1
    · rename_i sv
      have hs := RAV.sc hv'
      rw [hs]
      split at h1
      · rename_i b
        rw [val_ask, val_ok, Option.some.injEq] at h1
        subst h1
        cases b <;> cases want <;> rfl
      · rename_i hu
        simp only [val_ok, Option.some.injEq] at h1
        subst h1
        cases sv <;> first | rfl | exact (hu _ rfl).elim
    · simp only [val_ok, Option.some.injEq] at h1
      subst h1
      generalize a.tmps.getD d undef = u at hv'
      cases hv' with
      | tp => rfl
    · simp [val_stuck] at h1

/-- An operation of a region, then the rest. -/
theorem opA_sound (hX : XOk P X) (hY : CallsOk P Y) {ops : Array Oper} {o : Oper} {i : Nat} {K : Act → World → Prop} {S' : St} {Q : Exit → Act → World → Prop} (ho : ops[i]? = some o) (h : Rel E β O S a w)
    (hd : ∀ t, o.dst = some t → t < a.tmps.size) (e : (opA X real Y ops S o).val = some S') (hr : ∀ β' O' a' w', Rel E β' O' S' a' w' → a'.tmps.size = a.tmps.size → K a' w') :
    wpOp P ops Q i K a w := by
  unfold opA at e
  rw [val_do] at e
  obtain ⟨t, h1, e⟩ := some_bind e
  have hw : Region.wanted o (yielded ops a.tmps) = t := wantA_sound h h1
  unfold wpOp
  simp only [ho]
  cases t with
  | false =>
    rw [if_neg (by rw [hw]; simp)]
    simp only [val_ok, Option.some.injEq] at e
    subst e
    exact hr β O _ w (h.setDst hd (.tp (by exact .nil))) (put_size ..)
  | true =>
    rw [if_pos hw]
    left
    simp only at e
    split at e
    · -- a call
      rename_i c hc
      unfold callA at e
      split at e
      · rename_i fo hcal
        rw [val_do] at e
        obtain ⟨fv, hf, e⟩ := some_bind e
        have hfv := evalO_sound h hf
        split at e
        · rename_i g caps
          rw [val_do] at e
          obtain ⟨args, ha, e⟩ := some_bind e
          rw [val_do] at e
          obtain ⟨⟨r, S1⟩, hy, e⟩ := some_bind e
          simp only [val_ok, Option.some.injEq] at e
          subst e
          obtain ⟨hen, hok⟩ := hY.ok g _ S r S1 hy
          generalize hu : a.eval fo = u at hfv
          cases hfv with
          | one hfv => cases hfv with
            | fn hcaps =>
              rename_i cvs
              have hargs := (evalOs_sound h ha).app (capAVs_sound (w := w) (M := Mof E β O S.σ) hcaps)
              have hoc : o.op = .call c := by
                unfold isCall at hc
                split at hc
                · rename_i c' hop
                  split at hc
                  · simp only [Option.some.injEq] at hc
                    subst hc
                    exact hop
                  · cases hc
                · cases hc
              have hrun : (execOp a.eval o).run P w = .ok (.enter g (c.args.map a.eval ++ cvs)) w := by
                obtain ⟨fn, e1, e2, e3⟩ := hen
                simp only [execOp, hoc, resolve, hcal, hu, Deferred.ofValue, Sem.run_bind, Sem.run_pure, Result.andThen_ok, invoke, callFunc]
                rw [show (program).run P w = .ok P w from rfl, Result.andThen_ok]
                simp only [e1, e2, e3, Bool.false_eq_true, if_false, Sem.run_pure]
                simp
              show o.upon P a _ Q ((execOp a.eval o).run P w)
              rw [hrun, Oper.upon_enter]
              have hc2 := hok E β O a w _ h hargs
              rw [← Array.toList_map, ← Array.toList_append, Array.toArray_toList] at hc2
              refine hc2.mono ?_
              intro e w' he
              cases e with
              | returned u =>
                obtain ⟨β', O', k1, k2⟩ := he
                exact hr β' O' _ w' (k1.setDst hd k2) (put_size ..)
              | panicked => exact he.elim
              | outgrown => exact he.elim
        · simp [val_stuck] at e
      · simp [val_stuck] at e
    · obtain ⟨nx, w', β', O', hrun, hres⟩ := step_sound hX h hd e
      show o.upon P a _ Q ((execOp a.eval o).run P w)
      rw [hrun]
      rcases hres with ⟨u, rfl, hR⟩ | ⟨rfl, hR⟩
      · exact hr β' O' _ w' hR (put_size ..)
      · exact hr β' O' _ w' hR (put_size ..)

theorem goOps_sound (hX : XOk P X) (hY : CallsOk P Y) {ops : Array Oper} {n : Nat} (hd : ∀ (i : Nat) (o : Oper) t, ops[i]? = some o → o.dst = some t → t < n) {Q : Exit → Act → World → Prop} :
    ∀ {l : List Nat} {S S' : St} {β : Nat → Nat × Nat} {O : Nat → List Nat} {a : Act} {w : World}, Rel E β O S a w → a.tmps.size = n → (goOps X real Y ops l S).val = some S' →
    (∀ β' O' a' w', Rel E β' O' S' a' w' → a'.tmps.size = n → Q .normal a' w') → wpOps P ops Q l a w
  | [], S, S', β, O, a, w, h, hn, e, hQ => by
    simp only [goOps, val_ok, Option.some.injEq] at e
    subst e
    exact hQ β O a w h hn
  | i :: l, S, S', β, O, a, w, h, hn, e, hQ => by
    unfold goOps at e
    split at e
    · rename_i ho
      rw [wpOps]
      simp only [ho]
      exact goOps_sound hX hY hd h hn e hQ
    · rename_i o ho
      rw [val_do] at e
      obtain ⟨S1, h1, e⟩ := some_bind e
      rw [wpOps_cons]
      exact opA_sound hX hY ho h (fun t ht => by rw [hn]; exact hd i o t ho ht) h1 (fun β' O' a' w' h' hs => goOps_sound hX hY hd h' (hs.trans hn) e hQ)
end
end Go.Aix
