/-
  THE CALCULUS, FIFTH TEXT: the names' meaning, what is asked of types, operands, and the operations that only reckon.
-/
import Derived.Test.YtafdnkachndacaaAixMem
import GoSem.Dispatch
import Derived.Tactics
set_option linter.unusedSimpArgs false
set_option linter.unusedVariables false
namespace Go.Aix

def arReal (op : BinOp) (k : IntKind) (a b : Int) : Int := match op with
  | .add => k.wrap (a + b)
  | .sub => k.wrap (a - b)
  | .mul => k.wrap (a * b)
  | .quo => k.wrap (a.tdiv b)
  | .rem => a.tmod b
  | .and => k.wrap (BitVec.ofInt k.bits a &&& BitVec.ofInt k.bits b).toNat
  | .or => k.wrap (BitVec.ofInt k.bits a ||| BitVec.ofInt k.bits b).toNat
  | .shl => k.wrap (a * 2 ^ (min b.toNat k.bits))
  | .shr => a.fdiv (2 ^ (min b.toNat k.bits))
  | _ => 0
def cmpReal (op : BinOp) (a b : Int) : Bool := match op with
  | .eql => a == b
  | .neq => a != b
  | .lss => decide (a < b)
  | .leq => decide (a ≤ b)
  | .gtr => decide (a > b)
  | .geq => decide (a ≥ b)
  | _ => false
def scmpReal (op : BinOp) (a b : ByteArray) : Bool := match op with
  | .eql => a.toList == b.toList
  | .neq => !(a.toList == b.toList)
  | .lss => Op.bytesLess a.toList b.toList
  | _ => false
def beqReal (op : BinOp) (a b : Bool) : Bool := match op with
  | .eql => a == b
  | .neq => !(a == b)
  | _ => false

/-- A slice's elements. -/
def els : PV → List (List PV)
  | .sl _ _ es => es
  | _ => []
def isSl (sz : Nat) : PV → Bool
  | .nl => true
  | .sl _ s _ => Nat.beq s sz
  | _ => false
def isPInt (k : IntKind) : PV → Bool
  | .sc (.int k' _) => decide (k' = k)
  | _ => false
def pInt : PV → Int
  | .sc (.int _ n) => n
  | _ => 0
def isPBool : PV → Bool
  | .sc (.bool _) => true
  | _ => false
def pBool : PV → Bool
  | .sc (.bool b) => b
  | _ => false
def isPStr : PV → Bool
  | .sc (.string _) => true
  | _ => false
def pStr : PV → ByteArray
  | .sc (.string s) => s
  | _ => ByteArray.empty

def real : Ops where
  ar := arReal
  cmp := cmpReal
  conv := fun k n => k.wrap n
  uno := fun _ _ n => n
  bnot := fun b => !b
  beq := beqReal
  scat := fun a b => a ++ b
  scmp := scmpReal
  slen := fun s => s.size
  sget := fun s i => match s[i]? with
    | some b => b.toNat
    | none => 0
  sext := fun s l h => s.extract l h
  inb := fun i n => decide (0 ≤ i ∧ i < n)
  inle := fun i n => decide (0 ≤ i ∧ i ≤ n)
  nle := fun a b => decide (a ≤ b)
  neq := fun a b => decide (a = b)
  tn := fun i => i.toNat
  ofn := fun n => n
  add := fun a b => a + b
  sub := fun a b => a - b
  len := fun es => es.length
  nth := fun es i q => ((es[i]?.getD [])[q]?).getD (.sc .nilFunc)
  ext := fun es o n => (es.drop o).take n
  app := fun a b => a ++ b
  set := fun es i ps => es.set i ps
  rep := fun n ps => List.replicate n ps
  downs := downs
  deads := deads
  isSh := Aix.isSh
  isOne := Aix.isOne
  isOwn := Aix.isOwn
  isNo := Aix.isNo
  pur := Aix.purs
  isInt := isPInt
  asInt := pInt
  isBool := isPBool
  asBool := pBool
  isStr := isPStr
  asStr := pStr
  isSl := Aix.isSl
  els := Aix.els
  mn := fun a b => if b < a then b else a
  mx := fun a b => if b > a then b else a

/-! ### Types -/
def aggOf (d : TypeDesc) : Bool := match d with
  | .struct _ => true
  | .array _ _ => true
  | _ => false
def uOf (P : Program) (d : TypeDesc) : TyU := match d with
  | .slice e => .slice e
  | .struct fs => match fs.toList.mapM (fun f => (P.info? f.type).bind fun i => (P.underlying f.type).map fun d => (f.offset, i.size, aggOf d)) with
    | some l => .struct l
    | none => .other
  | .string => .str
  | .int k => .int k
  | .bool => .bool
  | _ => .other
def tyOf (P : Program) (t : TypeId) : Option TyI := match P.info? t, P.underlying t with
  | some i, some d => match i.zero with
    | some z => match (cellsOf z.cells.toList).val with
      | some zs => some ⟨aggOf d, i.size, i.bytes, zs, uOf P d, []⟩
      | none => none
    | none => none
  | _, _ => none
def XOk (P : Program) (X : Ctx) : Prop := ∀ t y, X t = some y → tyOf P t = some { y with kinds := [] }

theorem tyOf_some {P : Program} {t : TypeId} {y : TyI} (h : tyOf P t = some { y with kinds := [] }) : ∃ i d z, P.info? t = some i ∧ P.underlying t = some d ∧ i.zero = some z ∧ (cellsOf z.cells.toList).val = some y.zero ∧
    y.agg = aggOf d ∧ y.size = i.size ∧ y.bytes = i.bytes ∧ y.u = uOf P d := by
  unfold tyOf at h
  split at h
  · rename_i i d hi hd
    split at h
    · rename_i z hz
      split at h
      · rename_i zs hzs
        have h := Option.some.inj h
        injection h with h1 h2 h3 h4 h5
        exact ⟨i, d, z, hi, hd, hz, by rw [hzs, h4], h1.symm, h2.symm, h3.symm, h5.symm⟩
      · cases h
    · cases h
  · cases h

/-! ### Reckonings -/
theorem val_bind {α β : Type} (r : R α) (f : α → R β) : (r.bind f).val = r.val.bind fun a => (f a).val := by
  induction r with
  | ok a => rfl
  | ask b k ih => exact ih b
  | must b k ih =>
    show (if b = true then (k.bind f).val else none) = (if b = true then k.val else none).bind _
    split
    · exact ih
    · rfl
  | stuck => rfl
theorem val_do {α β : Type} (r : R α) (f : α → R β) : (r >>= f).val = r.val.bind fun a => (f a).val := val_bind r f
theorem val_of {α : Type} (o : Option α) : (R.of o).val = o := by cases o <;> rfl
theorem val_ok {α : Type} (a : α) : (R.ok a).val = some a := rfl
theorem val_pure {α : Type} (a : α) : (pure a : R α).val = some a := rfl
theorem val_stuck {α : Type} : (R.stuck : R α).val = none := rfl
theorem val_ask {α : Type} (b : Bool) (k : Bool → R α) : (R.ask b k).val = (k b).val := rfl
theorem val_demand {α : Type} (b : Bool) (f : Unit → R α) : (demand b >>= f).val = if b = true then (f ()).val else none := by
  rw [val_do]
  unfold demand
  cases b <;> rfl
theorem some_bind {α β : Type} {o : Option α} {f : α → Option β} {b : β} (h : o.bind f = some b) : ∃ a, o = some a ∧ f a = some b := Option.bind_eq_some_iff.1 h

/-! ### Operands -/
section
variable {P : Program} {X : Ctx} {E : Ent} {β : Nat → Nat × Nat} {O : Nat → List Nat} {S : St} {a : Act} {w : World} {M : Nat → Prop} {env : EnvT}

theorem cellOf_sound {v : Value} {c : Cell} (h : (cellOf v).val = some c) : RCell w M env c v ∧ oneV v = true := by
  unfold cellOf at h
  split at h
  all_goals first
    | (simp only [val_ok, Option.some.injEq] at h; subst h; exact ⟨.pv (.sc rfl), rfl⟩)
    | skip
  · split at h
    · simp only [val_ok, Option.some.injEq] at h; subst h; exact ⟨.pv (.sc rfl), rfl⟩
    · simp [val_stuck] at h
  · split at h
    · simp only [val_ok, Option.some.injEq] at h; subst h; exact ⟨.pv .nl, rfl⟩
    · simp [val_stuck] at h
  · simp [val_stuck] at h
theorem cellsOf_sound : ∀ {vs : List Value} {cs : List Cell}, (cellsOf vs).val = some cs → RCs w M env cs vs
  | [], cs, h => by
    simp only [cellsOf, val_ok, Option.some.injEq] at h
    subst h; exact .nil
  | v :: vs, cs, h => by
    simp only [cellsOf, val_do] at h
    obtain ⟨c, h1, h⟩ := some_bind h
    obtain ⟨r, h2, h⟩ := some_bind h
    simp only [val_ok, Option.some.injEq] at h
    subst h
    exact .cons (cellOf_sound h1).1 (cellsOf_sound h2)
theorem avOf_sound {v : Value} {x : AV} (h : (avOf v).val = some x) : RAV w M env x v := by
  unfold avOf at h
  split at h
  · rw [val_do] at h
    obtain ⟨c, h1, h⟩ := some_bind h
    simp only [val_ok, Option.some.injEq] at h
    subst h
    exact .ag (cellsOf_sound h1)
  · rw [val_do] at h
    obtain ⟨c, h1, h⟩ := some_bind h
    simp only [val_ok, Option.some.injEq] at h
    subst h
    exact .one (cellOf_sound h1).1

theorem evalO_sound (h : RelM M E β O S a w) {x : Operand} {v : AV} (e : (evalO S x).val = some v) : RAV w M (envOf β S.σ) v (a.eval x) := by
  cases x with
  | tmp t =>
    simp only [evalO, val_of] at e
    exact (h.slots t v e).2
  | const u => exact avOf_sound e
  | global g => simp [evalO, val_stuck] at e
  | func f =>
    simp only [evalO, val_ok, Option.some.injEq] at e
    subst e
    exact .one (.fn .nil)

theorem RelM.setDst (h : RelM M E β O S a w) {d : Option Tmp} (hd : ∀ t, d = some t → t < a.tmps.size) {x : AV} {v : Value} (hv : RAV w M (envOf β S.σ) x v) : RelM M E β O (setDst S d x) (a.put d v) w := by
  cases d with
  | none => exact h
  | some t =>
    refine ⟨h.mem, ?_, h.nodef⟩
    intro c y hc
    have ht := hd t rfl
    show c < (a.tmps.setIfInBounds t v).size ∧ _
    rw [Array.size_setIfInBounds]
    by_cases e : c = t
    · subst e
      simp only [Aix.setDst, lk_put_self, Option.some.injEq] at hc
      subst hc
      refine ⟨ht, ?_⟩
      simp only [Act.put, Array.getD_eq_getD_getElem?, Array.getElem?_setIfInBounds_self_of_lt ht, Option.getD_some]
      exact hv
    · simp only [Aix.setDst, lk_put_ne _ e] at hc
      obtain ⟨h1, h2⟩ := h.slots c y hc
      refine ⟨h1, ?_⟩
      simp only [Act.put, Array.getD_eq_getD_getElem?, Array.getElem?_setIfInBounds_ne (Ne.symm e)] at h2 ⊢
      exact h2

theorem Rel.setDst (h : Rel E β O S a w) {d : Option Tmp} (hd : ∀ t, d = some t → t < a.tmps.size) {x : AV} {v : Value} (hv : RAV w (Mof E β O S.σ) (envOf β S.σ) x v) : Rel E β O (setDst S d x) (a.put d v) w := by
  have hσ : (Aix.setDst S d x).σ = S.σ := by unfold Aix.setDst; split <;> rfl
  show RelM (Mof E β O (Aix.setDst S d x).σ) _ _ _ _ _ _
  rw [hσ]
  exact RelM.setDst h hd hv

/-! ### What a step comes to -/
def Stepped (P : Program) (E : Ent) (o : Oper) (a : Act) (w : World) (S' : St) : Prop :=
  ∃ nx w' β' O', (execOp a.eval o).run P w = .ok nx w' ∧ ((∃ u, nx = .value u ∧ Rel E β' O' S' (a.put o.dst u) w') ∨ (nx = .skip ∧ Rel E β' O' S' (a.put o.dst undef) w'))

theorem Stepped.pure {o : Oper} {u : Value} {x : AV} (h : Rel E β O S a w) (hd : ∀ t, o.dst = some t → t < a.tmps.size) (hr : (execOp a.eval o).run P w = .ok (.value u) w)
    (hv : RAV w (Mof E β O S.σ) (envOf β S.σ) x u) : Stepped P E o a w (Aix.setDst S o.dst x) :=
  ⟨_, w, β, O, hr, .inl ⟨u, rfl, Rel.setDst h hd hv⟩⟩

theorem run_v {s : Sem Value} {u : Value} {w' : World} (h : s.run P w = .ok u w') : (do pure (Next.value (← s)) : Sem Next).run P w = .ok (.value u) w' := by
  simp [h]
theorem run_u {s : Sem Unit} {w' : World} (h : s.run P w = .ok () w') : (do s; pure Next.skip : Sem Next).run P w = .ok .skip w' := by
  simp [h]
theorem run_und {t : TypeId} {d : TypeDesc} (h : P.underlying t = some d) : (underlying t).run P w = .ok d w := by simp [underlying, h]
theorem run_info {t : TypeId} {i : TypeInfo} (h : P.info? t = some i) : (typeInfo t).run P w = .ok i w := by simp [typeInfo, h]
theorem run_size {t : TypeId} {i : TypeInfo} (h : P.info? t = some i) : (sizeOf t).run P w = .ok i.size w := by simp [sizeOf, run_info h]
theorem run_isAgg {t : TypeId} {d : TypeDesc} (h : P.underlying t = some d) : (isAgg t).run P w = .ok (aggOf d) w := by
  unfold isAgg
  rw [Sem.run_bind, run_und h]
  cases d <;> rfl

theorem RAV.sc {v u : Value} (h : RAV w M env (scal v) u) : u = v := by
  cases h with
  | one h => cases h with
    | pv h => cases h; rfl
theorem RAV.scal {v : Value} (h : oneV v = true) : RAV w M env (scal v) v := .one (.pv (.sc h))

/-! ### Numbers, strings, bools -/
theorem run_eqGuard {op : BinOp} {t : TypeId} {x y : Operand} {u v : Value} (hu : oneV u = true) (hn : u ≠ .nilIface) : (eqGuard op t x y u v).run P w = .ok () w := by
  unfold eqGuard
  cases op <;> first | rfl | (cases u <;> first | rfl | (exact absurd rfl hn) | (simp [oneV] at hu))

theorem intA_sound {op : BinOp} {k k' : IntKind} {m n : Int} {v : Value} {t : TypeId} (h : (intA real op k m k' n).val = some v) : (binOp op t (.int k m) (.int k' n)).run P w = .ok v w ∧ oneV v = true := by
  have hk : ∀ op', (arithA real op' k k' m n).val = some v → k = k' ∧ v = .int k (arReal op' k m n) := by
    intro op' h
    unfold arithA at h
    cases e : decide (k = k') <;> rw [e] at h
    · simp [val_stuck] at h
    · simp only [val_ok, Option.some.injEq] at h
      exact ⟨by simpa using e, h.symm⟩
  have hc : ∀ op', (cmpA real op' k k' m n).val = some v → k = k' ∧ v = .bool (cmpReal op' m n) := by
    intro op' h
    unfold cmpA at h
    cases e : decide (k = k') <;> rw [e] at h
    · simp [val_stuck] at h
    · simp only [val_ok, Option.some.injEq] at h
      exact ⟨by simpa using e, h.symm⟩
  cases op <;> simp only [intA, val_stuck, reduceCtorEq] at h
  case add => obtain ⟨rfl, rfl⟩ := hk _ h; exact ⟨by simp [binOp, Op.intArith, arReal], rfl⟩
  case sub => obtain ⟨rfl, rfl⟩ := hk _ h; exact ⟨by simp [binOp, Op.intArith, arReal], rfl⟩
  case mul => obtain ⟨rfl, rfl⟩ := hk _ h; exact ⟨by simp [binOp, Op.intArith, arReal], rfl⟩
  case and => obtain ⟨rfl, rfl⟩ := hk _ h; exact ⟨by simp [binOp, Op.intBits, arReal], rfl⟩
  case or => obtain ⟨rfl, rfl⟩ := hk _ h; exact ⟨by simp [binOp, Op.intBits, arReal], rfl⟩
  case quo =>
    rw [val_demand] at h
    split at h
    · rename_i hz
      obtain ⟨rfl, rfl⟩ := hk _ h
      have : n ≠ 0 := by simpa [real, cmpReal] using hz
      exact ⟨by simp [binOp, Op.intDiv, arReal, this], rfl⟩
    · cases h
  case rem =>
    rw [val_demand] at h
    split at h
    · rename_i hz
      obtain ⟨rfl, rfl⟩ := hk _ h
      have : n ≠ 0 := by simpa [real, cmpReal] using hz
      exact ⟨by simp [binOp, Op.intDiv, arReal, this], rfl⟩
    · cases h
  case shl =>
    rw [val_demand] at h
    split at h
    · rename_i hz
      simp only [val_ok, Option.some.injEq] at h
      subst h
      have : ¬ n < 0 := by have : n ≥ 0 := by simpa [real, cmpReal] using hz
                           omega
      exact ⟨by simp [binOp, Op.shift, real, arReal, this], rfl⟩
    · cases h
  case shr =>
    rw [val_demand] at h
    split at h
    · rename_i hz
      simp only [val_ok, Option.some.injEq] at h
      subst h
      have : ¬ n < 0 := by have : n ≥ 0 := by simpa [real, cmpReal] using hz
                           omega
      exact ⟨by simp [binOp, Op.shift, real, arReal, this], rfl⟩
    · cases h
  all_goals (obtain ⟨rfl, rfl⟩ := hc _ h; exact ⟨by simp [binOp, Op.intCmp, cmpReal], rfl⟩)

theorem strA_sound {op : BinOp} {m n : ByteArray} {v : Value} {t : TypeId} (h : (strA real op m n).val = some v) : (binOp op t (.string m) (.string n)).run P w = .ok v w ∧ oneV v = true := by
  cases op <;> simp only [strA, val_stuck, reduceCtorEq] at h
  case add =>
    rw [val_demand] at h
    split at h
    · rename_i hz
      simp only [val_ok, Option.some.injEq] at h
      subst h
      have : m.size + n.size ≤ 9223372036854775807 := of_decide_eq_true hz
      have h2 : ¬ ((m.size + n.size : Nat) : Int) > IntKind.i64.max := by
        have : IntKind.i64.max = 9223372036854775807 := by decide
        omega
      refine ⟨?_, rfl⟩
      simp only [binOp, Op.stringOp]
      rw [if_neg h2]
      rfl
    · cases h
  all_goals (simp only [val_ok, Option.some.injEq] at h; subst h; exact ⟨by simp [binOp, Op.stringOp, real, scmpReal], rfl⟩)

theorem boolA_sound {op : BinOp} {m n : Bool} {v : Value} {t : TypeId} (ht : P.underlying t = some .bool) (h : (boolA real op m n).val = some v) : (binOp op t (.bool m) (.bool n)).run P w = .ok v w ∧ oneV v = true := by
  have hq : ∀ d, (Op.equalIn (d + 1) t (.bool m) (.bool n)).run P w = .ok (m == n) w := fun d => by
    simp [Op.equalIn, run_und ht]
  have he : (Op.equal t (.bool m) (.bool n)).run P w = .ok (m == n) w := hq 9999
  cases op <;> simp only [boolA, val_stuck, reduceCtorEq] at h
  all_goals (simp only [val_ok, Option.some.injEq] at h; subst h; exact ⟨by simp [binOp, he, real, beqReal], rfl⟩)

theorem binA_sound (hX : XOk P X) {t : TypeId} {op : BinOp} {u u' v : Value} (h : (binA X real t op u u').val = some v) : (binOp op t u u').run P w = .ok v w ∧ oneV v = true ∧ u ≠ .nilIface ∧ oneV u = true := by
  unfold binA at h
  split at h
  · split at h
    · obtain ⟨h1, h2⟩ := intA_sound (P := P) (w := w) (t := t) h; exact ⟨h1, h2, by simp, rfl⟩
    · simp [val_stuck] at h
  · split at h
    · obtain ⟨h1, h2⟩ := strA_sound (P := P) (w := w) (t := t) h; exact ⟨h1, h2, by simp, rfl⟩
    · simp [val_stuck] at h
  · split at h
    · split at h
      · rename_i i hi
        split at h
        · rename_i hu
          obtain ⟨ii, d, z, h1, h2, h3, h4, h5, h6, h7, h8⟩ := tyOf_some (hX t i hi)
          have : d = .bool := by
            rw [hu] at h8
            cases d <;> simp [uOf] at h8 <;> first | rfl | (split at h8 <;> cases h8)
          subst this
          obtain ⟨h1, h2⟩ := boolA_sound (P := P) (w := w) (t := t) h2 h; exact ⟨h1, h2, by simp, rfl⟩
        · simp [val_stuck] at h
      · simp [val_stuck] at h
    · simp [val_stuck] at h
  · simp [val_stuck] at h

theorem unA_sound {op : UnOp} {u v : Value} (h : (unA real op u).val = some v) : (Op.unary op u).run P w = .ok v w ∧ oneV v = true := by
  unfold unA at h
  split at h
  · split at h
    · simp only [val_ok, Option.some.injEq] at h
      subst h
      exact ⟨by simp [Op.unary, Op.intArith, real, arReal], rfl⟩
    · simp [val_stuck] at h
  · split at h
    · simp only [val_ok, Option.some.injEq] at h
      subst h
      exact ⟨by simp [Op.unary, real], rfl⟩
    · simp [val_stuck] at h
  · simp [val_stuck] at h
end
end Go.Aix
