/-
  THE CALCULUS: a drawn region that only reads comes to the same in any order.
-/
import Derived.Test.YtafdnkachndacaaAixGo
set_option linter.unusedSimpArgs false
set_option linter.unusedVariables false
namespace Go.Aix
section
variable {P : Program} {X : Ctx} {Y : CallsA} {E : Ent} {β : Nat → Nat × Nat} {O : Nat → List Nat} {S S2 : St} {a : Act} {w : World} {ops : Array Oper}

theorem lk_setDst_self {d : Tmp} {x : AV} : lk d (setDst S (some d) x).T = some x := by simp [setDst, lk_put_self]
theorem lk_setDst_ne {d : Option Tmp} {x : AV} {t : Nat} (h : d ≠ some t) : lk t (setDst S d x).T = lk t S.T := by
  cases d with
  | none => rfl
  | some d =>
    show lk t (put d x S.T) = lk t S.T
    refine lk_put_ne _ ?_ _
    intro e
    exact h (by rw [e])
theorem setDst_σ {d : Option Tmp} {x : AV} : (setDst S d x).σ = S.σ := by cases d <;> rfl
theorem setDst_next {d : Option Tmp} {x : AV} : (setDst S d x).next = S.next := by cases d <;> rfl

theorem evalO_congr {x : Operand} (h : ∀ t, x = .tmp t → lk t S2.T = lk t S.T) : evalO S2 x = evalO S x := by
  cases x with
  | tmp t =>
    show R.of (lk t S2.T) = R.of (lk t S.T)
    rw [h t rfl]
  | _ => rfl
theorem evalOs_congr : ∀ {l : List Operand}, (∀ x ∈ l, evalO S2 x = evalO S x) → evalOs S2 l = evalOs S l
  | [], _ => rfl
  | x :: l, h => by
    unfold evalOs
    rw [h x List.mem_cons_self, evalOs_congr (fun y hy => h y (List.mem_cons_of_mem _ hy))]
theorem loadA_congr (hσ : S2.σ = S.σ) (y : TyI) (v : AV) : loadA real S2 y v = loadA real S y v := by unfold loadA; rw [hσ]
theorem rowSz_congr (hσ : S2.σ = S.σ) (c sz : Nat) : rowSz S2 c sz = rowSz S c sz := by unfold rowSz; rw [hσ]
theorem indexAddrA_congr (hσ : S2.σ = S.σ) (y : TyI) (x : AV) (i : Int) : indexAddrA real S2 y x i = indexAddrA real S y x i := by
  unfold indexAddrA
  simp only [rowSz_congr hσ]

/-- What a step that only reads comes to, and that it asks no more than what it looks at. -/
def Local (f : St → R St) (S : St) (d : Option Tmp) (S' : St) (ev : St → Prop) : Prop :=
  ∃ v, S' = setDst S d v ∧ ∀ S2 : St, S2.σ = S.σ → ev S2 → (f S2).val = some (setDst S2 d v)

theorem stepOp_local {o : Oper} {pos : Bool} {S' : St} (hr : readerOp Y o = true) (hc : isCall o = none) (e : (stepOp X real pos S o).val = some S') :
    Local (fun S => stepOp X real pos S o) S o.dst S' (fun S2 => ∀ x ∈ o.op.operands.toList, evalO S2 x = evalO S x) := by
  unfold stepOp at e
  split at e
  · rename_i x ho
    rw [val_do] at e
    obtain ⟨v, h1, e⟩ := some_bind e
    refine ⟨v, (Option.some.inj e).symm, fun S2 hσ ev => ?_⟩
    simp only [ho, Op.operands, List.mem_cons, List.not_mem_nil, or_false, forall_eq] at ev
    unfold stepOp
    simp only [ho, val_do, ev, h1, Option.bind_some, val_ok]
  · rename_i x ho
    rw [val_do] at e
    obtain ⟨v, h1, e⟩ := some_bind e
    refine ⟨v, (Option.some.inj e).symm, fun S2 hσ ev => ?_⟩
    simp only [ho, Op.operands, List.mem_cons, List.not_mem_nil, or_false, forall_eq] at ev
    unfold stepOp
    simp only [ho, val_do, ev, h1, Option.bind_some, val_ok]
  · rename_i c x y ho
    rw [val_do] at e
    obtain ⟨t, h1, e⟩ := some_bind e
    split at e
    · rename_i b
      rw [val_ask] at e
      have ev' : ∀ S2 : St, (∀ x ∈ o.op.operands.toList, evalO S2 x = evalO S x) → evalO S2 c = evalO S c ∧ evalO S2 x = evalO S x ∧ evalO S2 y = evalO S y := by
        intro S2 ev
        simp only [ho, Op.operands, List.mem_cons, List.not_mem_nil, or_false] at ev
        exact ⟨ev c (.inl rfl), ev x (.inr (.inl rfl)), ev y (.inr (.inr rfl))⟩
      cases b with
      | true =>
        simp only at e
        rw [val_do] at e
        obtain ⟨v, h2, e⟩ := some_bind e
        refine ⟨v, (Option.some.inj e).symm, fun S2 hσ ev => ?_⟩
        obtain ⟨e1, e2, e3⟩ := ev' S2 ev
        unfold stepOp
        simp only [ho, val_do, e1, h1, e2, h2, Option.bind_some, val_ok, val_ask]
      | false =>
        simp only at e
        rw [val_do] at e
        obtain ⟨v, h2, e⟩ := some_bind e
        refine ⟨v, (Option.some.inj e).symm, fun S2 hσ ev => ?_⟩
        obtain ⟨e1, e2, e3⟩ := ev' S2 ev
        unfold stepOp
        simp only [ho, val_do, e1, h1, e3, h2, Option.bind_some, val_ok, val_ask]
    · simp [val_stuck] at e
  · rename_i ho; simp [readerOp, ho] at hr
  · rename_i ho; simp [readerOp, ho] at hr
  · rename_i ho; simp [readerOp, ho] at hr
  · rename_i ho; simp [readerOp, ho] at hr
  · rename_i t x ho
    rw [val_do] at e
    obtain ⟨y, hy, e⟩ := some_bind e
    rw [val_do] at e
    obtain ⟨a, h1, e⟩ := some_bind e
    rw [val_do] at e
    obtain ⟨v, h2, e⟩ := some_bind e
    refine ⟨v, (Option.some.inj e).symm, fun S2 hσ ev => ?_⟩
    simp only [ho, Op.operands, List.mem_cons, List.not_mem_nil, or_false, forall_eq] at ev
    unfold stepOp
    simp only [ho, val_do, hy, ev, h1, loadA_congr hσ, h2, Option.bind_some, val_ok]
  · rename_i ho; simp [readerOp, ho] at hr
  · rename_i x ho
    rw [val_do] at e
    obtain ⟨v, h1, e⟩ := some_bind e
    split at e
    · refine ⟨_, (Option.some.inj e).symm, fun S2 hσ ev => ?_⟩
      simp only [ho, Op.operands, List.mem_cons, List.not_mem_nil, or_false, forall_eq] at ev
      unfold stepOp
      simp only [ho, val_do, ev, h1, Option.bind_some, val_ok]
    · refine ⟨_, (Option.some.inj e).symm, fun S2 hσ ev => ?_⟩
      simp only [ho, Op.operands, List.mem_cons, List.not_mem_nil, or_false, forall_eq] at ev
      unfold stepOp
      simp only [ho, val_do, ev, h1, Option.bind_some, val_ok]
    · simp [val_stuck] at e
  · rename_i op t x y q ho
    rw [val_do] at e
    obtain ⟨u, h1, e⟩ := some_bind e
    rw [val_do] at e
    obtain ⟨v, h2, e⟩ := some_bind e
    split at e
    · split at e
      · rw [val_do] at e
        obtain ⟨z, h3, e⟩ := some_bind e
        refine ⟨_, (Option.some.inj e).symm, fun S2 hσ ev => ?_⟩
        simp only [ho, Op.operands, List.mem_cons, List.not_mem_nil, or_false] at ev
        have e1 := ev x (.inl rfl)
        have e2 := ev y (.inr rfl)
        unfold stepOp
        simp only [ho, val_do, e1, h1, e2, h2, h3, Option.bind_some, val_ok]
      · simp [val_stuck] at e
    · simp [val_stuck] at e
  · rename_i op t x ho
    rw [val_do] at e
    obtain ⟨u, h1, e⟩ := some_bind e
    split at e
    · rw [val_do] at e
      obtain ⟨z, h3, e⟩ := some_bind e
      refine ⟨_, (Option.some.inj e).symm, fun S2 hσ ev => ?_⟩
      simp only [ho, Op.operands, List.mem_cons, List.not_mem_nil, or_false, forall_eq] at ev
      unfold stepOp
      simp only [ho, val_do, ev, h1, h3, Option.bind_some, val_ok]
    · simp [val_stuck] at e
  · rename_i s t x ho
    rw [val_do] at e
    obtain ⟨y0, hy0, e⟩ := some_bind e
    rw [val_do] at e
    obtain ⟨y, hy, e⟩ := some_bind e
    rw [val_do] at e
    obtain ⟨u, h1, e⟩ := some_bind e
    split at e
    · rename_i k hk
      split at e
      · refine ⟨_, (Option.some.inj e).symm, fun S2 hσ ev => ?_⟩
        simp only [ho, Op.operands, List.mem_cons, List.not_mem_nil, or_false, forall_eq] at ev
        unfold stepOp
        simp only [ho, val_do, hy0, hy, ev, h1, hk, Option.bind_some, val_ok]
      · simp [val_stuck] at e
    · simp [val_stuck] at e
  · rename_i ho; simp [readerOp, ho] at hr
  · rename_i ho; simp [readerOp, ho] at hr
  · rename_i ho; simp [readerOp, ho] at hr
  · rename_i t x f ho
    rw [val_do] at e
    obtain ⟨⟨off, sz, g⟩, hf, e⟩ := some_bind e
    rw [val_do] at e
    obtain ⟨u, h1, e⟩ := some_bind e
    rw [val_do] at e
    obtain ⟨v, h2, e⟩ := some_bind e
    refine ⟨_, (Option.some.inj e).symm, fun S2 hσ ev => ?_⟩
    simp only [ho, Op.operands, List.mem_cons, List.not_mem_nil, or_false, forall_eq] at ev
    unfold stepOp
    simp only [ho, val_do, hf, ev, h1, h2, Option.bind_some, val_ok]
  · rename_i t x f ho
    rw [val_do] at e
    obtain ⟨⟨off, sz, g⟩, hf, e⟩ := some_bind e
    rw [val_do] at e
    obtain ⟨u, h1, e⟩ := some_bind e
    split at e
    · rename_i cs
      split at e
      · rename_i hb
        rw [val_do] at e
        obtain ⟨v, h2, e⟩ := some_bind e
        refine ⟨_, (Option.some.inj e).symm, fun S2 hσ ev => ?_⟩
        simp only [ho, Op.operands, List.mem_cons, List.not_mem_nil, or_false, forall_eq] at ev
        unfold stepOp
        simp only [ho, val_do, hf, ev, h1, hb, h2, Option.bind_some, val_ok]
      · simp [val_stuck] at e
    · simp [val_stuck] at e
  · rename_i t x i ho
    rw [val_do] at e
    obtain ⟨y, hy, e⟩ := some_bind e
    rw [val_do] at e
    obtain ⟨av, h1, e⟩ := some_bind e
    rw [val_do] at e
    obtain ⟨iv, h2, e⟩ := some_bind e
    rw [val_do] at e
    obtain ⟨n, h3, e⟩ := some_bind e
    rw [val_do] at e
    obtain ⟨v, h4, e⟩ := some_bind e
    refine ⟨_, (Option.some.inj e).symm, fun S2 hσ ev => ?_⟩
    simp only [ho, Op.operands, List.mem_cons, List.not_mem_nil, or_false] at ev
    have e1 := ev x (.inl rfl)
    have e2 := ev i (.inr rfl)
    unfold stepOp
    simp only [ho, val_do, hy, e1, h1, e2, h2, h3, indexAddrA_congr hσ, h4, Option.bind_some, val_ok]
  · rename_i t x i ho
    rw [val_do] at e
    obtain ⟨y, hy, e⟩ := some_bind e
    rw [val_do] at e
    obtain ⟨av, h1, e⟩ := some_bind e
    rw [val_do] at e
    obtain ⟨iv, h2, e⟩ := some_bind e
    rw [val_do] at e
    obtain ⟨n, h3, e⟩ := some_bind e
    split at e
    · rename_i hu
      split at e
      · rename_i s hs
        rw [val_demand] at e
        split at e
        · rename_i hd
          refine ⟨_, (Option.some.inj e).symm, fun S2 hσ ev => ?_⟩
          simp only [ho, Op.operands, List.mem_cons, List.not_mem_nil, or_false] at ev
          have e1 := ev x (.inl rfl)
          have e2 := ev i (.inr rfl)
          unfold stepOp
          simp only [ho, val_do, hy, e1, h1, e2, h2, h3, hu, Option.bind_some, val_ok, hd, show (demand true).val = some () from rfl]
        · cases e
      · simp [val_stuck] at e
    · simp [val_stuck] at e
  · rename_i x i ho
    rw [val_do] at e
    obtain ⟨av, h1, e⟩ := some_bind e
    split at e
    · rename_i vs
      split at e
      · rename_i g cs hg
        rw [val_do] at e
        obtain ⟨v, h2, e⟩ := some_bind e
        refine ⟨_, (Option.some.inj e).symm, fun S2 hσ ev => ?_⟩
        simp only [ho, Op.operands, List.mem_cons, List.not_mem_nil, or_false, forall_eq] at ev
        unfold stepOp
        simp only [ho, val_do, ev, h1, hg, h2, Option.bind_some, val_ok]
      · simp [val_stuck] at e
    · simp [val_stuck] at e
  · rename_i c ho
    split at e
    · rename_i b hb
      unfold builtinA at e
      have hops : ∀ S2 : St, (∀ x ∈ o.op.operands.toList, evalO S2 x = evalO S x) → ∀ x ∈ c.args.toList, evalO S2 x = evalO S x := by
        intro S2 ev x hx
        refine ev x ?_
        simp [ho, Op.operands, Call.operands, hb] at hx ⊢
        exact hx
      split at e
      · split at e
        · rename_i x ha
          split at e
          · rename_i t ht
            rw [val_do] at e
            obtain ⟨y, hy, e⟩ := some_bind e
            rw [val_do] at e
            obtain ⟨v, h1, e⟩ := some_bind e
            rw [val_do] at e
            obtain ⟨n, h2, e⟩ := some_bind e
            refine ⟨_, (Option.some.inj e).symm, fun S2 hσ ev => ?_⟩
            have e1 := hops S2 ev x (by rw [ha]; exact List.mem_cons_self)
            unfold stepOp
            simp only [ho, hb, builtinA, ha, ht, val_do, hy, e1, h1, h2, Option.bind_some, val_ok]
          · simp [val_stuck] at e
        · simp [val_stuck] at e
      · simp [readerOp, ho, hb] at hr
      · split at e
        · rename_i x y ha
          rw [val_do] at e
          obtain ⟨u, h1, e⟩ := some_bind e
          rw [val_do] at e
          obtain ⟨v, h2, e⟩ := some_bind e
          split at e
          · split at e
            · refine ⟨_, (Option.some.inj e).symm, fun S2 hσ ev => ?_⟩
              have e1 := hops S2 ev x (by rw [ha]; exact List.mem_cons_self)
              have e2 := hops S2 ev y (by rw [ha]; exact List.mem_cons_of_mem _ List.mem_cons_self)
              unfold stepOp
              simp only [ho, hb, builtinA, ha, val_do, e1, h1, e2, h2, Option.bind_some, val_ok]
            · simp [val_stuck] at e
          · simp [val_stuck] at e
        · simp [val_stuck] at e
      · split at e
        · rename_i x y ha
          rw [val_do] at e
          obtain ⟨u, h1, e⟩ := some_bind e
          rw [val_do] at e
          obtain ⟨v, h2, e⟩ := some_bind e
          split at e
          · split at e
            · refine ⟨_, (Option.some.inj e).symm, fun S2 hσ ev => ?_⟩
              have e1 := hops S2 ev x (by rw [ha]; exact List.mem_cons_self)
              have e2 := hops S2 ev y (by rw [ha]; exact List.mem_cons_of_mem _ List.mem_cons_self)
              unfold stepOp
              simp only [ho, hb, builtinA, ha, val_do, e1, h1, e2, h2, Option.bind_some, val_ok]
            · simp [val_stuck] at e
          · simp [val_stuck] at e
        · simp [val_stuck] at e
      · simp [val_stuck] at e
    · simp [val_stuck] at e
  · simp [val_stuck] at e

theorem wantA_congr {o : Oper} (h : ∀ t ∈ o.looksAt ops, lk t S2.T = lk t S.T) : wantA ops S2 o = wantA ops S o := by
  unfold wantA
  split
  · rfl
  · rename_i j want hg
    unfold Oper.looksAt at h
    rw [hg] at h
    cases hp : ops[j]? with
    | none => rfl
    | some p =>
      simp only [hp, Option.bind_some] at h
      show (R.of p.dst >>= fun t => (R.of (lk t S2.T) >>= fun v => _)) = (R.of p.dst >>= fun t => (R.of (lk t S.T) >>= fun v => _))
      cases hd : p.dst with
      | none => rfl
      | some t =>
        simp only [hd] at h
        have := h t (by simp)
        show (R.of (lk t S2.T) >>= _) = (R.of (lk t S.T) >>= _)
        rw [this]

theorem opA_local (hY : CallsOk P Y) {o : Oper} {S' : St} (hr : readerOp Y o = true) (e : (opA X real Y ops S o).val = some S') :
    Local (fun S => opA X real Y ops S o) S o.dst S' (fun S2 => ∀ t ∈ o.looksAt ops, lk t S2.T = lk t S.T) := by
  have evs : ∀ S2 : St, (∀ t ∈ o.looksAt ops, lk t S2.T = lk t S.T) → ∀ x ∈ o.op.operands.toList, evalO S2 x = evalO S x := by
    intro S2 h x hx
    refine evalO_congr fun t ht => h t ?_
    subst ht
    unfold Oper.looksAt
    exact List.mem_append_left _ (List.mem_filterMap.2 ⟨_, hx, rfl⟩)
  unfold opA at e
  rw [val_do] at e
  obtain ⟨t, h1, e⟩ := some_bind e
  cases t with
  | false =>
    refine ⟨_, (Option.some.inj e).symm, fun S2 hσ ev => ?_⟩
    unfold opA
    simp only [val_do, wantA_congr ev, h1, Option.bind_some, val_ok]
  | true =>
    simp only at e
    cases hc : isCall o with
    | none =>
      rw [hc] at e
      obtain ⟨v, h2, h3⟩ := stepOp_local hr hc e
      refine ⟨v, h2, fun S2 hσ ev => ?_⟩
      unfold opA
      simp only [val_do, wantA_congr ev, h1, Option.bind_some, hc]
      exact h3 S2 hσ (evs S2 ev)
    | some c =>
      rw [hc] at e
      have hoc : o.op = .call c := by
        unfold isCall at hc
        split at hc
        · rename_i c' hop
          split at hc
          · simp only [Option.some.injEq] at hc
            subst hc
            exact hop
          · cases hc
        · cases hc
      have e : (callA Y S o c).val = some S' := e
      unfold callA at e
      split at e
      · rename_i fo hcal
        have hr' := hr
        unfold readerOp at hr'
        simp only [hoc, hcal] at hr'
        split at hr'
        · rename_i g
          simp only [evalO, val_do, val_ok, Option.bind_some, capAVs] at e
          obtain ⟨args, ha, e⟩ := some_bind e
          obtain ⟨⟨r, S1⟩, hy, e⟩ := some_bind e
          obtain ⟨q1, q2⟩ := hY.quiet g hr' _ _ _ _ hy
          subst q1
          rw [hy] at e
          refine ⟨r, (Option.some.inj e).symm, fun S2 hσ ev => ?_⟩
          have ea : evalOs S2 c.args.toList = evalOs S1 c.args.toList := evalOs_congr fun x hx => evs S2 ev x (by
            simp [hoc, Op.operands, Call.operands, hcal] at hx ⊢
            exact .inr hx)
          unfold opA
          simp only [val_do, wantA_congr ev, h1, Option.bind_some, hc, callA, hcal, evalO, val_ok, ea, ha, capAVs, q2 S2 hσ]
        · cases hr'
      · simp [val_stuck] at e

/-- In the text's order: what each step makes. -/
theorem goOps_seq {n : Nat} (hn : n = ops.size) : ∀ (k i : Nat) (S S' : St), i + k = n → (goOps X real Y ops (List.range' i k) S).val = some S' →
    ∃ st : Nat → St, st i = S ∧ st n = S' ∧ ∀ j, i ≤ j → j < n → ∃ o, ops[j]? = some o ∧ (opA X real Y ops (st j) o).val = some (st (j + 1))
  | 0, i, S, S', h, e => by
    simp only [List.range'_zero, goOps, val_ok, Option.some.injEq] at e
    subst e
    exact ⟨fun _ => S, rfl, rfl, fun j h1 h2 => by omega⟩
  | k + 1, i, S, S', h, e => by
    rw [List.range'_succ] at e
    unfold goOps at e
    have hlt : i < ops.size := by omega
    rw [Array.getElem?_eq_getElem hlt] at e
    simp only at e
    rw [val_do] at e
    obtain ⟨S1, h1, e⟩ := some_bind e
    obtain ⟨st, s1, s2, s3⟩ := goOps_seq hn k (i + 1) S1 S' (by omega) e
    refine ⟨fun j => if j = i then S else st j, by simp, by show (if n = i then S else st n) = S'; rw [if_neg (by omega)]; exact s2, fun j hj hj2 => ?_⟩
    by_cases hji : j = i
    · subst hji
      refine ⟨_, Array.getElem?_eq_getElem hlt, ?_⟩
      show (opA X real Y ops (if j = j then S else st j) ops[j]).val = some (if j + 1 = j then S else st (j + 1))
      rw [if_pos rfl, if_neg (by omega), s1]
      exact h1
    · obtain ⟨o, h2, h3⟩ := s3 j (by omega) hj2
      refine ⟨o, h2, ?_⟩
      show (opA X real Y ops (if j = i then S else st j) o).val = some (if j + 1 = i then S else st (j + 1))
      rw [if_neg hji, if_neg (by omega)]
      exact h3

/-- What holds where those of L are done. -/
structure Done (ops : Array Oper) (V : Nat → AV) (S : St) (L : Nat → Prop) (S' : St) : Prop where
  σ : S'.σ = S.σ
  next : S'.next = S.next
  at_ : ∀ (i : Nat) (o : Oper) (t : Nat), ops[i]? = some o → L i → o.dst = some t → lk t S'.T = some (V i)
  old : ∀ t, (∀ (i : Nat) (o : Oper), ops[i]? = some o → o.dst ≠ some t) → lk t S'.T = lk t S.T

theorem Rel.same {S' : St} (h : Rel E β O S a w) (hσ : S'.σ = S.σ) (hn : S'.next = S.next) (ht : ∀ t, lk t S'.T = lk t S.T) : Rel E β O S' a w := by
  obtain ⟨T, σ, n⟩ := S
  obtain ⟨T', σ', n'⟩ := S'
  dsimp only at hσ hn ht
  subst hσ hn
  exact ⟨h.mem, fun t av e => h.slots t av (by rw [← ht]; exact e), h.nodef⟩

theorem quiet_spec (hq : quietR Y ops = true) {i : Nat} {o : Oper} (ho : ops[i]? = some o) : readerOp Y o = true ∧ (∀ e ∈ o.after, Region.binds .any e = true → e.on < i) ∧
    ∀ j q t, ops[j]? = some q → q.dst = some t → (i ≠ j → o.dst ≠ some t) ∧ (t ∈ o.looksAt ops → ∃ e ∈ o.after, Region.binds .any e = true ∧ e.on = j) := by
  unfold quietR at hq
  rw [List.all_eq_true] at hq
  have hlt : i < ops.size := (Array.getElem?_eq_some_iff.1 ho).1
  have h := hq i (List.mem_range.2 hlt)
  simp only [ho, Bool.and_eq_true] at h
  obtain ⟨⟨h1, h2⟩, h3⟩ := h
  refine ⟨h1, ?_, ?_⟩
  · intro e he hb
    rw [Array.all_eq_true_iff_forall_mem] at h2
    have := h2 e he
    simp only [hb, Bool.not_true, Bool.false_or] at this
    simpa using this
  · intro j q t hj ht
    rw [List.all_eq_true] at h3
    have hlt2 : j < ops.size := (Array.getElem?_eq_some_iff.1 hj).1
    have h4 := h3 j (List.mem_range.2 hlt2)
    unfold quietOne at h4
    simp only [hj, ht, Bool.and_eq_true] at h4
    obtain ⟨h5, h6⟩ := h4
    refine ⟨fun hne hd => ?_, fun hl => ?_⟩
    · rw [Bool.or_eq_true] at h5
      rcases h5 with h5 | h5
      · exact hne (beq_eq h5)
      · simp [hd] at h5
    · rw [Bool.or_eq_true] at h6
      rcases h6 with h6 | h6
      · simp [hl] at h6
      · obtain ⟨e, he, hb⟩ := Array.any_eq_true'.1 h6
        rw [Bool.and_eq_true] at hb
        exact ⟨e, he, hb.1, beq_eq hb.2⟩

theorem quiet_sound (hX : XOk P X) (hY : CallsOk P Y) (hq : quietR Y ops = true) {n0 : Nat} (hd : ∀ (i : Nat) (o : Oper) t, ops[i]? = some o → o.dst = some t → t < n0) {Q : Exit → Act → World → Prop} {Sn : St}
    (hr : Rel E β O S a w) (hs : a.tmps.size = n0) (e : (goOps X real Y ops (List.range ops.size) S).val = some Sn)
    (hQ : ∀ β' O' a' w', Rel E β' O' Sn a' w' → a'.tmps.size = n0 → Q .normal a' w') : wpAny P .any ops Q ops.size (Array.replicate ops.size false) a w := by
  rw [List.range_eq_range'] at e
  obtain ⟨st, s1, s2, s3⟩ := goOps_seq rfl ops.size 0 S Sn (by omega) e
  have hloc : ∀ (j : Nat) (o : Oper), ops[j]? = some o → Local (fun S => opA X real Y ops S o) (st j) o.dst (st (j + 1)) (fun S2 => ∀ t ∈ o.looksAt ops, lk t S2.T = lk t (st j).T) := by
    intro j o ho
    have hlt : j < ops.size := (Array.getElem?_eq_some_iff.1 ho).1
    obtain ⟨o', h1, h2⟩ := s3 j (Nat.zero_le _) hlt
    rw [ho] at h1
    obtain rfl := Option.some.inj h1
    exact opA_local hY (quiet_spec hq ho).1 h2
  obtain ⟨V, hV⟩ : ∃ V : Nat → AV, ∀ (j : Nat) (o : Oper), ops[j]? = some o → st (j + 1) = setDst (st j) o.dst (V j) ∧ ∀ S2 : St, S2.σ = (st j).σ → (∀ t ∈ o.looksAt ops, lk t S2.T = lk t (st j).T) → (opA X real Y ops S2 o).val = some (setDst S2 o.dst (V j)) := by
    have : ∀ j : Nat, ∃ v, ∀ o : Oper, ops[j]? = some o → st (j + 1) = setDst (st j) o.dst v ∧ ∀ S2 : St, S2.σ = (st j).σ → (∀ t ∈ o.looksAt ops, lk t S2.T = lk t (st j).T) → (opA X real Y ops S2 o).val = some (setDst S2 o.dst v) := by
      intro j
      cases ho : ops[j]? with
      | none => exact ⟨.tp [], fun o h => by cases h⟩
      | some o =>
        obtain ⟨v, h1, h2⟩ := hloc j o ho
        exact ⟨v, fun o' h => by cases h; exact ⟨h1, h2⟩⟩
    exact ⟨fun j => Classical.choose (this j), fun j => Classical.choose_spec (this j)⟩
  have step : ∀ {L : Nat → Prop} {S' : St} {j : Nat} {o : Oper}, ops[j]? = some o → Done ops V S L S' → Done ops V S (fun i => i = j ∨ L i) (setDst S' o.dst (V j)) := by
    intro L S' j o ho h
    refine ⟨by rw [setDst_σ, h.σ], by rw [setDst_next, h.next], ?_, ?_⟩
    · intro i q t hi hL ht
      by_cases hij : j = i
      · subst hij
        rw [ho] at hi
        obtain rfl := Option.some.inj hi
        rw [ht]
        exact lk_setDst_self
      · rw [lk_setDst_ne (((quiet_spec hq ho).2.2 i q t hi ht).1 hij)]
        exact h.at_ i q t hi (hL.resolve_left (fun e => hij e.symm)) ht
    · intro t h'
      rw [lk_setDst_ne (h' j o ho)]
      exact h.old t h'
  have seq : ∀ j, j ≤ ops.size → Done ops V S (fun i => i < j) (st j) := by
    intro j
    induction j with
    | zero => intro _; rw [s1]; exact ⟨rfl, rfl, fun i o t _ h => by omega, fun _ _ => rfl⟩
    | succ j ih =>
      intro hj
      have ho : ops[j]? = some ops[j] := Array.getElem?_eq_getElem (by omega)
      have h1 := step ho (ih (by omega))
      rw [(hV j _ ho).1]
      exact ⟨h1.σ, h1.next, fun i o t hi hl ht => h1.at_ i o t hi (by omega) ht, h1.old⟩
  have main : ∀ (fuel : Nat) (listed : Array Bool) (todo : List Nat) (S' : St) (β : Nat → Nat × Nat) (O : Nat → List Nat) (a : Act) (w : World), listed.size = ops.size → todo.length ≤ fuel → (∀ i, i < ops.size → listed.getD i false = false → i ∈ todo) →
      Done ops V S (fun i => listed.getD i false = true) S' → Rel E β O S' a w → a.tmps.size = n0 → wpAny P .any ops Q fuel listed a w := by
    intro fuel
    induction fuel with
    | zero =>
      intro listed todo S' β O a w hls htl hto hD hr hs
      have htl : todo = [] := List.length_eq_zero_iff.1 (by omega)
      subst htl
      have hall : ∀ i, i < ops.size → listed.getD i false = true := fun i hi => by
        cases hb : listed.getD i false with
        | true => rfl
        | false => exact absurd (hto i hi hb) (by simp)
      refine wpAny_done ?_ ?_ 0
      · refine List.eq_nil_iff_forall_not_mem.2 fun i hi => ?_
        obtain ⟨h0, o, ho, _⟩ := mem_ready.1 hi
        have hlt : i < ops.size := (Array.getElem?_eq_some_iff.1 ho).1
        have h1 := hall i hlt
        simp [show i < listed.size from by omega] at h0 h1
        rw [h1] at h0; cases h0
      · refine hQ β O a w (hr.same ?_ ?_ ?_) hs
        · rw [← s2, (seq ops.size (Nat.le_refl _)).σ, hD.σ]
        · rw [← s2, (seq ops.size (Nat.le_refl _)).next, hD.next]
        · intro t
          have hS := seq ops.size (Nat.le_refl _)
          rw [← s2]
          by_cases ht : ∃ (i : Nat) (o : Oper), ops[i]? = some o ∧ o.dst = some t
          · obtain ⟨i, o, ho, ht⟩ := ht
            have hlt : i < ops.size := (Array.getElem?_eq_some_iff.1 ho).1
            rw [hS.at_ i o t ho hlt ht, hD.at_ i o t ho (hall i hlt) ht]
          · have ht' : ∀ (i : Nat) (o : Oper), ops[i]? = some o → o.dst ≠ some t := fun i o ho h => ht ⟨i, o, ho, h⟩
            rw [hS.old t ht', hD.old t ht']
    | succ fuel ih =>
      intro listed todo S' β O a w hls htl hto hD hr hs
      by_cases hrd : Region.ready .any ops listed = []
      · have hall : ∀ i, i < ops.size → listed.getD i false = true := by
          intro i
          induction i using Nat.strongRecOn with
          | _ i ihi =>
            intro hi
            cases hb : listed.getD i false with
            | true => rfl
            | false =>
              exfalso
              have ho : ops[i]? = some ops[i] := Array.getElem?_eq_getElem hi
              have : i ∈ Region.ready .any ops listed := mem_ready.2 ⟨by simp [show i < listed.size from by omega] at hb ⊢; exact hb, _, ho, fun e he hbd => by
                have h1 := (quiet_spec hq ho).2.1 e he hbd
                exact ihi e.on h1 (by omega)⟩
              rw [hrd] at this
              simp at this
        refine wpAny_done hrd ?_ _
        refine hQ β O a w (hr.same ?_ ?_ ?_) hs
        · rw [← s2, (seq ops.size (Nat.le_refl _)).σ, hD.σ]
        · rw [← s2, (seq ops.size (Nat.le_refl _)).next, hD.next]
        · intro t
          have hS := seq ops.size (Nat.le_refl _)
          rw [← s2]
          by_cases ht : ∃ (i : Nat) (o : Oper), ops[i]? = some o ∧ o.dst = some t
          · obtain ⟨i, o, ho, ht⟩ := ht
            have hlt : i < ops.size := (Array.getElem?_eq_some_iff.1 ho).1
            rw [hS.at_ i o t ho hlt ht, hD.at_ i o t ho (hall i hlt) ht]
          · have ht' : ∀ (i : Nat) (o : Oper), ops[i]? = some o → o.dst ≠ some t := fun i o ho h => ht ⟨i, o, ho, h⟩
            rw [hS.old t ht', hD.old t ht']
      · refine wpAny_all rfl hrd fun j hj => ?_
        obtain ⟨h0, o, ho, hall⟩ := mem_ready.1 hj
        have hlt : j < ops.size := (Array.getElem?_eq_some_iff.1 ho).1
        have hun : listed.getD j false = false := by simp [show j < listed.size from by omega] at h0 ⊢; exact h0
        have hst := seq j (by omega)
        have hop : (opA X real Y ops S' o).val = some (setDst S' o.dst (V j)) := by
          refine (hV j o ho).2 S' (by rw [hD.σ, hst.σ]) fun t ht => ?_
          by_cases hx : ∃ (i : Nat) (q : Oper), ops[i]? = some q ∧ q.dst = some t
          · obtain ⟨i, q, hi, hqt⟩ := hx
            obtain ⟨ed, he, hb, hon⟩ := ((quiet_spec hq ho).2.2 i q t hi hqt).2 ht
            have hij := (quiet_spec hq ho).2.1 ed he hb
            rw [hst.at_ i q t hi (by omega) hqt, hD.at_ i q t hi (by rw [← hon]; exact hall ed he hb) hqt]
          · have ht' : ∀ (i : Nat) (o : Oper), ops[i]? = some o → o.dst ≠ some t := fun i o ho h => hx ⟨i, o, ho, h⟩
            rw [hst.old t ht', hD.old t ht']
        refine opA_sound hX hY ho hr (fun t ht => by rw [hs]; exact hd j o t ho ht) hop fun β' O' a' w' hr' hs' => ?_
        refine ih (listed.setIfInBounds j true) (todo.erase j) _ β' O' a' w' (by simp [hls]) ?_ ?_ ?_ hr' (hs'.trans hs)
        · rw [List.length_erase_of_mem (hto j hlt hun)]; omega
        · intro i hi hl
          by_cases hij : j = i
          · subst hij
            simp [show j < listed.size from by omega] at hl
          · rw [getD_set_ne false hij] at hl
            exact (List.mem_erase_of_ne (fun e => hij e.symm)).2 (hto i hi hl)
        · have h1 := step ho hD
          refine ⟨h1.σ, h1.next, fun i q t hi hl ht => h1.at_ i q t hi ?_ ht, h1.old⟩
          by_cases hij : j = i
          · exact .inl hij.symm
          · rw [getD_set_ne false hij] at hl
            exact .inr hl
  refine main ops.size _ (List.range ops.size) S β O a w (by simp) (by simp) (fun i hi _ => List.mem_range.2 hi) ⟨rfl, rfl, fun i o t ho hl => ?_, fun _ _ => rfl⟩ hr hs
  have hlt : i < ops.size := (Array.getElem?_eq_some_iff.1 ho).1
  simp [hlt] at hl
end
end Go.Aix
