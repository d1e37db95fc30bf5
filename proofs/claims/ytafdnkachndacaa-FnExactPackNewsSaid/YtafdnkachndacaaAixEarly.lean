/-
  THE CALCULUS: in a drawn region, numbers that are read out of variables are read first.
-/
import Derived.Test.YtafdnkachndacaaAixAny3
set_option linter.unusedSimpArgs false
set_option linter.unusedVariables false
namespace Go.Aix

mutual
/-- The value, where it is all scalars. -/
def scV : AV → Option Value
  | .one c => scC c
  | .ag cs => match scVs cs with
    | some vs => some (.agg vs.toArray)
    | none => none
  | .tp _ => none
def scC : Cell → Option Value
  | .pv p => match p with
    | .sc v => some v
    | _ => none
  | _ => none
def scVs : List Cell → Option (List Value)
  | [] => some []
  | c :: r => match scC c with
    | some v => match scVs r with
      | some vs => some (v :: vs)
      | none => none
    | none => none
end
def isSc (x : AV) : Bool := match scV x with
  | some _ => true
  | none => false

def isLoad (o : Oper) : Bool := match o.op with
  | .load _ _ => match o.guard with
    | none => true
    | some _ => false
  | _ => false
/-- Does it leave alone what those of L look at? -/
def apartL (ops : Array Oper) (L : List (Nat × AV)) (d : Option Tmp) : Bool := match d with
  | some d => L.all fun e => match ops[e.1]? with
    | some p => !(p.looksAt ops).contains d
    | none => false
  | none => true
def firstPureL (ops : Array Oper) (listed : Array Bool) (L : List (Nat × AV)) : List Nat → Option Nat
  | [] => none
  | i :: r => match ops[i]? with
    | some o => match pureOp o && Region.free .any ops listed i && apartL ops L o.dst with
      | true => some i
      | false => firstPureL ops listed L r
    | none => firstPureL ops listed L r
/-- May j be taken first, where those of L have been? -/
def earlyOk (ops : Array Oper) (listed : Array Bool) (L : List (Nat × AV)) (j : Nat) (o : Oper) : Bool :=
  isLoad o && Region.free .any ops listed j && apartL ops L o.dst && match o.dst with
    | some d => !(o.looksAt ops).contains d
    | none => false
def firstLoad (ops : Array Oper) (listed : Array Bool) (L : List (Nat × AV)) : List Nat → Option Nat
  | [] => none
  | i :: r => match ops[i]? with
    | some o => match earlyOk ops listed L i o with
      | true => some i
      | false => firstLoad ops listed L r
    | none => firstLoad ops listed L r

section
variable (X : Ctx) (I : Ops) (Y : CallsA) (ops : Array Oper)
/-- Those that were read first would be read so here too. -/
def chkL : List (Nat × AV) → St → Out → Out
  | [], _, k => k
  | (j, x) :: L, S, k => match ops[j]? with
    | some o => (opA X I Y ops S o).out fun Sj => match o.dst with
      | some d => match lk d Sj.T with
        | some x' => .eqs x' x (chkL L S k)
        | none => .stuck
      | none => .stuck
    | none => .stuck
def goEarly : Nat → Array Bool → List (Nat × AV) → St → (St → Out) → Out
  | 0, listed, L, S, k => chkL X I Y ops L S (match Region.ready .any ops listed with
    | [] => k S
    | _ => .stuck)
  | n + 1, listed, L, S, k => chkL X I Y ops L S (match Region.ready .any ops listed with
    | [] => k S
    | rs => match firstPureL ops listed L rs with
      | some j => match ops[j]? with
        | some o => (opA X I Y ops S o).out fun S => goEarly n (listed.setIfInBounds j true) L S k
        | none => .stuck
      | none =>
        let all := allOut (fun i => match ops[i]? with
          | some o => (opA X I Y ops S o).out fun S => goEarly n (listed.setIfInBounds i true) L S k
          | none => .stuck) rs
        match firstLoad ops listed L rs with
        | some j => match ops[j]? with
          | some o => (opA X I Y ops S o).out fun Sj => match o.dst with
            | some d => match lk d Sj.T with
              | some x => match isSc x with
                | true => goEarly n (listed.setIfInBounds j true) ((j, x) :: L) Sj k
                | false => all
              | none => .stuck
            | none => .stuck
          | none => .stuck
        | none => all)
end

section
variable {P : Program} {X : Ctx} {Y : CallsA} {f : FuncId} {fn : Func} {b : Code} {E : Ent} {Rr : Value → World → Prop} {β : Nat → Nat × Nat} {O : Nat → List Nat} {S : St} {a : Act} {w : World} {M : Nat → Prop} {env : EnvT} {ops : Array Oper} {Q : Exit → Act → World → Prop}

theorem scC_sound {c : Cell} {u v : Value} (h : RCell w M env c u) (e : scC c = some v) : u = v := by
  unfold scC at e
  split at e
  · split at e
    · rename_i v'
      obtain rfl := Option.some.inj e
      cases h with
      | pv h => cases h; rfl
    · cases e
  · cases e
theorem scVs_sound : ∀ {cs : List Cell} {us vs : List Value}, RCs w M env cs us → scVs cs = some vs → us = vs
  | [], us, vs, h, e => by
    cases h
    rw [scVs] at e
    exact Option.some.inj e
  | c :: cs, us, vs, h, e => by
    rw [scVs] at e
    cases h with
    | cons h hr =>
      split at e
      · rename_i v hv
        split at e
        · rename_i vs' hvs
          obtain rfl := Option.some.inj e
          rw [scC_sound h hv, scVs_sound hr hvs]
        · cases e
      · cases e
theorem scV_sound {x : AV} {u v : Value} (h : RAV w M env x u) (e : scV x = some v) : u = v := by
  cases h with
  | one h =>
    rw [scV] at e
    exact scC_sound h e
  | ag h =>
    rename_i cs vs
    rw [scV] at e
    split at e
    · rename_i us hus
      obtain rfl := Option.some.inj e
      have := scVs_sound h hus
      rw [← this]
    · cases e
  | tp h => rw [scV] at e; cases e

/-- What it yields here. -/
def YAt (P : Program) (ops : Array Oper) (o : Oper) (v : Value) (a : Act) (w : World) : Prop := Region.wanted o (yielded ops a.tmps) = true ∧ (execOp a.eval o).run P w = .ok (.value v) w
theorem YAt.wpOp {i : Nat} {o : Oper} {v : Value} {a : Act} (hi : ops[i]? = some o) (hy : YAt P ops o v a w) {K : Act → World → Prop} (h : K (a.put o.dst v) w) : wpOp P ops Q i K a w := by
  unfold Go.wpOp
  simp only [hi, hy.1, if_true, Oper.wp, hy.2, Oper.upon]
  exact .inl h
theorem YAt.put {o : Oper} {v u : Value} {d : Option Tmp} (hs : ∀ cs b, o.op ≠ .select cs b) (hd : ∀ t, d = some t → t ∉ o.looksAt ops) : YAt P ops o v (a.put d u) w ↔ YAt P ops o v a w := by
  unfold YAt
  rw [execOp_put o hs a d u hd, wanted_put o a d u hd]

def wpV (P : Program) (ops : Array Oper) (Q : Exit → Act → World → Prop) (V : List (Oper × Value)) : Nat → Array Bool → Act → World → Prop
  | 0, listed, a, w => (∀ p ∈ V, YAt P ops p.1 p.2 a w) ∧ Region.ready .any ops listed = [] ∧ Q .normal a w
  | n + 1, listed, a, w => (∀ p ∈ V, YAt P ops p.1 p.2 a w) ∧ (Region.ready .any ops listed = [] → Q .normal a w) ∧ ∀ i ∈ Region.ready .any ops listed, wpOp P ops Q i (wpV P ops Q V n (listed.setIfInBounds i true)) a w
theorem wpV_at {V : List (Oper × Value)} : ∀ {n : Nat} {listed : Array Bool} {a : Act} {w : World}, wpV P ops Q V n listed a w → ∀ p ∈ V, YAt P ops p.1 p.2 a w
  | 0, _, _, _, h => h.1
  | _ + 1, _, _, _, h => h.1
theorem wpV_sub {V V' : List (Oper × Value)} (hs : ∀ p ∈ V', p ∈ V) : ∀ {n : Nat} {listed : Array Bool} {a : Act} {w : World}, wpV P ops Q V n listed a w → wpV P ops Q V' n listed a w
  | 0, _, _, _, h => ⟨fun p hp => h.1 p (hs p hp), h.2⟩
  | _ + 1, _, _, _, h => ⟨fun p hp => h.1 p (hs p hp), h.2.1, fun i hi => wpOp_mono (fun _ _ hh => wpV_sub hs hh) (h.2.2 i hi)⟩
theorem wpV_nil : ∀ {n : Nat} {listed : Array Bool} {a : Act} {w : World}, wpV P ops Q [] n listed a w → wpAny P .any ops Q n listed a w
  | 0, _, _, _, h => h.2
  | _ + 1, _, _, _, h => ⟨h.2.1, fun i hi => wpOp_mono (fun _ _ hh => wpV_nil hh) (h.2.2 i hi)⟩

theorem wpOp_putJ {j : Nat} {oi oj : Oper} {v : Value} (hj : ops[j]? = some oj) (hap : oi.apart ops oj = true) (hsj : ∀ cs b, oj.op ≠ .select cs b)
    (hQ : ∀ c a w, Q (.panic c) (a.put oi.dst v) w → Q (.panic c) a w) {K : Act → World → Prop} {a : Act} {w : World} (h : wpOp P ops Q j K (a.put oi.dst v) w) :
    wpOp P ops Q j (fun a' w' => K (a'.put oi.dst v) w') a w := by
  have ap : ({ oi with op := .move (.const v), guard := none } : Oper).apart ops oj = true := by
    unfold Oper.apart at *
    rw [Bool.and_eq_true] at *
    refine ⟨hap.1, ?_⟩
    cases oj.dst with
    | none => rfl
    | some d => simp [Oper.looksAt, Op.operands]
  have hy : Yields P ops { oi with op := .move (.const v), guard := none } v a := .inl ⟨rfl, fun w => rfl⟩
  exact wpOp_mono (fun _ _ hh => hh.2) (wpOp_put (oi := { oi with op := .move (.const v), guard := none }) hj ap (fun _ _ e => nomatch e) hsj hQ hy h)

theorem wpV_first {i : Nat} {oi : Oper} {v : Value} {V : List (Oper × Value)} (hi : ops[i]? = some oi) (hsel : ∀ (j : Nat) (o : Oper) cs b, ops[j]? = some o → o.op ≠ .select cs b)
    (hQ : ∀ c a w, Q (.panic c) (a.put oi.dst v) w → Q (.panic c) a w) (hV : ∀ p ∈ V, (∀ cs b, p.1.op ≠ .select cs b) ∧ ∀ t, oi.dst = some t → t ∉ p.1.looksAt ops) (hself : ∀ t, oi.dst = some t → t ∉ oi.looksAt ops) :
    ∀ (fuel : Nat) (listed : Array Bool) (a : Act) (w : World),
      (∀ j oj, ops[j]? = some oj → j ≠ i → listed.getD j true = false → (∀ e ∈ oj.after, Region.binds .any e = true → e.on ≠ i) → oi.apart ops oj = true) →
      i ∈ Region.ready .any ops listed → YAt P ops oi v a w →
      wpV P ops Q ((oi, v) :: V) fuel (listed.setIfInBounds i true) (a.put oi.dst v) w → wpV P ops Q V (fuel + 1) listed a w := by
  intro fuel
  induction fuel with
  | zero =>
    intro listed a w _ hr hy H
    refine ⟨fun p hp => (YAt.put (hV p hp).1 (hV p hp).2).1 (wpV_at H p (List.mem_cons_of_mem _ hp)), fun h => (by rw [h] at hr; cases hr), fun j hj => ?_⟩
    by_cases hji : j = i
    · subst hji; exact hy.wpOp hi (wpV_sub (fun p hp => List.mem_cons_of_mem _ hp) H)
    · have := ready_mono hj hji
      rw [H.2.1] at this
      cases this
  | succ fuel ih =>
    intro listed a w hfree hr hy H
    refine ⟨fun p hp => (YAt.put (hV p hp).1 (hV p hp).2).1 (wpV_at H p (List.mem_cons_of_mem _ hp)), fun h => (by rw [h] at hr; cases hr), fun j hj => ?_⟩
    by_cases hji : j = i
    · subst hji; exact hy.wpOp hi (wpV_sub (fun p hp => List.mem_cons_of_mem _ hp) H)
    · have h1 := H.2.2 j (ready_mono hj hji)
      obtain ⟨hjun, oj, hoj, hall⟩ := mem_ready.1 hj
      have hnot : ∀ e ∈ oj.after, Region.binds .any e = true → e.on ≠ i := fun e he hb heq => by
        have h1 := hall e he hb
        have h0 := (mem_ready.1 hr).1
        rw [heq] at h1
        rcases Nat.lt_or_ge i listed.size with h' | h'
        · simp [h'] at h0 h1; rw [h0] at h1; cases h1
        · simp [Array.getElem?_eq_none h'] at h1
      have h2 := wpOp_putJ hoj (hfree j oj hoj hji hjun hnot) (fun cs b => hsel j oj cs b hoj) hQ h1
      have hfree' : ∀ k ok, ops[k]? = some ok → k ≠ i → (listed.setIfInBounds j true).getD k true = false →
          (∀ e ∈ ok.after, Region.binds .any e = true → e.on ≠ i) → oi.apart ops ok = true := fun k ok hk hki hun hno => by
        refine hfree k ok hk hki ?_ hno
        by_cases hjk : j = k
        · subst hjk; exact hjun
        · rw [getD_set_ne true hjk] at hun; exact hun
      refine wpOp_mono (fun a' w' h3 => ih (listed.setIfInBounds j true) a' w' hfree' (ready_mono hr (Ne.symm hji)) ?_ ?_) h2
      · exact (YAt.put (hsel i oi · · hi) hself).1 (wpV_at h3 (oi, v) List.mem_cons_self)
      · rw [Array.setIfInBounds_comm _ _ hji]
        exact h3

theorem wpV_take {i : Nat} {oi : Oper} {v : Value} {V : List (Oper × Value)} (hi : ops[i]? = some oi) (hsel : ∀ (j : Nat) (o : Oper) cs b, ops[j]? = some o → o.op ≠ .select cs b)
    (hQ : ∀ c a w, Q (.panic c) (a.put oi.dst v) w → Q (.panic c) a w) (hV : ∀ p ∈ V, (∀ cs b, p.1.op ≠ .select cs b) ∧ ∀ t, oi.dst = some t → t ∉ p.1.looksAt ops) :
    ∀ (fuel : Nat) (listed : Array Bool) (a : Act) (w : World),
      (∀ j oj, ops[j]? = some oj → j ≠ i → listed.getD j true = false → (∀ e ∈ oj.after, Region.binds .any e = true → e.on ≠ i) → oi.apart ops oj = true) →
      i ∈ Region.ready .any ops listed → Yields P ops oi v a →
      wpV P ops Q V fuel (listed.setIfInBounds i true) (a.put oi.dst v) w → wpV P ops Q V (fuel + 1) listed a w := by
  intro fuel
  induction fuel with
  | zero =>
    intro listed a w _ hr hy H
    refine ⟨fun p hp => (YAt.put (hV p hp).1 (hV p hp).2).1 (wpV_at H p hp), fun h => (by rw [h] at hr; cases hr), fun j hj => ?_⟩
    by_cases hji : j = i
    · subst hji; exact hy.wpOp hi H
    · have := ready_mono hj hji
      rw [H.2.1] at this
      cases this
  | succ fuel ih =>
    intro listed a w hfree hr hy H
    refine ⟨fun p hp => (YAt.put (hV p hp).1 (hV p hp).2).1 (wpV_at H p hp), fun h => (by rw [h] at hr; cases hr), fun j hj => ?_⟩
    by_cases hji : j = i
    · subst hji; exact hy.wpOp hi H
    · have h1 := H.2.2 j (ready_mono hj hji)
      obtain ⟨hjun, oj, hoj, hall⟩ := mem_ready.1 hj
      have hnot : ∀ e ∈ oj.after, Region.binds .any e = true → e.on ≠ i := fun e he hb heq => by
        have h1 := hall e he hb
        have h0 := (mem_ready.1 hr).1
        rw [heq] at h1
        rcases Nat.lt_or_ge i listed.size with h' | h'
        · simp [h'] at h0 h1; rw [h0] at h1; cases h1
        · simp [Array.getElem?_eq_none h'] at h1
      have h2 := wpOp_put hoj (hfree j oj hoj hji hjun hnot) (fun cs b => hsel i oi cs b hi) (fun cs b => hsel j oj cs b hoj) hQ hy h1
      have hfree' : ∀ k ok, ops[k]? = some ok → k ≠ i → (listed.setIfInBounds j true).getD k true = false →
          (∀ e ∈ ok.after, Region.binds .any e = true → e.on ≠ i) → oi.apart ops ok = true := fun k ok hk hki hun hno => by
        refine hfree k ok hk hki ?_ hno
        by_cases hjk : j = k
        · subst hjk; exact hjun
        · rw [getD_set_ne true hjk] at hun; exact hun
      refine wpOp_mono (fun a' w' h3 => ih (listed.setIfInBounds j true) a' w' hfree' (ready_mono hr (Ne.symm hji)) h3.1 ?_) h2
      rw [Array.setIfInBounds_comm _ _ hji]
      exact h3.2

/-- Those that were read first, and their values. -/
inductive Early (ops : Array Oper) : List (Nat × AV) → List (Oper × Value) → Prop
  | nil : Early ops [] []
  | cons {j : Nat} {x : AV} {o : Oper} {v : Value} {L : List (Nat × AV)} {V : List (Oper × Value)} (ho : ops[j]? = some o) (hl : isLoad o = true) (hv : scV x = some v) (hr : Early ops L V) : Early ops ((j, x) :: L) ((o, v) :: V)
theorem isLoad_sel {o : Oper} (h : isLoad o = true) : ∀ cs b, o.op ≠ .select cs b := by
  intro cs b e
  unfold isLoad at h
  rw [e] at h
  cases h
theorem Early.apart {d : Option Tmp} : ∀ {L : List (Nat × AV)} {V : List (Oper × Value)}, Early ops L V → apartL ops L d = true → ∀ p ∈ V, (∀ cs b, p.1.op ≠ .select cs b) ∧ ∀ t, d = some t → t ∉ p.1.looksAt ops
  | _, _, .nil, _, p, hp => nomatch hp
  | _, _, .cons (L := L) ho hl hv hr, ha, p, hp => by
    have ha' : apartL ops L d = true := by
      unfold apartL at *
      split at ha
      · simp only [List.all_cons, Bool.and_eq_true] at ha
        exact ha.2
      · rfl
    rcases List.mem_cons.1 hp with rfl | hp
    · refine ⟨isLoad_sel hl, fun t ht => ?_⟩
      subst ht
      unfold apartL at ha
      simp only [List.all_cons, Bool.and_eq_true, ho] at ha
      simpa using ha.1
    · exact Early.apart hr ha' p hp
theorem firstPureL_spec {listed : Array Bool} {L : List (Nat × AV)} : ∀ {l : List Nat} {j : Nat}, firstPureL ops listed L l = some j → j ∈ l ∧ ∃ o, ops[j]? = some o ∧ pureOp o = true ∧ Region.free .any ops listed j = true ∧ apartL ops L o.dst = true
  | [], j, h => by cases h
  | i :: r, j, h => by
    unfold firstPureL at h
    split at h
    · rename_i o ho
      split at h
      · rename_i hp
        simp only [Option.some.injEq] at h
        subst h
        rw [Bool.and_eq_true, Bool.and_eq_true] at hp
        exact ⟨List.mem_cons_self, o, ho, hp.1.1, hp.1.2, hp.2⟩
      · obtain ⟨h1, h2⟩ := firstPureL_spec h
        exact ⟨List.mem_cons_of_mem _ h1, h2⟩
    · obtain ⟨h1, h2⟩ := firstPureL_spec h
      exact ⟨List.mem_cons_of_mem _ h1, h2⟩
theorem load_exact (hX : XOk P X) {o : Oper} (hl : isLoad o = true) (h : Rel E β O S a w) {S' : St} (e : (opA X real Y ops S o).val = some S') :
    ∃ u x, S' = setDst S o.dst x ∧ RAV w (Mof E β O S.σ) (envOf β S.σ) x u ∧ YAt P ops o u a w := by
  unfold isLoad at hl
  split at hl
  · rename_i t ad ho
    split at hl
    · rename_i hg
      unfold opA at e
      rw [val_do] at e
      obtain ⟨tt, h1, e⟩ := some_bind e
      have hw := wantA_sound h h1
      have ht : tt = true := by
        unfold wantA at h1
        rw [hg] at h1
        exact (Option.some.inj h1).symm
      subst ht
      have hc : isCall o = none := by unfold isCall; rw [ho]
      simp only [hc] at e
      unfold stepOp at e
      simp only [ho] at e
      rw [val_do] at e
      obtain ⟨y, hy, e⟩ := some_bind e
      rw [val_do] at e
      obtain ⟨av, h2, e⟩ := some_bind e
      rw [val_do] at e
      obtain ⟨x, h3, e⟩ := some_bind e
      simp only [val_ok, Option.some.injEq] at e
      obtain ⟨u, r1, r2⟩ := loadA_sound (P := P) hX (typ_some hy) h (evalO_sound h h2) h3
      refine ⟨u, x, e.symm, r2, hw, ?_⟩
      simp only [execOp, ho]
      exact run_v r1
    · cases hl
  · cases hl

theorem chkL_sound (hX : XOk P X) (h : Rel E β O S a w) {H : AV → St → Prop} {L' N : List Nat → St → Prop} {k : Out} : ∀ {L : List (Nat × AV)} {V : List (Oper × Value)},
    Early ops L V → (chkL X real Y ops L S k).holds H L' N → (∀ p ∈ V, YAt P ops p.1 p.2 a w) ∧ k.holds H L' N
  | _, _, .nil, hh => ⟨fun _ hp => (nomatch hp), hh⟩
  | _, _, .cons (L := L) (V := V) o1 o2 o3 hf, hh => by
    unfold chkL at hh
    rw [o1] at hh
    dsimp only at hh
    obtain ⟨Sj, e1, hh⟩ := R.out_holds hh
    obtain ⟨u, x', rfl, r1, r2⟩ := load_exact hX o2 h e1
    split at hh
    · rename_i d hd
      rw [hd, lk_setDst_self] at hh
      dsimp only at hh
      have hx2 := hh.1
      have hh2 := hh.2
      subst hx2
      have hu := scV_sound r1 o3
      subst hu
      obtain ⟨q1, q2⟩ := chkL_sound hX h hf hh2
      refine ⟨fun q hq => ?_, q2⟩
      rcases List.mem_cons.1 hq with rfl | hq
      · exact r2
      · exact q1 q hq
    · exact hh.elim

theorem firstLoad_spec {listed : Array Bool} {L : List (Nat × AV)} : ∀ {l : List Nat} {j : Nat}, firstLoad ops listed L l = some j → j ∈ l ∧ ∃ o, ops[j]? = some o ∧ earlyOk ops listed L j o = true
  | [], j, h => by cases h
  | i :: r, j, h => by
    unfold firstLoad at h
    split at h
    · rename_i o ho
      split at h
      · rename_i hp
        simp only [Option.some.injEq] at h
        subst h
        exact ⟨List.mem_cons_self, o, ho, hp⟩
      · obtain ⟨h1, h2⟩ := firstLoad_spec h
        exact ⟨List.mem_cons_of_mem _ h1, h2⟩
    · obtain ⟨h1, h2⟩ := firstLoad_spec h
      exact ⟨List.mem_cons_of_mem _ h1, h2⟩

theorem goEarly_sound (hX : XOk P X) (hY : CallsOk P Y) (hs : Region.noSelect ops = true) {n0 : Nat} (hd : ∀ (i : Nat) (o : Oper) t, ops[i]? = some o → o.dst = some t → t < n0) (hQ : ∀ c a w, ¬ Q (.panic c) a w)
    {H : AV → St → Prop} {L' N : List Nat → St → Prop} {k : St → Out} (hk : ∀ S', (k S').holds H L' N → ∀ β O a w, Rel E β O S' a w → a.tmps.size = n0 → Q .normal a w) :
    ∀ (n : Nat) (listed : Array Bool) (L : List (Nat × AV)) (V : List (Oper × Value)) (S : St) (β : Nat → Nat × Nat) (O : Nat → List Nat) (a : Act) (w : World),
      Early ops L V → Rel E β O S a w → a.tmps.size = n0 → (goEarly X real Y ops n listed L S k).holds H L' N → wpV P ops Q V n listed a w
  | 0, listed, L, V, S, β, O, a, w, hf, h, hn, hh => by
    unfold goEarly at hh
    obtain ⟨hv, hh⟩ := chkL_sound hX h hf hh
    split at hh
    · rename_i hr; exact ⟨hv, hr, hk S hh β O a w h hn⟩
    · exact hh.elim
  | n + 1, listed, L, V, S, β, O, a, w, hf, h, hn, hh => by
    unfold goEarly at hh
    obtain ⟨hv, hh⟩ := chkL_sound hX h hf hh
    have allCase : ∀ rs, Region.ready .any ops listed = rs → rs ≠ [] → (allOut (fun i => match ops[i]? with
          | some o => (opA X real Y ops S o).out fun S => goEarly X real Y ops n (listed.setIfInBounds i true) L S k
          | none => .stuck) rs).holds H L' N → wpV P ops Q V (n + 1) listed a w := by
      intro rs hr hne hall
      refine ⟨hv, fun e => absurd (hr ▸ e) hne, fun i hi => ?_⟩
      have hfi := allOut_holds hall i (hr ▸ hi)
      split at hfi
      · rename_i o ho
        obtain ⟨S1, e1, h1⟩ := R.out_holds hfi
        exact opA_sound hX hY ho h (fun t ht => by rw [hn]; exact hd i o t ho ht) e1 (fun β' O' a' w' h' hs' => goEarly_sound hX hY hs hd hQ hk n _ L V S1 β' O' a' w' hf h' (hs'.trans hn) h1)
      · exact hfi.elim
    split at hh
    · rename_i hr
      exact ⟨hv, fun _ => hk S hh β O a w h hn, by rw [hr]; simp⟩
    · rename_i hne
      split at hh
      · rename_i j hj
        obtain ⟨hm, o, ho, hp, hfr, hap⟩ := firstPureL_spec hj
        rw [ho] at hh
        obtain ⟨S1, e1, h1⟩ := R.out_holds hh
        obtain ⟨v, hy, hr⟩ := opA_pure hX hp h (fun t ht => by rw [hn]; exact hd j o t ho ht) e1
        exact wpV_take ho (Region.noSelect_spec hs) (fun c a w hq => (hQ _ _ _ hq).elim) (hf.apart hap) n listed a w (Region.free_spec ho hfr) hm hy (goEarly_sound hX hY hs hd hQ hk n _ L V S1 β O _ w hf hr ((put_size ..).trans hn) h1)
      · split at hh
        · rename_i j hj
          obtain ⟨hm, o, ho, hok⟩ := firstLoad_spec hj
          unfold earlyOk at hok
          simp only [Bool.and_eq_true] at hok
          obtain ⟨⟨⟨hl, hfr⟩, hap⟩, hself⟩ := hok
          rw [ho] at hh
          obtain ⟨Sj, e1, hh⟩ := R.out_holds hh
          obtain ⟨u, x, rfl, r1, r2⟩ := load_exact hX hl h e1
          split at hh
          · rename_i d hdst
            rw [hdst] at hself
            have hself' : ∀ t, o.dst = some t → t ∉ o.looksAt ops := fun t ht => by
              rw [hdst] at ht
              obtain rfl := Option.some.inj ht
              simpa using hself
            rw [hdst, lk_setDst_self] at hh
            dsimp only at hh
            split at hh
            · rename_i hsc
              unfold isSc at hsc
              split at hsc
              · rename_i v hvx
                have hu := scV_sound r1 hvx
                subst hu
                have hr' : Rel E β O (setDst S o.dst x) (a.put o.dst u) w := Rel.setDst h (fun t ht => by rw [hn]; exact hd j o t ho ht) r1
                rw [← hdst] at hh
                exact wpV_first ho (Region.noSelect_spec hs) (fun c a w hq => (hQ _ _ _ hq).elim) (hf.apart hap) hself' n listed a w (Region.free_spec ho hfr) hm r2
                  (goEarly_sound hX hY hs hd hQ hk n _ ((j, x) :: L) ((o, u) :: V) _ β O _ w (.cons ho hl hvx hf) hr' ((put_size ..).trans hn) hh)
              · cases hsc
            · exact allCase _ rfl hne hh
          · exact hh.elim
        · exact allCase _ rfl hne hh
theorem W_early (hX : XOk P X) (hY : CallsOk P Y) (hm : P.follows .mixedOrders = true) {n : Nat} {p q : List Nat} {id : Nat} {I : Ops} (hI : I = real)
    (hp : (start [] b p []).head? = some (.code q (.region id ops true))) (hs : Region.noSelect ops = true) (hin : codeIn fn.ntmps b = true) (hn : n = ops.size)
    (h : (goEarly X I Y ops n (Array.replicate ops.size false) [] S (fun S => .any [] S)).holds (fun _ _ => False) (fun _ _ => False) (fun _ S => W P f fn E Rr ((behind b p).map Itm.item) S)) : W P f fn E Rr (place b p []) S := by
  subst hI hn
  have hl : start [] b p [] = .code q (.region id ops true) :: behind b p := by
    unfold behind
    generalize start [] b p [] = l at hp
    cases l with
    | nil => cases hp
    | cons x l => simp only [List.head?_cons, Option.some.injEq] at hp; subst hp; rfl
  have hi := start_in (n := fn.ntmps) p [] b [] hin (fun _ h => nomatch h)
  have hpl : place b p [] = .code (.region id ops true) :: (behind b p).map Itm.item := by
    have := start_item p [] b []
    rw [hl] at this
    exact this.symm
  rw [hpl]
  intro β O a w hr hsz
  have hc : codeIn fn.ntmps (.region id ops true) = true := hi (.code q (.region id ops true)) (by rw [hl]; exact List.mem_cons_self)
  refine At.code (wp_region_any hm (wpV_nil ?_))
  refine goEarly_sound hX hY hs (n0 := fn.ntmps) ?_ (fun _ _ _ h => h) ?_ _ _ [] [] S β O a _ .nil (RelM.drew hr) hsz h
  · intro i o t ho ht
    exact opsIn_spec hc o (by have := Array.mem_of_getElem? ho; simpa using this) t ht
  · intro S' h' β' O' a' w' hr' hs'
    exact h' β' O' a' w' hr' hs'
end
end Go.Aix
