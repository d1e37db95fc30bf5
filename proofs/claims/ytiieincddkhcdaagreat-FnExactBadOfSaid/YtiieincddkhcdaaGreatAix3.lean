/-
  THE CALCULUS, SEVENTEENTH TEXT: what the machine shows is so.
-/
import Derived.Test.YtiieincddkhcdaaGreatAix2
import Derived.Orders
set_option linter.unusedSimpArgs false
set_option linter.unusedVariables false
namespace Go.Aix
section
variable {P : Program} {X : Ctx} {Y : CallsA} {f : FuncId} {fn : Func} {b : Code} {E : Ent} {R : Value → World → Prop} {β : Nat → Nat × Nat} {O : Nat → List Nat} {S : St} {a : Act} {w : World}
theorem resA1_sound (hX : XOk P X) (h : Rel E β O S a w) {r : ResultVar} {g : Bool} {cs : List Cell} (e : (resA1 X real S r).val = some (g, cs)) :
    ∃ v, (match r with | .tmp t => pure (a.tmps.getD t undef) | .cell c t => do loadVar t (← asAddr (a.tmps.getD c undef)) : Sem Value).run P w = .ok v w ∧ RG w (Mof E β O S.σ) (envOf β S.σ) g cs v := by
  unfold resA1 at e
  split at e
  · rename_i t
    rw [val_do] at e
    obtain ⟨v, hv, e⟩ := some_bind e
    rw [val_of] at hv
    obtain ⟨h1, h2⟩ := h.slots t v hv
    refine ⟨_, rfl, ?_⟩
    split at e
    · simp only [val_ok, Option.some.injEq, Prod.mk.injEq] at e
      obtain ⟨rfl, rfl⟩ := e
      cases h2 with
      | one h2 => exact ⟨_, rfl, h2⟩
    · simp only [val_ok, Option.some.injEq, Prod.mk.injEq] at e
      obtain ⟨rfl, rfl⟩ := e
      generalize a.tmps.getD t undef = u at h2
      cases h2 with
      | ag h2 => exact ⟨_, rfl, h2⟩
    · simp [val_stuck] at e
  · rename_i c t
    rw [val_do] at e
    obtain ⟨y, hy, e⟩ := some_bind e
    rw [val_do] at e
    obtain ⟨v, hv, e⟩ := some_bind e
    rw [val_of] at hv
    obtain ⟨h1, h2⟩ := h.slots c v hv
    rw [val_do] at e
    obtain ⟨x, hx, e⟩ := some_bind e
    obtain ⟨u, r1, r2⟩ := loadA_sound (P := P) hX (typ_some hy) h h2 hx
    have r1' : (do loadVar t (← asAddr (a.tmps.getD c undef)) : Sem Value).run P w = .ok u w := by
      generalize a.tmps.getD c undef = z at h2 r1
      cases h2 with
      | one h2 =>
        cases h2 <;> try (simp [loadA, val_stuck] at hx; done)
        · exact r1
        · exact r1
      | ag => simp [loadA, val_stuck] at hx
      | tp => simp [loadA, val_stuck] at hx
    refine ⟨u, r1', ?_⟩
    split at e
    · simp only [val_ok, Option.some.injEq, Prod.mk.injEq] at e
      obtain ⟨rfl, rfl⟩ := e
      cases r2 with
      | one r2 => exact ⟨_, rfl, r2⟩
    · simp only [val_ok, Option.some.injEq, Prod.mk.injEq] at e
      obtain ⟨rfl, rfl⟩ := e
      cases r2 with
      | ag r2 => exact ⟨_, rfl, r2⟩
    · simp [val_stuck] at e
theorem resAs_sound (hX : XOk P X) (h : Rel E β O S a w) : ∀ {l : List ResultVar} {vs : List (Bool × List Cell)}, (resAs X real S l).val = some vs →
    ∃ us, (l.mapM fun r => (match r with | .tmp t => pure (a.tmps.getD t undef) | .cell c t => do loadVar t (← asAddr (a.tmps.getD c undef)) : Sem Value)).run P w = .ok us w ∧ RGs w (Mof E β O S.σ) (envOf β S.σ) vs us
  | [], vs, e => by
    simp only [resAs, val_ok, Option.some.injEq] at e
    subst e
    exact ⟨[], by simp, .nil⟩
  | r :: l, vs, e => by
    simp only [resAs, val_do] at e
    obtain ⟨⟨g, cs⟩, h1, e⟩ := some_bind e
    obtain ⟨us, h2, e⟩ := some_bind e
    simp only [val_ok, Option.some.injEq] at e
    subst e
    obtain ⟨v, r1, r2⟩ := resA1_sound (P := P) hX h h1
    obtain ⟨vs, q1, q2⟩ := resAs_sound hX h h2
    refine ⟨v :: vs, ?_, .cons r2 q2⟩
    rw [List.mapM_cons]
    simp only [Sem.run_bind, r1, Result.andThen_ok, q1, Sem.run_pure]
theorem RGs.length : ∀ {M : Nat → Prop} {env : EnvT} {l : List (Bool × List Cell)} {vs : List Value}, RGs w M env l vs → l.length = vs.length
  | _, _, _, _, .nil => rfl
  | _, _, _, _, .cons _ hr => congrArg (· + 1) (RGs.length hr)
theorem resA_sound (hX : XOk P X) (h : Rel E β O S a w) {r : AV} (e : (resA X real S fn.results.toList).val = some r) : ∃ u, (results fn a.tmps).run P w = .ok u w ∧ RAV w (Mof E β O S.σ) (envOf β S.σ) r u := by
  unfold resA at e
  rw [val_do] at e
  obtain ⟨vs, h1, e⟩ := some_bind e
  obtain ⟨us, r1, r2⟩ := resAs_sound (P := P) hX h h1
  have hl := r2.length
  have run : (results fn a.tmps).run P w = .ok (if h : us.toArray.size = 1 then us.toArray[0] else .tuple us.toArray) w := by
    unfold results
    rw [Array.mapM_eq_mapM_toList]
    simp only [map_eq_pure_bind, Sem.run_bind, Sem.run_pure]
    have r1' : (fn.results.toList.mapM fun x => (match x with | .tmp t => pure (a.tmps.getD t undef) | .cell c t => do loadVar t (← asAddr (a.tmps.getD c undef)) : Sem Value)).run P w = .ok us w := r1
    erw [r1']
    rfl
  refine ⟨_, run, ?_⟩
  split at e
  · rename_i g cs
    cases r2 with
    | cons hg hr =>
      cases hr
      rename_i v
      show RAV _ _ _ r v
      cases g with
      | true =>
        obtain ⟨vs, rfl, h3⟩ := hg
        simp only [mk, val_ok, Option.some.injEq] at e
        subst e
        exact .ag h3
      | false =>
        obtain ⟨c, rfl, h3⟩ := hg
        simp only [mk, val_ok, Option.some.injEq] at e
        subst e
        exact .one h3
  · rename_i hne
    simp only [val_ok, Option.some.injEq] at e
    subst e
    have hne1 : us.length ≠ 1 := by
      intro h1
      rw [← hl] at h1
      obtain ⟨x, rfl⟩ := List.length_eq_one_iff.1 h1
      exact hne x.1 x.2 rfl
    rw [dif_neg (by simpa using hne1)]
    exact .tp (by simpa using r2)
def opsIn (n : Nat) : List Oper → Bool
  | [] => true
  | o :: r => match o.dst with
    | some t => match Nat.blt t n with
      | true => opsIn n r
      | false => false
    | none => opsIn n r
def codeIn (n : Nat) : Code → Bool
  | .region _ ops _ => opsIn n ops.toList
  | .seq x y => match codeIn n x with
    | true => codeIn n y
    | false => false
  | .cond _ x y => match codeIn n x with
    | true => codeIn n y
    | false => false
  | .block _ c => codeIn n c
  | .loop c => codeIn n c
  | _ => true
theorem opsIn_spec {n : Nat} : ∀ {l : List Oper}, opsIn n l = true → ∀ o ∈ l, ∀ t, o.dst = some t → t < n
  | [], _, o, ho => by simp at ho
  | x :: l, h, o, ho => by
    unfold opsIn at h
    intro t ht
    split at h
    · rename_i d hd
      split at h
      · rename_i hb
        rcases List.mem_cons.1 ho with rfl | ho
        · rw [hd] at ht
          obtain rfl := Option.some.inj ht
          exact Nat.le_of_ble_eq_true hb
        · exact opsIn_spec h o ho t ht
      · cases h
    · rename_i hd
      rcases List.mem_cons.1 ho with rfl | ho
      · rw [hd] at ht; cases ht
      · exact opsIn_spec h o ho t ht
def Itm.inn (n : Nat) : Itm → Prop
  | .code _ c => codeIn n c = true
  | .blk _ => True
  | .lop _ c => codeIn n c = true
theorem start_in {n : Nat} : ∀ (p q : List Nat) (c : Code) (k : List Itm), codeIn n c = true → (∀ x ∈ k, x.inn n) → ∀ x ∈ start q c p k, x.inn n
  | [], q, c, k, h, hk => by
    have : start q c [] k = .code q c :: k := by cases c <;> rfl
    rw [this]
    intro x hx
    rcases List.mem_cons.1 hx with rfl | hx
    · exact h
    · exact hk x hx
  | d :: p, q, c, k, h, hk => by
    cases c <;> simp only [start]
    case seq x y =>
      have hx : codeIn n x = true := by unfold codeIn at h; split at h <;> first | assumption | cases h
      have hy : codeIn n y = true := by unfold codeIn at h; split at h <;> first | assumption | cases h
      cases d
      · exact start_in p _ x _ hx (fun z hz => by
          rcases List.mem_cons.1 hz with rfl | hz
          · exact hy
          · exact hk z hz)
      · exact start_in p _ y _ hy hk
    case cond _ x y =>
      have hx : codeIn n x = true := by unfold codeIn at h; split at h <;> first | assumption | cases h
      have hy : codeIn n y = true := by unfold codeIn at h; split at h <;> first | assumption | cases h
      cases d
      · exact start_in p _ x _ hx hk
      · exact start_in p _ y _ hy hk
    case block => exact start_in p _ _ _ h (fun z hz => by
        rcases List.mem_cons.1 hz with rfl | hz
        · trivial
        · exact hk z hz)
    case loop => exact start_in p _ _ _ h (fun z hz => by
        rcases List.mem_cons.1 hz with rfl | hz
        · exact h
        · exact hk z hz)
    all_goals
      intro x hx
      rcases List.mem_cons.1 hx with rfl | hx
      · exact h
      · exact hk x hx
theorem exitI_sound {id : Nat} {n : Nat} : ∀ {k k' : List Itm}, exitI id k = some k' → exitTo id (k.map Itm.item) = some (k'.map Itm.item) ∧ (Good b k → Good b k') ∧ ((∀ x ∈ k, x.inn n) → ∀ x ∈ k', x.inn n)
  | [], k', h => by cases h
  | .blk id' :: k, k', h => by
    unfold exitI at h
    split at h
    · rename_i hb
      simp only [Option.some.injEq] at h
      subst h
      have := beq_eq hb
      subst this
      exact ⟨by simp [Itm.item, exitTo], fun hg => hg, fun hk x hx => hk x (List.mem_cons_of_mem _ hx)⟩
    · rename_i hb
      obtain ⟨h1, h2, h3⟩ := exitI_sound (n := n) h
      have hne : (id' == id) = false := by
        have := beq_ne hb
        simpa using this
      exact ⟨by simp [Itm.item, exitTo, hne, h1], fun hg => h2 hg, fun hk => h3 (fun x hx => hk x (List.mem_cons_of_mem _ hx))⟩
  | .code _ _ :: k, k', h => by
    obtain ⟨h1, h2, h3⟩ := exitI_sound (k := k) (n := n) h
    exact ⟨by simp [Itm.item, exitTo, h1], fun hg => h2 hg.2, fun hk => h3 (fun x hx => hk x (List.mem_cons_of_mem _ hx))⟩
  | .lop _ _ :: k, k', h => by
    obtain ⟨h1, h2, h3⟩ := exitI_sound (k := k) (n := n) h
    exact ⟨by simp [Itm.item, exitTo, h1], fun hg => h2 hg.2, fun hk => h3 (fun x hx => hk x (List.mem_cons_of_mem _ hx))⟩
def Ended (E : Ent) (R : Value → World → Prop) (r : AV) (S : St) : Prop := ∀ β O a w u, Rel E β O S a w → RAV w (Mof E β O S.σ) (envOf β S.σ) r u → R u w
theorem go_sound (hX : XOk P X) (hY : CallsOk P Y) (hf : P.funcs[f]? = some fn) : ∀ (n : Nat) (its : List Itm) (S : St), Good b its → (∀ x ∈ its, x.inn fn.ntmps) →
    (go X real Y fn.results.toList n its S).holds (Ended E R) (fun p S => W P f fn E R (place b (p ++ [0]) []) S) (fun p S => W P f fn E R (place b p []) S) → W P f fn E R (its.map Itm.item) S
  | 0, _, _, _, _, h => h.elim
  | n + 1, [], S, hg, hi, h => by
    intro β O a w hr hs
    unfold go at h
    obtain ⟨r, h1, h2⟩ := Aix.R.out_holds h
    obtain ⟨u, r1, r2⟩ := resA_sound (P := P) hX hr h1
    exact At.end hf hr.nodef r1 (h2 β O a w u hr r2)
  | n + 1, .blk id :: k, S, hg, hi, h => by
    intro β O a w hr hs
    exact At.inBlock (go_sound hX hY hf n k S hg (fun x hx => hi x (List.mem_cons_of_mem _ hx)) h β O a w hr hs)
  | n + 1, .lop p c :: k, S, hg, hi, h => by
    intro β O a w hr hs
    have h' : W P f fn E R (place b (p ++ [0]) []) S := h
    rw [place_snoc 0 p b _ [] _ hg.1] at h'
    exact At.inLoop (h' β O a w hr hs)
  | n + 1, .code p c :: k, S, hg, hi, h => by
    intro β O a w hr hs
    have hk : ∀ x ∈ k, x.inn fn.ntmps := fun x hx => hi x (List.mem_cons_of_mem _ hx)
    have hc : codeIn fn.ntmps c = true := hi _ List.mem_cons_self
    have hsn := fun d => place_snoc d p b c [] _ hg.1
    cases c with
    | skip => exact At.skip (go_sound hX hY hf n k S hg.2 hk h β O a w hr hs)
    | region id ops d =>
      cases d with
      | false =>
        unfold go at h
        simp only at h
        rcases Aix.R.outOr_holds h with ⟨S1, h1, h2⟩ | h
        · refine At.region (goOps_sound hX hY (n := fn.ntmps) ?_ hr hs h1 ?_)
          · intro i o t ho ht
            exact opsIn_spec hc o (by have := Array.mem_of_getElem? ho; simpa using this) t ht
          · intro β' O' a' w' hr' hs'
            exact go_sound hX hY hf n k S1 hg.2 hk h2 β' O' a' w' hr' hs'
        · have h' : W P f fn E R (place b p []) S := h
          rw [hg.1] at h'
          exact h' β O a w hr hs
      | true =>
        unfold go at h
        simp only at h
        split at h
        · rename_i hq
          obtain ⟨S1, h1, h2⟩ := Aix.R.out_holds h
          refine At.code (wp_region_any hY.mixed (quiet_sound hX hY hq (n0 := fn.ntmps) ?_ (hr.drew) hs h1 ?_))
          · intro i o t ho ht
            exact opsIn_spec hc o (by have := Array.mem_of_getElem? ho; simpa using this) t ht
          · intro β' O' a' w' hr' hs'
            exact go_sound hX hY hf n k S1 hg.2 hk h2 β' O' a' w' hr' hs'
        · have h' : W P f fn E R (place b p []) S := h
          rw [hg.1] at h'
          exact h' β O a w hr hs
    | seq x y =>
      have hx : codeIn fn.ntmps x = true := by unfold codeIn at hc; split at hc <;> first | assumption | cases hc
      have hy : codeIn fn.ntmps y = true := by unfold codeIn at hc; split at hc <;> first | assumption | cases hc
      refine At.seq (go_sound hX hY hf n (.code (p ++ [0]) x :: .code (p ++ [1]) y :: k) S ⟨by rw [hsn 0]; rfl, by rw [hsn 1]; rfl, hg.2⟩ ?_ h β O a w hr hs)
      intro z hz
      rcases List.mem_cons.1 hz with rfl | hz
      · exact hx
      · rcases List.mem_cons.1 hz with rfl | hz
        · exact hy
        · exact hk z hz
    | cond c x y =>
      have hx : codeIn fn.ntmps x = true := by unfold codeIn at hc; split at hc <;> first | assumption | cases hc
      have hy : codeIn fn.ntmps y = true := by unfold codeIn at hc; split at hc <;> first | assumption | cases hc
      unfold go at h
      simp only at h
      obtain ⟨v, h1, h2⟩ := Aix.R.out_holds h
      have hv := evalO_sound hr h1
      split at h2
      · rename_i t
        have hv := RAV.sc hv
        refine At.cond hv ?_
        cases t with
        | true =>
          refine go_sound hX hY hf n (.code (p ++ [0]) x :: k) S ⟨by rw [hsn 0]; rfl, hg.2⟩ ?_ (h2.1 rfl) β O a w hr hs
          intro z hz
          rcases List.mem_cons.1 hz with rfl | hz
          · exact hx
          · exact hk z hz
        | false =>
          refine go_sound hX hY hf n (.code (p ++ [1]) y :: k) S ⟨by rw [hsn 1]; rfl, hg.2⟩ ?_ (h2.2 rfl) β O a w hr hs
          intro z hz
          rcases List.mem_cons.1 hz with rfl | hz
          · exact hy
          · exact hk z hz
      · exact h2.elim
    | block id c =>
      refine At.block (go_sound hX hY hf n (.code (p ++ [0]) c :: .blk id :: k) S ⟨by rw [hsn 0]; rfl, hg.2⟩ ?_ h β O a w hr hs)
      intro z hz
      rcases List.mem_cons.1 hz with rfl | hz
      · exact hc
      · rcases List.mem_cons.1 hz with rfl | hz
        · trivial
        · exact hk z hz
    | loop c =>
      have h' : W P f fn E R (place b (p ++ [0]) []) S := h
      rw [hsn 0] at h'
      exact At.loop (h' β O a w hr hs)
    | exit id =>
      unfold go at h
      simp only at h
      split at h
      · rename_i k' hk'
        obtain ⟨e1, e2, e3⟩ := exitI_sound (b := b) (n := fn.ntmps) hk'
        exact At.exit e1 (go_sound hX hY hf n k' S (e2 hg.2) (e3 hk) h β O a w hr hs)
      · exact h.elim
    | ret =>
      unfold go at h
      simp only at h
      obtain ⟨r, h1, h2⟩ := Aix.R.out_holds h
      obtain ⟨u, r1, r2⟩ := resA_sound (P := P) hX hr h1
      exact At.ret hf hr.nodef r1 (h2 β O a w u hr r2)
    | label l => exact At.label (go_sound hX hY hf n k S hg.2 hk h β O a w hr hs)
    | _ => exact h.elim
theorem W_go (hX : XOk P X) (hY : CallsOk P Y) (hf : P.funcs[f]? = some fn) (hin : codeIn fn.ntmps b = true) (n : Nat) (p : List Nat) {I : Ops} (hI : I = real)
    (h : (go X I Y fn.results.toList n (start [] b p []) S).holds (Ended E R) (fun p S => W P f fn E R (place b (p ++ [0]) []) S) (fun p S => W P f fn E R (place b p []) S)) : W P f fn E R (place b p []) S := by
  subst hI
  have h0 : place b [] [] = .code b :: ([] : List Itm).map Itm.item := by cases b <;> rfl
  have := go_sound (b := b) hX hY hf n _ S (start_good b p [] b [] h0 trivial) (start_in p [] b [] hin (fun _ h => nomatch h)) h
  rwa [start_item] at this
end
end Go.Aix
/-
  THE CALCULUS, EIGHTEENTH TEXT: a state's chunks by other names, and only what is still wanted.
-/
namespace Go.Aix
def renC (ρ : List (Nat × Nat)) : Cell → Cell
  | .pv p => .pv p
  | .ptr c i j => match lk c ρ with
    | some d => .ptr d i j
    | none => .top
  | .arr c o n => match lk c ρ with
    | some d => .arr d o n
    | none => .top
  | .ep cs => .ep cs
  | .fn f caps => match renCaps ρ caps with
    | some caps => .fn f caps
    | none => .top
  | .top => .top
where renCaps (ρ : List (Nat × Nat)) : List (Nat × Nat × Nat) → Option (List (Nat × Nat × Nat))
  | [] => some []
  | (c, i, j) :: r => match lk c ρ with
    | some d => match renCaps ρ r with
      | some r => some ((d, i, j) :: r)
      | none => none
    | none => none
def renCs (ρ : List (Nat × Nat)) : List Cell → List Cell
  | [] => []
  | c :: r => renC ρ c :: renCs ρ r
def renGs (ρ : List (Nat × Nat)) : List (Bool × List Cell) → List (Bool × List Cell)
  | [] => []
  | (g, cs) :: r => (g, renCs ρ cs) :: renGs ρ r
def renA (ρ : List (Nat × Nat)) : AV → AV
  | .one c => .one (renC ρ c)
  | .ag cs => .ag (renCs ρ cs)
  | .tp vs => .tp (renGs ρ vs)
def renK (ρ : List (Nat × Nat)) : Chunk → Chunk
  | .box cs => .box (renCs ρ cs)
  | .row sz es => .row sz es
  | .foc sz es i cs => .foc sz es i (renCs ρ cs)
def renT (ρ : List (Nat × Nat)) (T : List (Nat × AV)) : List Nat → List (Nat × AV)
  | [] => []
  | t :: r => match lk t T with
    | some v => (t, renA ρ v) :: renT ρ T r
    | none => renT ρ T r
def renS (ρ : List (Nat × Nat)) (σ : Store) : List (Nat × Nat) → Store
  | [] => []
  | (o, n) :: r => match lk o σ with
    | some ch => (n, renK ρ ch) :: renS ρ σ r
    | none => renS ρ σ r
def ren (ρ : List (Nat × Nat)) (live : List Nat) (nx : Nat) (S : St) : St := ⟨renT ρ S.T live, renS ρ S.σ ρ, nx⟩
def notOld (o : Nat) : List (Nat × Nat) → Bool
  | [] => true
  | (o', _) :: r => match Nat.beq o o' with
    | true => false
    | false => notOld o r
def notNew (n : Nat) : List (Nat × Nat) → Bool
  | [] => true
  | (_, n') :: r => match Nat.beq n n' with
    | true => false
    | false => notNew n r
def renOk (n0 nx : Nat) : List (Nat × Nat) → Bool
  | [] => Nat.ble n0 nx
  | (o, n) :: r => match notOld o r && notNew n r && Nat.blt n nx with
    | true => match Nat.blt n n0 with
      | true => match Nat.beq o n with
        | true => renOk n0 nx r
        | false => false
      | false => renOk n0 nx r
    | false => false
def Chunk.refs : Chunk → List Cell
  | .box cs => cs
  | .row _ _ => []
  | .foc _ _ _ cs => cs
def AV.refs : AV → List Cell
  | .one c => [c]
  | .ag cs => cs
  | .tp vs => vs.flatMap (·.2)
def reach (σ : Store) : Nat → List Cell → List (Nat × Nat) → Nat → List (Nat × Nat) × Nat
  | 0, _, ρ, nx => (ρ, nx)
  | _ + 1, [], ρ, nx => (ρ, nx)
  | n + 1, x :: r, ρ, nx =>
    let visit (c : Nat) (r : List Cell) : List (Nat × Nat) × Nat := match lk c ρ with
      | some _ => reach σ n r ρ nx
      | none => match lk c σ with
        | some ch => reach σ n (ch.refs ++ r) (ρ ++ [(c, nx)]) (nx + 1)
        | none => reach σ n r ρ nx
    match x with
    | .ptr c _ _ => visit c r
    | .arr c _ _ => visit c r
    | .fn f caps => match caps with
      | [] => reach σ n r ρ nx
      | (c, _, _) :: caps => visit c (.fn f caps :: r)
    | _ => reach σ n r ρ nx
def keep (σ : Store) (n0 : Nat) : Nat → List (Nat × Nat)
  | 0 => []
  | k + 1 => match lk k σ with
    | some _ => match Nat.blt k n0 with
      | true => keep σ n0 k ++ [(k, k)]
      | false => keep σ n0 k
    | none => keep σ n0 k
def liveRefs (T : List (Nat × AV)) : List Nat → List Cell
  | [] => []
  | t :: r => match lk t T with
    | some v => v.refs ++ liveRefs T r
    | none => liveRefs T r
def keptRefs (σ : Store) : List (Nat × Nat) → List Cell
  | [] => []
  | (o, _) :: r => match lk o σ with
    | some ch => ch.refs ++ keptRefs σ r
    | none => keptRefs σ r
def norm (n0 : Nat) (live : List Nat) (S : St) : R St :=
  let k := keep S.σ n0 n0
  match reach S.σ 1000 (keptRefs S.σ k ++ liveRefs S.T live) k n0 with
  | (ρ, nx) => match renOk n0 nx ρ with
    | true => .ok (ren ρ live nx S)
    | false => .stuck
section
variable {P : Program} {X : Ctx} {Y : CallsA} {f : FuncId} {fn : Func} {b : Code} {E : Ent} {R : Value → World → Prop} {β : Nat → Nat × Nat} {O : Nat → List Nat} {S : St} {a : Act} {w : World}
  {M M' : Nat → Prop} {env env' : EnvT}
theorem renCaps_sound {ρ : List (Nat × Nat)} (he : ∀ o n, lk o ρ = some n → ∀ x, env o = some x → env' n = some x) : ∀ {l l' : List (Nat × Nat × Nat)} {vs : List Value}, CapsR env l vs → renC.renCaps ρ l = some l' → CapsR env' l' vs
  | [], l', _, h, e => by
    simp only [renC.renCaps, Option.some.injEq] at e
    subst e
    cases h
    exact .nil
  | (c, i, j) :: l, l', _, h, e => by
    unfold renC.renCaps at e
    split at e
    · rename_i d hd
      split at e
      · rename_i r hr
        simp only [Option.some.injEq] at e
        subst e
        cases h with
        | cons h1 h2 h3 => exact .cons (he _ _ hd _ h1) h2 (renCaps_sound he h3 hr)
      · cases e
    · cases e
theorem RCell.ren {ρ : List (Nat × Nat)} (t : Turn w w M M' (fun _ => False)) (he : ∀ o n, lk o ρ = some n → ∀ x, env o = some x → env' n = some x) {c : Cell} {v : Value} (h : RCell w M env c v) : RCell w M' env' (renC ρ c) v := by
  have h1 := h.oneV
  cases h with
  | pv h => exact .pv (h.turn t (fun _ _ h => h))
  | ptr h2 hi =>
    rename_i c i j b sz n N
    show RCell w M' env' (match lk c ρ with | some d => .ptr d i j | none => .top) _
    split
    · rename_i d hd; exact .ptr (he _ _ hd _ h2) hi
    · exact .top h1
  | arr h2 hm hn hc =>
    rename_i c o n b off sz m N cap
    show RCell w M' env' (match lk c ρ with | some d => .arr d o n | none => .top) _
    split
    · rename_i d hd; exact .arr (he _ _ hd _ h2) hm hn hc
    · exact .top h1
  | ep hM hb h => exact .ep (fun h' => (t.grows _ h').elim hM (fun e => by rw [hb] at e; cases e)) hb (h.turn t (fun _ _ h => h))
  | fn h2 =>
    rename_i f caps vs
    show RCell w M' env' (match renC.renCaps ρ caps with | some caps => .fn f caps | none => .top) _
    split
    · rename_i caps' hc; exact .fn (renCaps_sound he h2 hc)
    · exact .top h1
  | top h => exact .top h
theorem RCs.ren {ρ : List (Nat × Nat)} (t : Turn w w M M' (fun _ => False)) (he : ∀ o n, lk o ρ = some n → ∀ x, env o = some x → env' n = some x) : ∀ {cs : List Cell} {vs : List Value}, RCs w M env cs vs → RCs w M' env' (renCs ρ cs) vs
  | _, _, .nil => .nil
  | _, _, .cons h hr => .cons (h.ren t he) (RCs.ren t he hr)
theorem RGs.ren {ρ : List (Nat × Nat)} (t : Turn w w M M' (fun _ => False)) (he : ∀ o n, lk o ρ = some n → ∀ x, env o = some x → env' n = some x) : ∀ {l : List (Bool × List Cell)} {vs : List Value}, RGs w M env l vs → RGs w M' env' (renGs ρ l) vs
  | _, _, .nil => .nil
  | _, _, .cons (g := g) h hr => by
    refine .cons ?_ (RGs.ren t he hr)
    cases g with
    | true => obtain ⟨vs, h1, h2⟩ := h; exact ⟨vs, h1, h2.ren t he⟩
    | false => obtain ⟨c, rfl, h2⟩ := h; exact ⟨_, rfl, h2.ren t he⟩
theorem RAV.ren {ρ : List (Nat × Nat)} (t : Turn w w M M' (fun _ => False)) (he : ∀ o n, lk o ρ = some n → ∀ x, env o = some x → env' n = some x) {x : AV} {v : Value} (h : RAV w M env x v) : RAV w M' env' (renA ρ x) v := by
  cases h with
  | one h => exact .one (h.ren t he)
  | ag h => exact .ag (h.ren t he)
  | tp h => exact .tp (h.ren t he)
theorem renCs_length (ρ : List (Nat × Nat)) : ∀ cs : List Cell, (renCs ρ cs).length = cs.length
  | [] => rfl
  | c :: cs => by simp [renCs, renCs_length ρ cs]
theorem renK_sz (ρ : List (Nat × Nat)) (ch : Chunk) : (renK ρ ch).sz = ch.sz ∧ (renK ρ ch).cnt = ch.cnt := by
  cases ch with
  | box cs =>
    refine ⟨?_, rfl⟩
    show (renCs ρ cs).length = cs.length
    induction cs with
    | nil => rfl
    | cons c cs ih => simp [renCs, ih]
  | row => exact ⟨rfl, rfl⟩
  | foc => exact ⟨rfl, rfl⟩
theorem ChunkRel.ren {ρ : List (Nat × Nat)} (t : Turn w w M M' (fun _ => False)) (he : ∀ o n, lk o ρ = some n → ∀ x, env o = some x → env' n = some x) {bl N : Nat} {ch : Chunk} {Oc : List Nat} (h : ChunkRel w M env bl N ch Oc) : ChunkRel w M' env' bl N (renK ρ ch) Oc := by
  cases h with
  | box hb hN h => exact .box hb hN (h.ren t he)
  | row hb hN h => exact .row hb hN (h.turn t (fun _ _ h => h))
  | foc hb hN hi hl h1 h2 h3 => exact .foc hb hN hi (by rw [renCs_length]; exact hl) (h1.turn t (fun _ _ h => h)) (h2.ren t he) (h3.turn t (fun _ _ h => h))
def oldOf (ρ : List (Nat × Nat)) (n : Nat) : Nat := match ρ with
  | [] => 0
  | (o, n') :: r => if n = n' then o else oldOf r n
theorem notOld_spec {o : Nat} : ∀ {ρ : List (Nat × Nat)}, notOld o ρ = true → ∀ n, (o, n) ∉ ρ
  | [], _, n => by simp
  | (o', n') :: r, h, n => by
    unfold notOld at h
    split at h
    · cases h
    · rename_i hb
      intro hm
      rcases List.mem_cons.1 hm with e | hm
      · simp only [Prod.mk.injEq] at e
        exact beq_ne hb e.1
      · exact notOld_spec h n hm
theorem notNew_spec {n : Nat} : ∀ {ρ : List (Nat × Nat)}, notNew n ρ = true → ∀ o, (o, n) ∉ ρ
  | [], _, n => by simp
  | (o', n') :: r, h, o => by
    unfold notNew at h
    split at h
    · cases h
    · rename_i hb
      intro hm
      rcases List.mem_cons.1 hm with e | hm
      · simp only [Prod.mk.injEq] at e
        exact beq_ne hb e.2
      · exact notNew_spec h o hm
structure RenOk (n0 nx : Nat) (ρ : List (Nat × Nat)) : Prop where
  le : n0 ≤ nx
  lt : ∀ o n, (o, n) ∈ ρ → n < nx
  old : ∀ n, (∃ o, (o, n) ∈ ρ) → (oldOf ρ n, n) ∈ ρ
  inj : ∀ o n n', (o, n) ∈ ρ → (o, n') ∈ ρ → n = n'
  fun1 : ∀ o o' n, (o, n) ∈ ρ → (o', n) ∈ ρ → o = o'
  lkn : ∀ o n, (o, n) ∈ ρ ↔ lk o ρ = some n
  fix : ∀ o n, (o, n) ∈ ρ → n < n0 → o = n
theorem renOk_spec {n0 nx : Nat} : ∀ {ρ : List (Nat × Nat)}, renOk n0 nx ρ = true → RenOk n0 nx ρ
  | [], h => ⟨Nat.le_of_ble_eq_true h, by simp, by simp, by simp, by simp, by simp [lk], by simp⟩
  | (o, n) :: r, h => by
    unfold renOk at h
    split at h
    · rename_i hb
      simp only [Bool.and_eq_true] at hb
      obtain ⟨⟨h1, h2⟩, h3⟩ := hb
      have h3 : n < nx := Nat.le_of_ble_eq_true h3
      have hr : renOk n0 nx r = true ∧ (n < n0 → o = n) := by
        split at h
        · split at h
          · rename_i hb; exact ⟨h, fun _ => beq_eq hb⟩
          · cases h
        · rename_i hb
          refine ⟨h, fun hlt => ?_⟩
          have : Nat.blt n n0 = true := Nat.ble_eq_true_of_le hlt
          rw [this] at hb; cases hb
      have ih := renOk_spec hr.1
      have n1 := notOld_spec h1
      have n2 := notNew_spec h2
      refine ⟨ih.le, ?_, ?_, ?_, ?_, ?_, ?_⟩
      · intro o' n' hm
        rcases List.mem_cons.1 hm with e | hm
        · simp only [Prod.mk.injEq] at e; omega
        · exact ih.lt o' n' hm
      · rintro n' ⟨o', hm⟩
        unfold oldOf
        split
        · rename_i e; subst e; exact List.mem_cons_self
        · rename_i hne
          rcases List.mem_cons.1 hm with e | hm
          · simp only [Prod.mk.injEq] at e; exact absurd e.2 hne
          · exact List.mem_cons_of_mem _ (ih.old n' ⟨o', hm⟩)
      · intro o' a b ha hb
        rcases List.mem_cons.1 ha with e | ha'
        · rcases List.mem_cons.1 hb with e' | hb'
          · simp only [Prod.mk.injEq] at e e'; omega
          · simp only [Prod.mk.injEq] at e; rw [e.1] at hb'; exact absurd hb' (n1 _)
        · rcases List.mem_cons.1 hb with e' | hb'
          · simp only [Prod.mk.injEq] at e'; rw [e'.1] at ha'; exact absurd ha' (n1 _)
          · exact ih.inj o' a b ha' hb'
      · intro a b n' ha hb
        rcases List.mem_cons.1 ha with e | ha'
        · rcases List.mem_cons.1 hb with e' | hb'
          · simp only [Prod.mk.injEq] at e e'; omega
          · simp only [Prod.mk.injEq] at e; rw [e.2] at hb'; exact absurd hb' (n2 _)
        · rcases List.mem_cons.1 hb with e' | hb'
          · simp only [Prod.mk.injEq] at e'; rw [e'.2] at ha'; exact absurd ha' (n2 _)
          · exact ih.fun1 a b n' ha' hb'
      · intro o' n'
        unfold lk
        cases hb : Nat.beq o' o with
        | true =>
          have := beq_eq hb
          subst this
          simp only [Option.some.injEq]
          constructor
          · intro hm
            rcases List.mem_cons.1 hm with e | hm
            · simp only [Prod.mk.injEq] at e; exact e.2.symm
            · exact absurd hm (n1 _)
          · rintro rfl; exact List.mem_cons_self
        | false =>
          simp only
          rw [← ih.lkn o' n']
          constructor
          · intro hm
            rcases List.mem_cons.1 hm with e | hm
            · simp only [Prod.mk.injEq] at e; exact absurd e.1 (beq_ne hb)
            · exact hm
          · exact List.mem_cons_of_mem _
      · intro o' n' hm hlt
        rcases List.mem_cons.1 hm with e | hm
        · simp only [Prod.mk.injEq] at e; obtain ⟨rfl, rfl⟩ := e; exact hr.2 hlt
        · exact ih.fix o' n' hm hlt
    · cases h
theorem renS_lk {ρ' : List (Nat × Nat)} {σ : Store} : ∀ {ρ : List (Nat × Nat)} {n : Nat} {x : Chunk}, lk n (renS ρ' σ ρ) = some x → ∃ o ch, (o, n) ∈ ρ ∧ lk o σ = some ch ∧ x = renK ρ' ch
  | [], n, x, h => by simp [renS, lk] at h
  | (o, m) :: r, n, x, h => by
    unfold renS at h
    split at h
    · rename_i ch hch
      unfold lk at h
      cases hb : Nat.beq n m with
      | true =>
        rw [hb] at h
        simp only [Option.some.injEq] at h
        have := beq_eq hb
        subst this
        exact ⟨o, ch, List.mem_cons_self, hch, h.symm⟩
      | false =>
        rw [hb] at h
        obtain ⟨o', ch', h1, h2, h3⟩ := renS_lk h
        exact ⟨o', ch', List.mem_cons_of_mem _ h1, h2, h3⟩
    · obtain ⟨o', ch', h1, h2, h3⟩ := renS_lk h
      exact ⟨o', ch', List.mem_cons_of_mem _ h1, h2, h3⟩
theorem renS_has {ρ' : List (Nat × Nat)} {σ : Store} {o n : Nat} {ch : Chunk} (ho : lk o σ = some ch) : ∀ {ρ : List (Nat × Nat)}, (o, n) ∈ ρ → ∃ x, lk n (renS ρ' σ ρ) = some x
  | [], h => by simp at h
  | (o', m) :: r, h => by
    unfold renS
    rcases List.mem_cons.1 h with e | h
    · simp only [Prod.mk.injEq] at e
      obtain ⟨rfl, rfl⟩ := e
      rw [ho]
      simp [lk]
    · split
      · unfold lk
        split
        · exact ⟨_, rfl⟩
        · exact renS_has ho h
      · exact renS_has ho h
theorem renT_lk {ρ : List (Nat × Nat)} {T : List (Nat × AV)} : ∀ {live : List Nat} {t : Nat} {x : AV}, lk t (renT ρ T live) = some x → ∃ v, lk t T = some v ∧ x = renA ρ v
  | [], t, x, h => by simp [renT, lk] at h
  | s :: r, t, x, h => by
    unfold renT at h
    split at h
    · rename_i v hv
      unfold lk at h
      cases hb : Nat.beq t s with
      | true =>
        rw [hb] at h
        simp only [Option.some.injEq] at h
        have := beq_eq hb
        subst this
        exact ⟨v, hv, h.symm⟩
      | false =>
        rw [hb] at h
        exact renT_lk h
    · exact renT_lk h
theorem Rel.ren (h : Rel E β O S a w) {ρ : List (Nat × Nat)} {live : List Nat} {nx : Nat} (hr : renOk E.n0 nx ρ = true) : ∃ β' O', Rel E β' O' (ren ρ live nx S) a w ∧
    (∀ {x : AV} {v : Value}, RAV w (Mof E β O S.σ) (envOf β S.σ) x v → RAV w (Mof E β' O' (Aix.ren ρ live nx S).σ) (envOf β' (Aix.ren ρ live nx S).σ) (renA ρ x) v) := by
  have ok := renOk_spec hr
  have lkS : ∀ n x, lk n (renS ρ S.σ ρ) = some x → ∃ ch, (oldOf ρ n, n) ∈ ρ ∧ lk (oldOf ρ n) S.σ = some ch ∧ x = renK ρ ch := by
    intro n x hx
    obtain ⟨o, ch, h1, h2, h3⟩ := renS_lk hx
    have ho := ok.old n ⟨o, h1⟩
    have := ok.fun1 _ _ _ h1 ho
    subst this
    exact ⟨ch, ho, h2, h3⟩
  have hM : ∀ b, Mof E (fun n => β (oldOf ρ n)) (fun n => O (oldOf ρ n)) (renS ρ S.σ ρ) b → Mof E β O S.σ b := by
    rintro b (hx | ⟨c, x, hc, e⟩)
    · exact .inl hx
    · obtain ⟨ch, h1, h2, _⟩ := lkS c x hc
      exact .inr ⟨_, ch, h2, e⟩
  have t : Turn w w (Mof E β O S.σ) (Mof E (fun n => β (oldOf ρ n)) (fun n => O (oldOf ρ n)) (renS ρ S.σ ρ)) (fun _ => False) := ⟨fun _ _ _ h => h, fun _ h => h.elim, fun b hb => .inl (hM b hb)⟩
  have he : ∀ o n, lk o ρ = some n → ∀ x, envOf β S.σ o = some x → envOf (fun n => β (oldOf ρ n)) (renS ρ S.σ ρ) n = some x := by
    intro o n hon x hx
    have hm := (ok.lkn o n).2 hon
    unfold envOf at *
    obtain ⟨ch, hch, hx⟩ := Option.map_eq_some_iff.1 hx
    obtain ⟨y, hy⟩ := renS_has (ρ' := ρ) hch hm
    obtain ⟨ch', h1, h2, h3⟩ := lkS n y hy
    have := ok.fun1 _ _ _ hm h1
    rw [← this] at h2
    rw [hch] at h2
    obtain rfl := Option.some.inj h2
    rw [hy, h3, Option.map_some, (renK_sz ρ ch).1, (renK_sz ρ ch).2]
    show some ((β (oldOf ρ n)).1, ch.sz, ch.cnt, (β (oldOf ρ n)).2) = some x
    rw [← this, hx]
  refine ⟨fun n => β (oldOf ρ n), fun n => O (oldOf ρ n), ⟨?_, ?_, h.nodef⟩, fun hv => hv.ren t he⟩
  · constructor
    · intro c x hc
      obtain ⟨ch, h1, h2, _⟩ := lkS c x hc
      exact ok.lt _ _ h1
    · intro c x hc
      obtain ⟨ch, h1, h2, rfl⟩ := lkS c x hc
      exact (h.mem.chunk _ ch h2).ren t he
    · intro c x hc
      obtain ⟨ch, h1, h2, rfl⟩ := lkS c x hc
      exact h.mem.nodup _ ch h2
    · intro c d x y hc hd hne
      obtain ⟨ch, h1, h2, _⟩ := lkS c x hc
      obtain ⟨dh, h3, h4, _⟩ := lkS d y hd
      exact h.mem.disj _ _ ch dh h2 h4 (fun e => hne (ok.inj _ _ _ h1 (e ▸ h3)))
    · intro c x hc
      obtain ⟨ch, h1, h2, rfl⟩ := lkS c x hc
      exact h.mem.own _ ch h2
    · exact h.mem.os
    · exact h.mem.tape
    · exact h.mem.output
    · exact h.mem.size
    · exact h.mem.frame
    · exact h.mem.xlt
    · exact ok.le
    · intro c x hlt hc
      obtain ⟨ch, h1, h2, _⟩ := lkS c x hc
      have := ok.fix _ _ h1 hlt
      show β (oldOf ρ c) = _
      rw [this]
      rw [this] at h2
      exact h.mem.fix c ch hlt h2
  · intro q av hq
    obtain ⟨v, h1, rfl⟩ := renT_lk hq
    obtain ⟨g1, g2⟩ := h.slots q v h1
    exact ⟨g1, g2.ren t he⟩
theorem norm_sound {n0 : Nat} {live : List Nat} {S' : St} (e : (norm n0 live S).val = some S') : ∃ ρ nx, renOk n0 nx ρ = true ∧ S' = ren ρ live nx S := by
  unfold norm at e
  generalize hz : reach S.σ 1000 (keptRefs S.σ (keep S.σ n0 n0) ++ liveRefs S.T live) (keep S.σ n0 n0) n0 = z at e
  simp only [hz] at e
  split at e
  · rename_i hr
    simp only [val_ok, Option.some.injEq] at e
    exact ⟨z.1, z.2, hr, e.symm⟩
  · simp [val_stuck] at e
theorem W_norm (live : List Nat) {k : List Item} {S' : St} (e : (norm E.n0 live S).val = some S') (h : W P f fn E R k S') : W P f fn E R k S := by
  intro β O a w hr hs
  obtain ⟨ρ, nx, h1, rfl⟩ := norm_sound e
  obtain ⟨β', O', h2, _⟩ := hr.ren (live := live) h1
  exact h β' O' a w h2 hs
end
end Go.Aix
/-
  THE CALCULUS, NINETEENTH TEXT: what is shown of a function, and what its callers have of it.
-/
namespace Go.Aix
def Ent0 (w : World) (Xs : Nat → Prop) : Ent := ⟨w, Xs, fun _ => False, 0, fun _ => (0, 0)⟩
def Ok0 (P : Program) (g : FuncId) (args : List AV) (r : AV) (σ : Store) (n : Nat) : Prop :=
  ∀ (w : World) (Xs : Nat → Prop) (vs : List Value), (∀ b, Xs b → b < w.heap.size) → RAVs w Xs (fun _ => none) args vs →
    Calls P g vs.toArray w fun
      | .returned u, w' => ∃ β O, Mem (Ent0 w Xs) β O σ n w' ∧ RAV w' (Mof (Ent0 w Xs) β O σ) (envOf β σ) r u
      | _, _ => False
def argT : Nat → List AV → List (Nat × AV)
  | _, [] => []
  | k, x :: r => (k, x) :: argT (k + 1) r
def S0 (args : List AV) : St := ⟨argT 0 args, [], 0⟩
def lenA0 : List AV → Nat
  | [] => 0
  | _ :: r => lenA0 r + 1
def endR (r : AV) (S : St) : R (AV × Store × Nat) := match reach S.σ 1000 r.refs [] 0 with
  | (ρ, nx) => match renOk 0 nx ρ with
    | true => .ok (renA ρ r, renS ρ S.σ ρ, nx)
    | false => .stuck
section
variable {P : Program} {X : Ctx} {Y : CallsA} {f : FuncId} {fn : Func} {b : Code} {E : Ent} {Rr : Value → World → Prop} {β : Nat → Nat × Nat} {O : Nat → List Nat} {S : St} {a : Act} {w : World}
  {M M' : Nat → Prop} {env env' : EnvT}
def Back (E : Ent) (r : AV) (σ : Store) (n : Nat) (u : Value) (w : World) : Prop := ∃ β O, Mem E β O σ n w ∧ RAV w (Mof E β O σ) (envOf β σ) r u
theorem Ended_of {r r' : AV} {σ : Store} {n : Nat} (h0 : E.n0 = 0) (e : (endR r S).val = some (r', σ, n)) : Ended E (Back E r' σ n) r S := by
  intro β O a w u h hr
  unfold endR at e
  generalize hz : reach S.σ 1000 r.refs [] 0 = z at e
  simp only at e
  split at e
  · rename_i hok
    simp only [val_ok, Option.some.injEq, Prod.mk.injEq] at e
    obtain ⟨rfl, rfl, rfl⟩ := e
    obtain ⟨β', O', h1, h2⟩ := h.ren (live := []) (by rw [h0]; exact hok)
    exact ⟨β', O', h1.mem, h2 hr⟩
  · simp [val_stuck] at e
theorem argT_lk : ∀ {l : List AV} {k t : Nat} {x : AV}, lk t (argT k l) = some x → k ≤ t ∧ l[t - k]? = some x
  | [], k, t, x, h => by simp [argT, lk] at h
  | y :: l, k, t, x, h => by
    unfold argT lk at h
    cases hb : Nat.beq t k with
    | true =>
      rw [hb] at h
      have := beq_eq hb
      subst this
      simp only [Option.some.injEq] at h
      subst h
      exact ⟨Nat.le_refl _, by simp⟩
    | false =>
      rw [hb] at h
      obtain ⟨h1, h2⟩ := argT_lk h
      refine ⟨by omega, ?_⟩
      rw [show t - k = (t - (k + 1)) + 1 from by omega, List.getElem?_cons_succ]
      exact h2
theorem RAVs.get : ∀ {l : List AV} {vs : List Value}, RAVs w M env l vs → ∀ (i : Nat) (x : AV), l[i]? = some x → ∃ v, vs[i]? = some v ∧ RAV w M env x v
  | _, _, .nil, i, x, hx => by simp at hx
  | _, _, .cons h hr, 0, x, hx => by
    simp only [List.getElem?_cons_zero, Option.some.injEq] at hx
    subst hx
    exact ⟨_, rfl, h⟩
  | _, _, .cons h hr, i + 1, x, hx => by
    simp only [List.getElem?_cons_succ] at hx ⊢
    exact RAVs.get hr i x hx
theorem RAVs.length : ∀ {l : List AV} {vs : List Value}, RAVs w M env l vs → l.length = vs.length
  | _, _, .nil => rfl
  | _, _, .cons _ hr => congrArg (· + 1) (RAVs.length hr)
theorem lenA0_eq : ∀ (l : List AV), lenA0 l = l.length
  | [] => rfl
  | _ :: l => by simp [lenA0, lenA0_eq l]
theorem Ok0_of {args : List AV} {r : AV} {σ : Store} {n : Nat} (hf : P.funcs[f]? = some fn) (hb : fn.body = some b) (hn : Nat.ble (lenA0 args) fn.ntmps = true)
    (h : ∀ w Xs, W P f fn (Ent0 w Xs) (Back (Ent0 w Xs) r σ n) (place b [] []) (S0 args)) : Ok0 P f args r σ n := by
  intro w Xs vs hX hv
  have hl := hv.length
  rw [lenA0_eq] at hn
  have hn := Nat.le_of_ble_eq_true hn
  have hm : Mem (Ent0 w Xs) (fun _ => (0, 0)) (fun _ => []) [] 0 w := by
    refine ⟨?_, ?_, ?_, ?_, ?_, rfl, rfl, rfl, Nat.le_refl _, fun _ _ _ => rfl, hX, Nat.le_refl _, ?_⟩ <;> (intros; simp [lk] at *)
  have hM : ∀ b, Mof (Ent0 w Xs) (fun _ => (0, 0)) (fun _ => []) [] b ↔ Xs b := by
    intro b
    constructor
    · rintro (h | ⟨c, ch, hc, _⟩)
      · exact h
      · simp [lk] at hc
    · exact fun h => .inl h
  have t : Turn w w Xs (Mof (Ent0 w Xs) (fun _ => (0, 0)) (fun _ => []) []) (fun _ => False) := ⟨fun _ _ _ h => h, fun _ h => h.elim, fun b hb => .inl ((hM b).1 hb)⟩
  have hsz : (vs.toArray ++ Array.replicate (fn.ntmps - vs.toArray.size) undef).size = fn.ntmps := by simp; omega
  have hR : Rel (Ent0 w Xs) (fun _ => (0, 0)) (fun _ => []) (S0 args) { tmps := vs.toArray ++ Array.replicate (fn.ntmps - vs.toArray.size) undef, defers := [] } w := by
    refine ⟨hm, ?_, rfl⟩
    intro q av hq
    obtain ⟨_, h2⟩ := argT_lk hq
    rw [Nat.sub_zero] at h2
    obtain ⟨v, h3, h4⟩ := hv.get q av h2
    have hlt : q < vs.length := (List.getElem?_eq_some_iff.1 h3).1
    refine ⟨by rw [hsz]; omega, ?_⟩
    have : (vs.toArray ++ Array.replicate (fn.ntmps - vs.toArray.size) undef).getD q undef = v := by
      have h5 : (vs.toArray ++ Array.replicate (fn.ntmps - vs.toArray.size) undef)[q]? = some v := by
        rw [Array.getElem?_append_left (by simpa using hlt)]
        simpa using h3
      rw [Array.getD_eq_getD_getElem?, h5]; rfl
    show RAV w _ _ av _
    rw [this]
    exact h4.turn t (fun _ _ h => by cases h)
  have hat := h w Xs _ _ _ w hR hsz
  intro cs
  obtain ⟨v, w', fr, hB, hs, h1, h2⟩ := hat cs
  have hp : place b [] [] = [.code b] := by cases b <;> rfl
  have henter : Frame.enter P f vs.toArray .normal = (base f).at { tmps := vs.toArray ++ Array.replicate (fn.ntmps - vs.toArray.size) undef, defers := [] } [.code b] := by
    simp [Frame.enter, Frame.at, hf, hb, base]
  rw [hp] at hs
  rw [henter]
  exact ⟨.returned v, w', fr, hB, hs, h1, h2⟩
structure Grown (w w' : World) : Prop where
  same : ∀ b, b < w.heap.size → w'.heap[b]? = w.heap[b]?
  size : w.heap.size ≤ w'.heap.size
  os : w'.os = w.os
  tape : w'.tape = w.tape
  output : w'.output = w.output
theorem Grown.blk {w' : World} (g : Grown w w') {b : Nat} {l : List Value} (h : blk w b = some l) : blk w' b = some l := by
  have := blk_lt h
  unfold Aix.blk at *
  rw [g.same b this]; exact h
theorem Grown.heap {w' : World} (g : Grown w w') {b : Nat} {o : Obj} (h : w.heap[b]? = some o) : w'.heap[b]? = some o := by
  rcases Nat.lt_or_ge b w.heap.size with h' | h'
  · rw [g.same b h']; exact h
  · rw [Array.getElem?_eq_none h'] at h; cases h
theorem Mof_lt {M : Nat → Prop} {σ : Store} {next : Nat} (h : MemM M E β O σ next w) {b : Nat} (hb : Mof E β O σ b) : b < w.heap.size := by
  rcases hb with hX | ⟨c, x, hc, e⟩
  · exact Nat.lt_of_lt_of_le (h.xlt b hX) h.size
  · exact (h.chunk c x hc).lt _ e
theorem Grown.of {w' : World} {Xs : Nat → Prop} {σ : Store} {n : Nat} (h : Mem (Ent0 w Xs) β O σ n w') : Grown w w' :=
  ⟨fun b hb => h.frame b hb (fun h => h), h.size, h.os, h.tape, h.output⟩
theorem Rel.grown {w' : World} (h : Rel E β O S a w) (g : Grown w w') : Rel E β O S a w' := by
  have t : Turn w w' (Mof E β O S.σ) (Mof E β O S.σ) (fun _ => False) := ⟨fun b o _ h => by
    rcases Nat.lt_or_ge b w.heap.size with h' | h'
    · rw [g.same b h']; exact h
    · rw [Array.getElem?_eq_none h'] at h; exact (nomatch h), fun _ h => h.elim, fun _ h => .inl h⟩
  refine ⟨⟨h.mem.keys, ?_, h.mem.nodup, h.mem.disj, h.mem.own, g.os.trans h.mem.os, g.tape.trans h.mem.tape, g.output.trans h.mem.output, Nat.le_trans h.mem.size g.size, ?_, h.mem.xlt, h.mem.nxt, h.mem.fix⟩, ?_, h.nodef⟩
  · intro c ch hc
    exact (h.mem.chunk c ch hc).turn t (fun _ _ h => h) (fun _ _ h => h) (g.same _ ((h.mem.chunk c ch hc).lt _ List.mem_cons_self))
  · intro b hb hz
    rw [g.same b (Nat.lt_of_lt_of_le hb h.mem.size)]
    exact h.mem.frame b hb hz
  · intro k av hk
    obtain ⟨h1, h2⟩ := h.slots k av hk
    exact ⟨h1, h2.turn t (fun _ _ h => h)⟩
def viewC (I : Ops) (S : St) : Cell → R Cell
  | .pv p => .ok (.pv p)
  | .arr c o n => match lk c S.σ with
    | some (.row sz es) => .ok (.pv (.sl false sz (I.downs (I.ext es o n))))
    | _ => .stuck
  | .ep cs => .ok (.ep cs)
  | .fn f caps => match caps with
    | [] => .ok (.fn f [])
    | _ => .stuck
  | _ => .stuck
def viewCs (I : Ops) (S : St) : List Cell → R (List Cell)
  | [] => .ok []
  | c :: r => do
    let c ← viewC I S c
    let r ← viewCs I S r
    .ok (c :: r)
def viewA (I : Ops) (S : St) : AV → R AV
  | .one c => do
    let c ← viewC I S c
    .ok (.one c)
  | .ag cs => do
    let cs ← viewCs I S cs
    .ok (.ag cs)
  | .tp _ => .stuck
def viewAs (I : Ops) (S : St) : List AV → R (List AV)
  | [] => .ok []
  | c :: r => do
    let c ← viewA I S c
    let r ← viewAs I S r
    .ok (c :: r)
theorem viewC_sound (h : Rel E β O S a w) {c c' : Cell} {v : Value} (hc : RCell w (Mof E β O S.σ) (envOf β S.σ) c v) (e : (viewC real S c).val = some c') : RCell w E.X (fun _ => none) c' v := by
  have t : Turn w w (Mof E β O S.σ) E.X (fun _ => False) := ⟨fun _ _ _ h => h, fun _ h => h.elim, fun b hb => .inl (.inl hb)⟩
  unfold viewC at e
  split at e
  · simp only [val_ok, Option.some.injEq] at e
    subst e
    cases hc with
    | pv hc => exact .pv (hc.turn t (fun _ _ h => h))
  · rename_i c o n
    split at e
    · rename_i sz es hlk
      simp only [val_ok, Option.some.injEq] at e
      subst e
      cases hc with
      | arr he hm hn hcap =>
        rename_i b off sz' m N cap
        obtain ⟨ch, hc', hbb, hs, hcn, hN⟩ := envOf_some he
        rw [hlk] at hc'
        obtain rfl := Option.some.inj hc'
        have hcr := h.mem.chunk c _ hlk
        have hown := h.mem.own c _ hlk
        generalize hO : O c = Oc at hcr hown
        simp only [Chunk.sz] at hs
        simp only [Chunk.cnt] at hcn
        subst hcn hs
        cases hcr with
        | row hb' hN' hR =>
          rename_i vs ty
          obtain ⟨A, B, C, hABC, hext⟩ := hR.ext o n
          have hlen : ((es.drop o).take n).length = n := by rw [List.length_take, List.length_drop]; omega
          have hd := RLL.downs (hext.turn t (fun _ _ h => h)) (fun x hx => (hown x (List.mem_cons_of_mem _ (by rw [hABC]; simp [hx]))).1)
          refine .pv ?_
          show RPV w E.X (.sl false sz (downs ((es.drop o).take n))) _ []
          have hdl : (downs ((es.drop o).take n)).length = n := by rw [downs_length, hlen]
          rcases Nat.eq_zero_or_pos n with h0 | hpos
          · subst h0
            have : downs ((es.drop o).take 0) = [] := by simp [downs]
            rw [this]
            exact .nil
          · rcases hcap with h0 | ⟨rfl, hroom⟩
            · omega
            · have hd' := hd
              have := RPV.sh (w := w) (M := E.X) (sz := sz) (b := b) (off := o * sz) (cap := cap) (es := downs ((es.drop o).take n)) (cs := vs.toList)
                (by rw [← List.length_pos_iff, hdl]; exact hpos) (by rw [← hbb]; exact (hown _ List.mem_cons_self).1) (by rw [← hbb]; exact blk_some hb') (by rw [hdl]; exact hn) hd'
              rw [hdl] at this
              exact this
    · simp [val_stuck] at e
  · simp only [val_ok, Option.some.injEq] at e
    subst e
    cases hc with
    | ep hM hb hR => exact .ep (fun hx => hM (.inl hx)) hb (hR.turn t (fun _ _ h => h))
  · split at e
    · simp only [val_ok, Option.some.injEq] at e
      subst e
      cases hc with
      | fn hc =>
        rename_i vs
        generalize hvs : vs.toList = l at hc
        cases hc
        exact .fn (by rw [hvs]; exact .nil)
    · simp [val_stuck] at e
  · simp [val_stuck] at e
theorem viewCs_sound (h : Rel E β O S a w) : ∀ {cs cs' : List Cell} {vs : List Value}, RCs w (Mof E β O S.σ) (envOf β S.σ) cs vs → (viewCs real S cs).val = some cs' → RCs w E.X (fun _ => none) cs' vs
  | [], cs', _, hc, e => by
    cases hc
    simp only [viewCs, val_ok, Option.some.injEq] at e
    subst e
    exact .nil
  | c :: cs, cs', _, hc, e => by
    cases hc with
    | cons hc hr =>
      simp only [viewCs, val_do] at e
      obtain ⟨c1, h1, e⟩ := some_bind e
      obtain ⟨r1, h2, e⟩ := some_bind e
      simp only [val_ok, Option.some.injEq] at e
      subst e
      exact .cons (viewC_sound h hc h1) (viewCs_sound h hr h2)
theorem viewA_sound (h : Rel E β O S a w) {x x' : AV} {v : Value} (hc : RAV w (Mof E β O S.σ) (envOf β S.σ) x v) (e : (viewA real S x).val = some x') : RAV w E.X (fun _ => none) x' v := by
  unfold viewA at e
  split at e
  · rw [val_do] at e
    obtain ⟨c1, h1, e⟩ := some_bind e
    simp only [val_ok, Option.some.injEq] at e
    subst e
    cases hc with
    | one hc => exact .one (viewC_sound h hc h1)
  · rw [val_do] at e
    obtain ⟨c1, h1, e⟩ := some_bind e
    simp only [val_ok, Option.some.injEq] at e
    subst e
    cases hc with
    | ag hc => exact .ag (viewCs_sound h hc h1)
  · simp [val_stuck] at e
theorem viewAs_sound (h : Rel E β O S a w) : ∀ {cs cs' : List AV} {vs : List Value}, RAVs w (Mof E β O S.σ) (envOf β S.σ) cs vs → (viewAs real S cs).val = some cs' → RAVs w E.X (fun _ => none) cs' vs
  | [], cs', _, hc, e => by
    cases hc
    simp only [viewAs, val_ok, Option.some.injEq] at e
    subst e
    exact .nil
  | c :: cs, cs', _, hc, e => by
    cases hc with
    | cons hc hr =>
      simp only [viewAs, val_do] at e
      obtain ⟨c1, h1, e⟩ := some_bind e
      obtain ⟨r1, h2, e⟩ := some_bind e
      simp only [val_ok, Option.some.injEq] at e
      subst e
      exact .cons (viewA_sound h hc h1) (viewAs_sound h hr h2)
def bareC : Cell → Bool
  | .pv (.sc _) => true
  | .pv .nl => true
  | _ => false
def bareCs : List Cell → Bool
  | [] => true
  | c :: r => match bareC c with
    | true => bareCs r
    | false => false
def bareGs : List (Bool × List Cell) → Bool
  | [] => true
  | (_, cs) :: r => match bareCs cs with
    | true => bareGs r
    | false => false
def bareA : AV → Bool
  | .one c => bareC c
  | .ag cs => bareCs cs
  | .tp vs => bareGs vs
theorem bareC_sound {c : Cell} {v : Value} {w' : World} (hb : bareC c = true) (h : RCell w M env c v) : RCell w' M' env' c v := by
  unfold bareC at hb
  split at hb
  · cases h with
    | pv h => cases h with
      | sc h => exact .pv (.sc h)
  · cases h with
    | pv h => cases h; exact .pv .nl
  · cases hb
theorem bareCs_sound {w' : World} : ∀ {cs : List Cell} {vs : List Value}, bareCs cs = true → RCs w M env cs vs → RCs w' M' env' cs vs
  | [], _, _, h => by cases h; exact .nil
  | c :: cs, _, hb, h => by
    unfold bareCs at hb
    split at hb
    · rename_i h1
      cases h with
      | cons h hr => exact .cons (bareC_sound h1 h) (bareCs_sound hb hr)
    · cases hb
theorem bareGs_sound {w' : World} : ∀ {cs : List (Bool × List Cell)} {vs : List Value}, bareGs cs = true → RGs w M env cs vs → RGs w' M' env' cs vs
  | [], _, _, h => by cases h; exact .nil
  | (g, c) :: cs, _, hb, h => by
    unfold bareGs at hb
    split at hb
    · rename_i h1
      cases h with
      | cons h hr =>
        refine .cons ?_ (bareGs_sound hb hr)
        cases g with
        | true => obtain ⟨vs, h2, h3⟩ := h; exact ⟨vs, h2, bareCs_sound h1 h3⟩
        | false =>
          obtain ⟨x, rfl, h3⟩ := h
          exact ⟨x, rfl, bareC_sound (by unfold bareCs at h1; split at h1 <;> first | assumption | cases h1) h3⟩
    · cases hb
theorem bareA_sound {w' : World} {x : AV} {v : Value} (hb : bareA x = true) (h : RAV w M env x v) : RAV w' M' env' x v := by
  cases h with
  | one h => exact .one (bareC_sound hb h)
  | ag h => exact .ag (bareCs_sound hb h)
  | tp h => exact .tp (bareGs_sound hb h)
def callSnap (I : Ops) (F : List AV → R AV) (args : List AV) (S : St) : R (AV × St) := do
  let vs ← viewAs I S args
  let r ← F vs
  match bareA r with
  | true => .ok (r, S)
  | false => .stuck
theorem callSnap_ok {g : FuncId} {F : List AV → R AV} (hF : ∀ args r, (F args).val = some r → ∃ σ n, Ok0 P g args r σ n) {args : List AV} {r : AV} {S' : St} (e : (callSnap real F args S).val = some (r, S')) : CallOk P g args S r S' := by
  intro E β O a w vs h hv
  unfold callSnap at e
  rw [val_do] at e
  obtain ⟨us, h1, e⟩ := some_bind e
  rw [val_do] at e
  obtain ⟨r', h2, e⟩ := some_bind e
  split at e
  · rename_i hb
    simp only [val_ok, Option.some.injEq, Prod.mk.injEq] at e
    obtain ⟨rfl, rfl⟩ := e
    obtain ⟨σ, n, hok⟩ := hF _ _ h2
    refine (hok w E.X vs (fun b hb => Nat.lt_of_lt_of_le (h.mem.xlt b hb) h.mem.size) (viewAs_sound h hv h1)).mono ?_
    intro e w' he
    cases e with
    | returned u =>
      obtain ⟨β', O', m1, m2⟩ := he
      exact ⟨β, O, h.grown (Grown.of m1), bareA_sound hb m2⟩
    | panicked => exact he.elim
    | outgrown => exact he.elim
  · simp [val_stuck] at e
end
end Go.Aix
namespace Go.Aix
def tabled (P : Program) : List (Nat × TyI) → Prop
  | [] => True
  | e :: r => tyOf P e.1 = some { e.2 with kinds := [] } ∧ tabled P r
theorem tabled_lk {P : Program} : ∀ {l : List (Nat × TyI)}, tabled P l → ∀ {t : Nat} {y : TyI}, lk t l = some y → tyOf P t = some { y with kinds := [] }
  | [], _, t, y, e => by simp [lk] at e
  | (k, x) :: l, h, t, y, e => by
    unfold lk at e
    cases hb : Nat.beq t k with
    | true =>
      rw [hb] at e
      obtain rfl := Option.some.inj e
      have := beq_eq hb
      subst this
      exact h.1
    | false =>
      rw [hb] at e
      exact tabled_lk h.2 e
theorem tabled_app {P : Program} : ∀ {l r : List (Nat × TyI)}, tabled P l → tabled P r → tabled P (l ++ r)
  | [], _, _, h => h
  | _ :: _, _, h, h' => ⟨h.1, tabled_app h.2 h'⟩
end Go.Aix
/-
  THE CALCULUS, TWENTIETH TEXT: tables of what is known of functions.
-/
namespace Go.Aix
abbrev Tab := List (FuncId × Bool × (List AV → St → R (AV × St)))
def Tab.calls (l : Tab) : CallsA := ⟨fun g args S => match lk g l with
  | some y => y.2 args S
  | none => .stuck, fun g => match lk g l with
  | some y => y.1
  | none => false⟩
def EntryOk (P : Program) (g : FuncId) (y : List AV → St → R (AV × St)) : Prop := Enters P g ∧ ∀ args S r S', (y args S).val = some (r, S') → CallOk P g args S r S'
def TabOk (P : Program) : Tab → Prop
  | [] => True
  | e :: r => EntryOk P e.1 e.2.2 ∧ (e.2.1 = true → Quiet e.2.2) ∧ TabOk P r
section
variable {P : Program} {w : World} {M : Nat → Prop} {env : EnvT}
theorem TabOk.lk : ∀ {l : Tab}, TabOk P l → ∀ {g : FuncId} {y : Bool × (List AV → St → R (AV × St))}, Aix.lk g l = some y → EntryOk P g y.2 ∧ (y.1 = true → Quiet y.2)
  | [], _, g, y, e => by simp [Aix.lk] at e
  | (k, x) :: l, h, g, y, e => by
    unfold Aix.lk at e
    cases hb : Nat.beq g k with
    | true =>
      rw [hb] at e
      obtain rfl := Option.some.inj e
      have := beq_eq hb
      subst this
      exact ⟨h.1, h.2.1⟩
    | false =>
      rw [hb] at e
      exact TabOk.lk h.2.2 e
theorem TabOk.calls {l : Tab} (hm : P.follows .mixedOrders = true) (h : TabOk P l) : CallsOk P l.calls := by
  refine ⟨?_, ?_, hm⟩
  · intro g args S r S' e
    unfold Tab.calls at e
    simp only at e
    split at e
    · rename_i y hy
      have := (h.lk hy).1
      exact ⟨this.1, this.2 args S r S' e⟩
    · simp [val_stuck] at e
  · intro g hg
    unfold Tab.calls at hg ⊢
    simp only at hg ⊢
    split at hg
    · rename_i y hy
      have := (h.lk hy).2 hg
      exact this
    · cases hg
inductive Arg : AV → AV → Prop
  | same (x : AV) : Arg x x
  | sl {sz : Nat} {p : PV} (h : isSl sz p = true) : Arg (.one (.pv p)) (.one (.pv (.sl false sz (els p))))
inductive Args : List AV → List AV → Prop
  | nil : Args [] []
  | cons {x y : AV} {l r : List AV} (h : Arg x y) (hr : Args l r) : Args (x :: l) (y :: r)
theorem Arg.sound {x y : AV} {v : Value} (h : Arg x y) (hv : RAV w M env x v) : RAV w M env y v := by
  cases h with
  | same => exact hv
  | sl hp => cases hv with
    | one hv => cases hv with
      | pv hv => exact .one (.pv (hv.asSl hp))
theorem Args.sound : ∀ {l r : List AV} {vs : List Value}, Args l r → RAVs w M env l vs → RAVs w M env r vs
  | _, _, _, .nil, h => h
  | _, _, _, .cons h hr, .cons h' hr' => .cons (h.sound h') (Args.sound hr hr')
theorem Ok0.args {g : FuncId} {l l' : List AV} {r : AV} {σ : Store} {n : Nat} (h : Ok0 P g l' r σ n) (ha : Args l l') : Ok0 P g l r σ n :=
  fun w Xs vs hX hv => h w Xs vs hX (ha.sound hv)
def bodyOf (fn : Func) : Code := match fn.body with
  | some c => c
  | none => .skip
def hasBody (fn : Func) : Bool := match fn.body with
  | some _ => true
  | none => false
theorem bodyOf_eq {fn : Func} (h : hasBody fn = true) : fn.body = some (bodyOf fn) := by
  unfold hasBody at h
  unfold bodyOf
  split at h
  · rename_i c hc; rw [hc]
  · cases h
theorem Ok0_run {X : Ctx} {Y : CallsA} {f : FuncId} {fn : Func} {args : List AV} {r : AV} {σ : Store} {n : Nat} (hX : XOk P X) (hY : CallsOk P Y) (hf : P.funcs[f]? = some fn) (hb : hasBody fn = true) (hn : Nat.ble (lenA0 args) fn.ntmps = true) (hin : codeIn fn.ntmps (bodyOf fn) = true) (k : Nat) {I : Ops} (hI : I = real)
    (h : ∀ w Xs, (go X I Y fn.results.toList k (start [] (bodyOf fn) [] []) (S0 args)).holds (Ended (Ent0 w Xs) (Back (Ent0 w Xs) r σ n)) (fun p S => W P f fn (Ent0 w Xs) (Back (Ent0 w Xs) r σ n) (place (bodyOf fn) (p ++ [0]) []) S) (fun p S => W P f fn (Ent0 w Xs) (Back (Ent0 w Xs) r σ n) (place (bodyOf fn) p []) S)) :
    Ok0 P f args r σ n :=
  Ok0_of hf (bodyOf_eq hb) hn fun w Xs => W_go hX hY hf hin k [] hI (h w Xs)
end
end Go.Aix
/-
  THE CALCULUS, TWENTY-FIRST TEXT: a call that hands back memory of its own.
-/
namespace Go.Aix
def shiftR (k : Nat) : Store → List (Nat × Nat)
  | [] => []
  | (c, _) :: r => (c, k + c) :: shiftR k r
theorem shiftR_mem {k : Nat} : ∀ {σ : Store} {o n : Nat}, (o, n) ∈ shiftR k σ → n = k + o
  | [], o, n, h => by simp [shiftR] at h
  | (c, _) :: r, o, n, h => by
    rcases List.mem_cons.1 h with e | h
    · simp only [Prod.mk.injEq] at e; omega
    · exact shiftR_mem h
theorem shiftR_lk {k : Nat} : ∀ {σ : Store} {o n : Nat}, lk o (shiftR k σ) = some n → n = k + o ∧ (o, n) ∈ shiftR k σ
  | [], o, n, h => by simp [shiftR, lk] at h
  | (c, _) :: r, o, n, h => by
    unfold shiftR lk at h
    cases hb : Nat.beq o c with
    | true =>
      rw [hb] at h
      have := beq_eq hb
      subst this
      have := Option.some.inj h
      subst this
      exact ⟨rfl, List.mem_cons_self⟩
    | false =>
      rw [hb] at h
      obtain ⟨h1, h2⟩ := shiftR_lk h
      exact ⟨h1, List.mem_cons_of_mem _ h2⟩
theorem shiftR_has {k : Nat} : ∀ {σ : Store} {o : Nat} {ch : Chunk}, lk o σ = some ch → (o, k + o) ∈ shiftR k σ
  | [], o, ch, h => by simp [lk] at h
  | (c, x) :: r, o, ch, h => by
    unfold lk at h
    cases hb : Nat.beq o c with
    | true =>
      have := beq_eq hb
      subst this
      exact List.mem_cons_self
    | false =>
      rw [hb] at h
      exact List.mem_cons_of_mem _ (shiftR_has h)
theorem lk_app {α : Type} (c : Nat) : ∀ (l r : List (Nat × α)), lk c (l ++ r) = match lk c l with
    | some x => some x
    | none => lk c r
  | [], r => rfl
  | (j, b) :: l, r => by
    simp only [List.cons_append, lk]
    cases Nat.beq c j <;> simp [lk_app c l r]
def adopt (S : St) (σ : Store) (n : Nat) : St := ⟨S.T, S.σ ++ renS (shiftR S.next σ) σ (shiftR S.next σ), S.next + n⟩
section
variable {P : Program} {E : Ent} {β β1 : Nat → Nat × Nat} {O O1 : Nat → List Nat} {S : St} {σ1 : Store} {n1 : Nat} {a : Act} {w w' : World}
theorem Rel.adopt (h : Rel E β O S a w) (h1 : Mem (Ent0 w (Mof E β O S.σ)) β1 O1 σ1 n1 w') : ∃ β' O', Rel E β' O' (adopt S σ1 n1) a w' ∧
    (∀ {r : AV} {u : Value}, RAV w' (Mof (Ent0 w (Mof E β O S.σ)) β1 O1 σ1) (envOf β1 σ1) r u → RAV w' (Mof E β' O' (Aix.adopt S σ1 n1).σ) (envOf β' (Aix.adopt S σ1 n1).σ) (renA (shiftR S.next σ1) r) u) := by
  have g := Grown.of h1
  generalize hρ : shiftR S.next σ1 = ρ
  have hσ : (Aix.adopt S σ1 n1).σ = S.σ ++ renS ρ σ1 ρ := by unfold Aix.adopt; rw [hρ]
  have hσ' : (Aix.adopt S σ1 n1).next = S.next + n1 := rfl
  have F1 : ∀ o n, (o, n) ∈ ρ → n = S.next + o := fun o n hm => shiftR_mem (hρ ▸ hm)
  have F2 : ∀ o n, lk o ρ = some n → n = S.next + o ∧ (o, n) ∈ ρ := fun o n hm => by have := shiftR_lk (hρ ▸ hm : lk o (shiftR S.next σ1) = some n); rwa [hρ] at this
  have F3 : ∀ o ch, lk o σ1 = some ch → (o, S.next + o) ∈ ρ := fun o ch hm => by have := shiftR_has (k := S.next) hm; rwa [hρ] at this
  -- what stands at a name
  have cases' : ∀ c x, lk c (S.σ ++ renS ρ σ1 ρ) = some x → (c < S.next ∧ lk c S.σ = some x) ∨ (∃ o ch, c = S.next + o ∧ lk o σ1 = some ch ∧ x = renK ρ ch) := by
    intro c x hc
    rw [lk_app] at hc
    cases e : lk c S.σ with
    | some y =>
      rw [e] at hc
      exact .inl ⟨h.mem.keys c y e, hc⟩
    | none =>
      rw [e] at hc
      obtain ⟨o, ch, m1, m2, m3⟩ := renS_lk hc
      exact .inr ⟨o, ch, F1 _ _ m1, m2, m3⟩
  have old : ∀ c x, lk c S.σ = some x → lk c (S.σ ++ renS ρ σ1 ρ) = some x := by
    intro c x hc; rw [lk_app, hc]
  have new : ∀ o ch, lk o σ1 = some ch → lk (S.next + o) (S.σ ++ renS ρ σ1 ρ) = some (renK ρ ch) := by
    intro o ch hc
    obtain ⟨x, hx⟩ := renS_has (ρ' := ρ) hc (F3 o ch hc)
    have hn : lk (S.next + o) S.σ = none := by
      cases e : lk (S.next + o) S.σ with
      | none => rfl
      | some y => have := h.mem.keys _ y e; omega
    rw [lk_app, hn]
    obtain ⟨o', ch', m1, m2, m3⟩ := renS_lk hx
    have := F1 _ _ m1
    have : o = o' := by omega
    subst this
    rw [hc] at m2
    obtain rfl := Option.some.inj m2
    rw [hx, m3]
  let β' : Nat → Nat × Nat := fun c => if c < S.next then β c else β1 (c - S.next)
  let O' : Nat → List Nat := fun c => if c < S.next then O c else O1 (c - S.next)
  have b1 : ∀ c, c < S.next → β' c = β c ∧ O' c = O c := fun c hc => ⟨if_pos hc, if_pos hc⟩
  have b2 : ∀ o, β' (S.next + o) = β1 o ∧ O' (S.next + o) = O1 o := by
    intro o
    have hn : ¬ S.next + o < S.next := by omega
    constructor
    · show (if S.next + o < S.next then _ else _) = _
      rw [if_neg hn, Nat.add_sub_cancel_left]
    · show (if S.next + o < S.next then _ else _) = _
      rw [if_neg hn, Nat.add_sub_cancel_left]
  have fresh : ∀ o ch, lk o σ1 = some ch → ∀ b ∈ (β1 o).1 :: O1 o, w.heap.size ≤ b := fun o ch ho b hb => ((h1.own o ch ho b hb).2).elim (fun hf => hf.elim) id
  have hM : ∀ b, Mof E β' O' (S.σ ++ renS ρ σ1 ρ) b ↔ Mof (Ent0 w (Mof E β O S.σ)) β1 O1 σ1 b := by
    intro b
    constructor
    · rintro (hX | ⟨c, x, hc, e⟩)
      · exact .inl (.inl hX)
      · rcases cases' c x hc with ⟨hlt, ho⟩ | ⟨o, ch, rfl, ho, _⟩
        · rw [(b1 c hlt).1, (b1 c hlt).2] at e; exact .inl (.inr ⟨c, x, ho, e⟩)
        · rw [(b2 o).1, (b2 o).2] at e; exact .inr ⟨o, ch, ho, e⟩
    · rintro ((hX | ⟨c, x, hc, e⟩) | ⟨o, ch, ho, e⟩)
      · exact .inl hX
      · exact .inr ⟨c, x, old c x hc, by rw [(b1 c (h.mem.keys c x hc)).1, (b1 c (h.mem.keys c x hc)).2]; exact e⟩
      · exact .inr ⟨_, _, new o ch ho, by rw [(b2 o).1, (b2 o).2]; exact e⟩
  have t1 : Turn w w' (Mof E β O S.σ) (Mof E β' O' (S.σ ++ renS ρ σ1 ρ)) (fun _ => False) := by
    refine ⟨fun _ _ _ hb => g.heap hb, fun _ h => h.elim, fun b hb => ?_⟩
    rcases (hM b).1 hb with hx | ⟨o, ch, ho, e⟩
    · exact .inl hx
    · refine .inr ?_
      have := fresh o ch ho b e
      unfold Aix.blk
      rw [Array.getElem?_eq_none this]
  have t2 : Turn w' w' (Mof (Ent0 w (Mof E β O S.σ)) β1 O1 σ1) (Mof E β' O' (S.σ ++ renS ρ σ1 ρ)) (fun _ => False) := ⟨fun _ _ _ h => h, fun _ h => h.elim, fun b hb => .inl ((hM b).1 hb)⟩
  have e1 : ∀ c x, envOf β S.σ c = some x → envOf β' (S.σ ++ renS ρ σ1 ρ) c = some x := by
    intro c x hc
    unfold envOf at *
    obtain ⟨ch, hch, hx⟩ := Option.map_eq_some_iff.1 hc
    rw [old c ch hch, (b1 c (h.mem.keys c ch hch)).1, Option.map_some, hx]
  have e2 : ∀ o n, lk o ρ = some n → ∀ x, envOf β1 σ1 o = some x → envOf β' (S.σ ++ renS ρ σ1 ρ) n = some x := by
    intro o n hon x hx
    obtain ⟨rfl, _⟩ := F2 o n hon
    unfold envOf at *
    obtain ⟨ch, hch, hx⟩ := Option.map_eq_some_iff.1 hx
    rw [new o ch hch, (b2 o).1, Option.map_some, (renK_sz ρ ch).1, (renK_sz ρ ch).2, hx]
  refine ⟨β', O', ⟨?_, ?_, h.nodef⟩, fun hv => by rw [hσ]; exact hv.ren t2 e2⟩
  · rw [hσ, hσ']
    constructor
    · intro c x hc
      rcases cases' c x hc with ⟨hlt, ho⟩ | ⟨o, ch, rfl, ho, _⟩
      · omega
      · have := h1.keys o ch ho; omega
    · intro c x hc
      rcases cases' c x hc with ⟨hlt, ho⟩ | ⟨o, ch, rfl, ho, rfl⟩
      · rw [(b1 c hlt).1, (b1 c hlt).2]
        exact (h.mem.chunk c x ho).turn t1 e1 (fun _ _ h => h) (g.same _ ((h.mem.chunk c x ho).lt _ List.mem_cons_self))
      · rw [(b2 o).1, (b2 o).2]
        exact (h1.chunk o ch ho).ren t2 e2
    · intro c x hc
      rcases cases' c x hc with ⟨hlt, ho⟩ | ⟨o, ch, rfl, ho, rfl⟩
      · rw [(b1 c hlt).1, (b1 c hlt).2]; exact h.mem.nodup c x ho
      · rw [(b2 o).1, (b2 o).2]; exact h1.nodup o ch ho
    · intro c d x y hc hd hne b hb
      rcases cases' c x hc with ⟨hlt, ho⟩ | ⟨o, ch, rfl, ho, rfl⟩
      · rw [(b1 c hlt).1, (b1 c hlt).2] at hb
        have hbl := (h.mem.chunk c x ho).lt b hb
        rcases cases' d y hd with ⟨hlt', ho'⟩ | ⟨o', ch', rfl, ho', rfl⟩
        · rw [(b1 d hlt').1, (b1 d hlt').2]; exact h.mem.disj c d x y ho ho' hne b hb
        · rw [(b2 o').1, (b2 o').2]
          intro hm
          have := fresh o' ch' ho' b hm
          omega
      · rw [(b2 o).1, (b2 o).2] at hb
        rcases cases' d y hd with ⟨hlt', ho'⟩ | ⟨o', ch', rfl, ho', rfl⟩
        · rw [(b1 d hlt').1, (b1 d hlt').2]
          intro hm
          have := fresh o ch ho b hb
          have := (h.mem.chunk d y ho').lt b hm
          omega
        · rw [(b2 o').1, (b2 o').2]
          exact h1.disj o o' ch ch' ho ho' (fun e => hne (by rw [e])) b hb
    · intro c x hc b hb
      rcases cases' c x hc with ⟨hlt, ho⟩ | ⟨o, ch, rfl, ho, rfl⟩
      · rw [(b1 c hlt).1, (b1 c hlt).2] at hb; exact h.mem.own c x ho b hb
      · rw [(b2 o).1, (b2 o).2] at hb
        have := fresh o ch ho b hb
        have hs := h.mem.size
        exact ⟨fun hX => by have := h.mem.xlt b hX; omega, .inr (by omega)⟩
    · exact g.os.trans h.mem.os
    · exact g.tape.trans h.mem.tape
    · exact g.output.trans h.mem.output
    · exact Nat.le_trans h.mem.size g.size
    · intro b hb hz
      rw [g.same b (Nat.lt_of_lt_of_le hb h.mem.size)]
      exact h.mem.frame b hb hz
    · exact h.mem.xlt
    · exact Nat.le_trans h.mem.nxt (Nat.le_add_right _ _)
    · intro c x hlt hc
      have hl : c < S.next := Nat.lt_of_lt_of_le hlt h.mem.nxt
      rcases cases' c x hc with ⟨_, ho⟩ | ⟨o, ch, rfl, ho, rfl⟩
      · rw [(b1 c hl).1]; exact h.mem.fix c x hlt ho
      · omega
  · intro q av hq
    obtain ⟨g1, g2⟩ := h.slots q av hq
    exact ⟨g1, by rw [hσ]; exact g2.turn t1 e1⟩
def plainC : Cell → Bool
  | .pv _ => true
  | .ep _ => true
  | .fn _ caps => match caps with
    | [] => true
    | _ => false
  | _ => false
def plainCs : List Cell → Bool
  | [] => true
  | c :: r => match plainC c with
    | true => plainCs r
    | false => false
def plainA : AV → Bool
  | .one c => plainC c
  | .ag cs => plainCs cs
  | .tp _ => false
def plainAs : List AV → Bool
  | [] => true
  | c :: r => match plainA c with
    | true => plainAs r
    | false => false
theorem plainC_sound {M : Nat → Prop} {env env' : EnvT} {c : Cell} {v : Value} (hb : plainC c = true) (h : RCell w M env c v) : RCell w M env' c v := by
  cases h with
  | pv h => exact .pv h
  | ep hM hk h => exact .ep hM hk h
  | fn h =>
    rename_i f caps vs
    cases caps with
    | nil =>
      generalize hl : vs.toList = l at h
      cases h
      exact .fn (by rw [hl]; exact .nil)
    | cons x r => cases hb
  | _ => cases hb
theorem plainCs_sound {M : Nat → Prop} {env env' : EnvT} : ∀ {cs : List Cell} {vs : List Value}, plainCs cs = true → RCs w M env cs vs → RCs w M env' cs vs
  | [], _, _, h => by cases h; exact .nil
  | c :: cs, _, hb, h => by
    unfold plainCs at hb
    split at hb
    · rename_i h1
      cases h with
      | cons h hr => exact .cons (plainC_sound h1 h) (plainCs_sound hb hr)
    · cases hb
theorem plainA_sound {M : Nat → Prop} {env env' : EnvT} {x : AV} {v : Value} (hb : plainA x = true) (h : RAV w M env x v) : RAV w M env' x v := by
  cases h with
  | one h => exact .one (plainC_sound hb h)
  | ag h => exact .ag (plainCs_sound hb h)
  | tp h => cases hb
theorem plainAs_sound {M : Nat → Prop} {env env' : EnvT} : ∀ {cs : List AV} {vs : List Value}, plainAs cs = true → RAVs w M env cs vs → RAVs w M env' cs vs
  | [], _, _, h => by cases h; exact .nil
  | c :: cs, _, hb, h => by
    unfold plainAs at hb
    split at hb
    · rename_i h1
      cases h with
      | cons h hr => exact .cons (plainA_sound h1 h) (plainAs_sound hb hr)
    · cases hb
def callPlain (F : List AV → R (AV × Store × Nat)) (args : List AV) (S : St) : R (AV × St) := match plainAs args with
  | true => do
    let (r, σ, n) ← F args
    .ok (renA (shiftR S.next σ) r, adopt S σ n)
  | false => .stuck
theorem callPlain_ok {g : FuncId} {F : List AV → R (AV × Store × Nat)} (hF : ∀ args r σ n, (F args).val = some (r, σ, n) → Ok0 P g args r σ n) {args : List AV} {r : AV} {S' : St} (e : (callPlain F args S).val = some (r, S')) : CallOk P g args S r S' := by
  intro E β O a w vs h hv
  unfold callPlain at e
  split at e
  · rename_i hp
    rw [val_do] at e
    obtain ⟨⟨r0, σ, n⟩, h2, e⟩ := some_bind e
    simp only [val_ok, Option.some.injEq, Prod.mk.injEq] at e
    obtain ⟨rfl, rfl⟩ := e
    have hXs : ∀ b, Mof E β O S.σ b → b < w.heap.size := fun b hb => Mof_lt h.mem hb
    refine (hF _ _ _ _ h2 w (Mof E β O S.σ) vs hXs (plainAs_sound hp hv)).mono ?_
    intro e w' he
    cases e with
    | returned u =>
      obtain ⟨β1, O1, m1, m2⟩ := he
      obtain ⟨β', O', k1, k2⟩ := h.adopt m1
      exact ⟨β', O', k1, k2 m2⟩
    | panicked => exact he.elim
    | outgrown => exact he.elim
  · simp [val_stuck] at e
theorem EntryOk.plain {g : FuncId} {F : List AV → R (AV × Store × Nat)} (he : Enters P g) (hF : ∀ args r σ n, (F args).val = some (r, σ, n) → Ok0 P g args r σ n) : EntryOk P g (callPlain F) :=
  ⟨he, fun _ _ _ _ e => callPlain_ok hF e⟩
end
end Go.Aix
/-
  THE CALCULUS, TWENTY-SECOND TEXT: a row that is written no more becomes a value.
-/
namespace Go.Aix
section
variable (I : Ops) (c sz : Nat) (es : List (List PV))
def iceC : Cell → Cell
  | .ptr d i j => match Nat.beq c d with
    | true => .top
    | false => .ptr d i j
  | .arr d o n => match Nat.beq c d with
    | true => .pv (.sl false sz (I.downs (I.ext es o n)))
    | false => .arr d o n
  | .fn f caps => match caps.any (fun x => Nat.beq c x.1) with
    | true => .top
    | false => .fn f caps
  | x => x
def iceA : AV → AV
  | .one x => .one (iceC I c sz es x)
  | .ag xs => .ag (xs.map (iceC I c sz es))
  | .tp vs => .tp (vs.map fun v => (v.1, v.2.map (iceC I c sz es)))
def iceK : Chunk → Chunk
  | .box cs => .box (cs.map (iceC I c sz es))
  | .row sz es => .row sz es
  | .foc sz' es' i cs => .foc sz' es' i (cs.map (iceC I c sz es))
def ice (S : St) : St := ⟨S.T.map fun e => (e.1, iceA I c sz es e.2), (rm c S.σ).map fun e => (e.1, iceK I c sz es e.2), S.next⟩
end
section
variable {P : Program} {E : Ent} {β : Nat → Nat × Nat} {O : Nat → List Nat} {S : St} {a : Act} {w : World} {c sz : Nat} {es : List (List PV)} {M M' : Nat → Prop} {env env' : EnvT}
theorem ice_lk (k : Nat) : lk k (ice real c sz es S).σ = if k = c then none else (lk k S.σ).map (iceK real c sz es) := by
  show lk k ((rm c S.σ).map fun e => (e.1, iceK real c sz es e.2)) = _
  rw [lk_map (iceK real c sz es)]
  by_cases h : k = c
  · subst h; rw [if_pos rfl, lk_rm_self]; rfl
  · rw [if_neg h, lk_rm_ne h]
theorem iceK_sz (ch : Chunk) : (iceK real c sz es ch).sz = ch.sz ∧ (iceK real c sz es ch).cnt = ch.cnt := by
  cases ch <;> simp [iceK, Chunk.sz, Chunk.cnt]
def Iced (w : World) (M' : Nat → Prop) (b sz N : Nat) (es : List (List PV)) : Prop := ∀ o n off cap, o + n ≤ es.length → n ≤ cap → (cap = 0 ∨ (off = o * sz ∧ o * sz + cap * sz ≤ N)) →
  RPV w M' (.sl false sz (downs ((es.drop o).take n))) (.slice (some ⟨b, off, none⟩) n cap) []
theorem RCell.ice {b N : Nat} (t : Turn w w M M' (fun _ => False)) (hc : env c = some (b, sz, es.length, N)) (hi : Iced w M' b sz N es) (he : ∀ d, d ≠ c → env' d = env d) {x : Cell} {v : Value} (h : RCell w M env x v) : RCell w M' env' (iceC real c sz es x) v := by
  have h1 := h.oneV
  cases h with
  | pv h => exact .pv (h.turn t (fun _ _ h => h))
  | ptr h2 hlt =>
    rename_i d i j b' sz' n N'
    show RCell w M' env' (match Nat.beq c d with | true => .top | false => .ptr d i j) _
    cases hb : Nat.beq c d with
    | true => exact .top h1
    | false => exact .ptr (by rw [he d (fun e => by subst e; simp at hb)]; exact h2) hlt
  | arr h2 hm hn hcap =>
    rename_i d o n b' off sz' m N' cap
    show RCell w M' env' (match Nat.beq c d with | true => .pv (.sl false sz (downs ((es.drop o).take n))) | false => .arr d o n) _
    cases hb : Nat.beq c d with
    | true =>
      have := beq_eq hb
      subst this
      rw [hc] at h2
      simp only [Option.some.injEq, Prod.mk.injEq] at h2
      obtain ⟨rfl, rfl, rfl, rfl⟩ := h2
      exact .pv (hi o n off cap hm hn hcap)
    | false => exact .arr (by rw [he d (fun e => by subst e; simp at hb)]; exact h2) hm hn hcap
  | ep hM hb h => exact .ep (fun h' => (t.grows _ h').elim hM (fun e => by rw [hb] at e; cases e)) hb (h.turn t (fun _ _ h => h))
  | fn h2 =>
    rename_i f caps vs
    show RCell w M' env' (match caps.any (fun x => Nat.beq c x.1) with | true => .top | false => .fn f caps) _
    cases hb : caps.any (fun x => Nat.beq c x.1) with
    | true => exact .top h1
    | false => exact .fn (h2.kill he hb)
  | top h => exact .top h
theorem RCs.ice {b N : Nat} (t : Turn w w M M' (fun _ => False)) (hc : env c = some (b, sz, es.length, N)) (hi : Iced w M' b sz N es) (he : ∀ d, d ≠ c → env' d = env d) : ∀ {cs : List Cell} {vs : List Value}, RCs w M env cs vs → RCs w M' env' (cs.map (iceC real c sz es)) vs
  | _, _, .nil => .nil
  | _, _, .cons h hr => .cons (h.ice t hc hi he) (RCs.ice t hc hi he hr)
theorem RGs.ice {b N : Nat} (t : Turn w w M M' (fun _ => False)) (hc : env c = some (b, sz, es.length, N)) (hi : Iced w M' b sz N es) (he : ∀ d, d ≠ c → env' d = env d) : ∀ {l : List (Bool × List Cell)} {vs : List Value}, RGs w M env l vs → RGs w M' env' (l.map fun v => (v.1, v.2.map (iceC real c sz es))) vs
  | _, _, .nil => .nil
  | _, _, .cons (g := g) h hr => by
    refine .cons ?_ (RGs.ice t hc hi he hr)
    cases g with
    | true => obtain ⟨vs, h1, h2⟩ := h; exact ⟨vs, h1, h2.ice t hc hi he⟩
    | false => obtain ⟨x, rfl, h2⟩ := h; exact ⟨_, rfl, h2.ice t hc hi he⟩
theorem RAV.ice {b N : Nat} (t : Turn w w M M' (fun _ => False)) (hc : env c = some (b, sz, es.length, N)) (hi : Iced w M' b sz N es) (he : ∀ d, d ≠ c → env' d = env d) {x : AV} {v : Value} (h : RAV w M env x v) : RAV w M' env' (iceA real c sz es x) v := by
  cases h with
  | one h => exact .one (h.ice t hc hi he)
  | ag h => exact .ag (h.ice t hc hi he)
  | tp h => exact .tp (h.ice t hc hi he)
theorem ChunkRel.ice {b N bl Nl : Nat} {ch : Chunk} {Oc : List Nat} (t : Turn w w M M' (fun _ => False)) (hc : env c = some (b, sz, es.length, N)) (hi : Iced w M' b sz N es) (he : ∀ d, d ≠ c → env' d = env d) (h : ChunkRel w M env bl Nl ch Oc) : ChunkRel w M' env' bl Nl (iceK real c sz es ch) Oc := by
  cases h with
  | box hb hN h => exact .box hb hN (h.ice t hc hi he)
  | row hb hN h => exact .row hb hN (h.turn t (fun _ _ h => h))
  | foc hb hN hi' hl h1 h2 h3 => exact .foc hb hN hi' (by simpa using hl) (h1.turn t (fun _ _ h => h)) (h2.ice t hc hi he) (h3.turn t (fun _ _ h => h))
theorem Rel.ice (h : Rel E β O S a w) (hlk : lk c S.σ = some (.row sz es)) : Rel E β O (ice real c sz es S) a w ∧ (∀ {x : AV} {v : Value}, RAV w (Mof E β O S.σ) (envOf β S.σ) x v → RAV w (Mof E β O (Aix.ice real c sz es S).σ) (envOf β (Aix.ice real c sz es S).σ) (iceA real c sz es x) v) := by
  have hcr := h.mem.chunk c _ hlk
  have hown := h.mem.own c _ hlk
  have hdis := h.mem.disj c
  generalize hO : O c = Oc at hcr hown
  have old : ∀ k x, lk k (Aix.ice real c sz es S).σ = some x → k ≠ c ∧ ∃ y, lk k S.σ = some y ∧ x = iceK real c sz es y := by
    intro k x hk
    rw [ice_lk] at hk
    by_cases e : k = c
    · rw [if_pos e] at hk; cases hk
    · rw [if_neg e] at hk
      obtain ⟨y, hy, rfl⟩ := Option.map_eq_some_iff.1 hk
      exact ⟨e, y, hy, rfl⟩
  have hMs : ∀ b, Mof E β O (Aix.ice real c sz es S).σ b → Mof E β O S.σ b := by
    rintro b (hx | ⟨d, x, hd, e⟩)
    · exact .inl hx
    · obtain ⟨_, y, hy, _⟩ := old d x hd
      exact .inr ⟨d, y, hy, e⟩
  have t : Turn w w (Mof E β O S.σ) (Mof E β O (Aix.ice real c sz es S).σ) (fun _ => False) := ⟨fun _ _ _ h => h, fun _ h => h.elim, fun b hb => .inl (hMs b hb)⟩
  have hc : envOf β S.σ c = some ((β c).1, sz, es.length, (β c).2) := by unfold envOf; rw [hlk]; rfl
  have he : ∀ d, d ≠ c → envOf β (Aix.ice real c sz es S).σ d = envOf β S.σ d := by
    intro d hd
    unfold envOf
    rw [ice_lk, if_neg hd]
    cases lk d S.σ with
    | none => rfl
    | some x => simp [iceK_sz]
  have hnO : ∀ b ∈ (β c).1 :: Oc, ¬ Mof E β O (Aix.ice real c sz es S).σ b := by
    rintro b hb (hx | ⟨d, x, hd, e⟩)
    · exact (hown _ hb).1 hx
    · obtain ⟨hdc, y, hy, _⟩ := old d x hd
      exact h.mem.disj d c y _ hy hlk hdc _ e (by rw [hO]; exact hb)
  have hnb := hnO _ List.mem_cons_self
  have hi : Iced w (Mof E β O (Aix.ice real c sz es S).σ) (β c).1 sz (β c).2 es := by
    cases hcr with
    | row hb' hN' hR =>
      rename_i vs ty
      intro o n off cap hm hn hcap
      obtain ⟨A, B, C, hABC, hext⟩ := hR.ext o n
      have hlen : ((es.drop o).take n).length = n := by rw [List.length_take, List.length_drop]; omega
      have hd := RLL.downs (hext.turn t (fun _ _ h => h)) (fun x hx => hnO x (List.mem_cons_of_mem _ (by rw [hABC]; simp [hx])))
      have hdl : (downs ((es.drop o).take n)).length = n := by rw [downs_length, hlen]
      rcases Nat.eq_zero_or_pos n with h0 | hpos
      · subst h0
        have : downs ((es.drop o).take 0) = [] := by simp [downs]
        rw [this]
        exact .nil
      · rcases hcap with h0 | ⟨rfl, hroom⟩
        · omega
        · have hd' := hd
          have := RPV.sh (w := w) (M := Mof E β O (Aix.ice real c sz es S).σ) (sz := sz) (b := (β c).1) (off := o * sz) (cap := cap) (es := downs ((es.drop o).take n)) (cs := vs.toList)
            (by rw [← List.length_pos_iff, hdl]; exact hpos) hnb (blk_some hb') (by rw [hdl]; exact hn) hd'
          rw [hdl] at this
          exact this
  refine ⟨⟨?_, ?_, h.nodef⟩, fun hv => hv.ice t hc hi he⟩
  · constructor
    · intro k x hk; obtain ⟨_, y, hy, _⟩ := old k x hk; exact h.mem.keys k y hy
    · intro k x hk
      obtain ⟨_, y, hy, rfl⟩ := old k x hk
      exact (h.mem.chunk k y hy).ice t hc hi he
    · intro k x hk; obtain ⟨_, y, hy, _⟩ := old k x hk; exact h.mem.nodup k y hy
    · intro k d x z hk hd; obtain ⟨_, y, hy, _⟩ := old k x hk; obtain ⟨_, u, hu, _⟩ := old d z hd; exact h.mem.disj k d y u hy hu
    · intro k x hk; obtain ⟨_, y, hy, _⟩ := old k x hk; exact h.mem.own k y hy
    · exact h.mem.os
    · exact h.mem.tape
    · exact h.mem.output
    · exact h.mem.size
    · exact h.mem.frame
    · exact h.mem.xlt
    · exact h.mem.nxt
    · intro k x hlt hk; obtain ⟨_, y, hy, _⟩ := old k x hk; exact h.mem.fix k y hlt hy
  · intro q av hq
    have hq' : lk q (S.T.map fun e => (e.1, iceA real c sz es e.2)) = some av := hq
    rw [lk_map (iceA real c sz es)] at hq'
    obtain ⟨av0, h0, rfl⟩ := Option.map_eq_some_iff.1 hq'
    obtain ⟨h1, h2⟩ := h.slots q av0 h0
    exact ⟨h1, h2.ice t hc hi he⟩
theorem RAVs.ice (hR : ∀ {x : AV} {v : Value}, RAV w M env x v → RAV w M' env' (iceA real c sz es x) v) : ∀ {l : List AV} {vs : List Value}, RAVs w M env l vs → RAVs w M' env' (l.map (iceA real c sz es)) vs
  | _, _, .nil => .nil
  | _, _, .cons h hr => .cons (hR h) (RAVs.ice hR hr)
def arrCs : List Cell → Option Nat
  | [] => none
  | x :: r => match x with
    | .arr c _ _ => some c
    | _ => arrCs r
def arrAs : List AV → Option Nat
  | [] => none
  | x :: r => match x with
    | .one x => match arrCs [x] with
      | some c => some c
      | none => arrAs r
    | .ag xs => match arrCs xs with
      | some c => some c
      | none => arrAs r
    | .tp _ => arrAs r
def iceArgs (I : Ops) : Nat → List AV → St → R (List AV × St)
  | 0, _, _ => .stuck
  | n + 1, args, S => match arrAs args with
    | none => .ok (args, S)
    | some c => match lk c S.σ with
      | some (.row sz es) => iceArgs I n (args.map (iceA I c sz es)) (ice I c sz es S)
      | _ => .stuck
theorem iceArgs_sound : ∀ {n : Nat} {args args' : List AV} {S S' : St} {vs : List Value}, Rel E β O S a w → RAVs w (Mof E β O S.σ) (envOf β S.σ) args vs → (iceArgs real n args S).val = some (args', S') →
    Rel E β O S' a w ∧ RAVs w (Mof E β O S'.σ) (envOf β S'.σ) args' vs
  | 0, _, _, _, _, _, _, _, e => by simp [iceArgs, val_stuck] at e
  | n + 1, args, args', S, S', vs, h, hv, e => by
    unfold iceArgs at e
    split at e
    · simp only [val_ok, Option.some.injEq, Prod.mk.injEq] at e
      obtain ⟨rfl, rfl⟩ := e
      exact ⟨h, hv⟩
    · split at e
      · rename_i sz es hlk
        obtain ⟨h1, h2⟩ := h.ice hlk
        exact iceArgs_sound h1 (RAVs.ice h2 hv) e
      · simp [val_stuck] at e
def callIce (I : Ops) (F : List AV → R (AV × Store × Nat)) (args : List AV) (S : St) : R (AV × St) := do
  let (as, S) ← iceArgs I 20 args S
  callPlain F as S
theorem callIce_ok {g : FuncId} {F : List AV → R (AV × Store × Nat)} (hF : ∀ args r σ n, (F args).val = some (r, σ, n) → Ok0 P g args r σ n) {args : List AV} {r : AV} {S' : St} (e : (callIce real F args S).val = some (r, S')) : CallOk P g args S r S' := by
  intro E β O a w vs h hv
  unfold callIce at e
  rw [val_do] at e
  obtain ⟨⟨as, S1⟩, h1, e⟩ := some_bind e
  obtain ⟨h2, h3⟩ := iceArgs_sound h hv h1
  exact callPlain_ok hF e E β O a w vs h2 h3
theorem EntryOk.ice {g : FuncId} {F : List AV → R (AV × Store × Nat)} (he : Enters P g) (hF : ∀ args r σ n, (F args).val = some (r, σ, n) → Ok0 P g args r σ n) {I : Ops} (hI : I = real) : EntryOk P g (callIce I F) := by
  subst hI
  exact ⟨he, fun _ _ _ _ e => callIce_ok hF e⟩
end
end Go.Aix
/-
  THE CALCULUS, TWENTY-THIRD TEXT: operations that only reckon yield the same in any world.
-/
namespace Go.Aix
def pureOp (o : Oper) : Bool := match o.op with
  | .move _ => true
  | .assign _ => true
  | .pick _ _ _ => true
  | .nilCheck _ => true
  | .binOp _ _ _ _ _ => true
  | .unOp _ _ _ => true
  | .convert _ _ _ => true
  | .makeFunc _ _ _ => true
  | .fieldAddr _ _ _ => true
  | .field _ _ _ => true
  | .indexAddr _ _ _ => true
  | .index _ _ _ => true
  | .extract _ _ => true
  | .call c => match c.callee with
    | .builtin b => match b with
      | .len => true
      | .min => true
      | .max => true
      | _ => false
    | _ => false
  | _ => false
section
variable {P : Program} {X : Ctx} {E : Ent} {β : Nat → Nat × Nat} {O : Nat → List Nat} {S : St} {a : Act} {w : World} {M : Nat → Prop} {env : EnvT}
theorem pure_step {o : Oper} {u : Value} {x : AV} (hr : ∀ w', (execOp a.eval o).run P w' = .ok (.value u) w') (hv : RAV w M env x u) {S' : St} (e : (R.ok (Aix.setDst S o.dst x)).val = some S') :
    ∃ u x, S' = setDst S o.dst x ∧ (∀ w', (execOp a.eval o).run P w' = .ok (.value u) w') ∧ RAV w M env x u := by
  simp only [val_ok, Option.some.injEq] at e
  exact ⟨u, x, e.symm, hr, hv⟩
theorem step_pure (hX : XOk P X) {o : Oper} {pos : Bool} {S' : St} (hp : pureOp o = true) (h : Rel E β O S a w) (e : (stepOp X real pos S o).val = some S') :
    ∃ u x, S' = setDst S o.dst x ∧ (∀ w', (execOp a.eval o).run P w' = .ok (.value u) w') ∧ RAV w (Mof E β O S.σ) (envOf β S.σ) x u := by
  unfold stepOp at e
  split at e
  · -- move
    rename_i x ho
    rw [val_do] at e
    obtain ⟨v, h1, e⟩ := some_bind e
    exact pure_step (fun w' => by simp only [execOp, ho]; rfl) (evalO_sound h h1) e
  · rename_i x ho
    rw [val_do] at e
    obtain ⟨v, h1, e⟩ := some_bind e
    exact pure_step (fun w' => by simp only [execOp, ho]; rfl) (evalO_sound h h1) e
  · -- pick
    rename_i c x y ho
    rw [val_do] at e
    obtain ⟨t, h1, e⟩ := some_bind e
    have hc := evalO_sound h h1
    split at e
    · rename_i b
      have hc := RAV.sc hc
      rw [val_ask] at e
      have run : ∀ w', (execOp a.eval o).run P w' = .ok (.value (if b then a.eval x else a.eval y)) w' := by
        intro w'
        simp only [execOp, ho, hc, asBool]
        cases b <;> rfl
      cases b with
      | true =>
        simp only at e
        rw [val_do] at e
        obtain ⟨v, h2, e⟩ := some_bind e
        exact pure_step run (evalO_sound h h2) e
      | false =>
        simp only at e
        rw [val_do] at e
        obtain ⟨v, h2, e⟩ := some_bind e
        exact pure_step run (evalO_sound h h2) e
    · simp [val_stuck] at e
  · rename_i ho; simp [pureOp, ho] at hp
  · rename_i ho; simp [pureOp, ho] at hp
  · rename_i ho; simp [pureOp, ho] at hp
  · rename_i ho; simp [pureOp, ho] at hp
  · rename_i ho; simp [pureOp, ho] at hp
  · rename_i ho; simp [pureOp, ho] at hp
  · -- nilCheck
    rename_i x ho
    rw [val_do] at e
    obtain ⟨v, h1, e⟩ := some_bind e
    have hv := evalO_sound h h1
    split at e
    · refine pure_step (fun w' => ?_) hv e
      simp only [execOp, ho]
      generalize a.eval x = u at hv
      cases hv with
      | one hv => cases hv with
        | ptr => rfl
    · refine pure_step (fun w' => ?_) hv e
      simp only [execOp, ho]
      generalize a.eval x = u at hv
      cases hv with
      | one hv => cases hv with
        | ep => rfl
    · simp [val_stuck] at e
  · -- binOp
    rename_i op t x y _ ho
    rw [val_do] at e
    obtain ⟨av, h1, e⟩ := some_bind e
    rw [val_do] at e
    obtain ⟨bv, h2, e⟩ := some_bind e
    have ha := evalO_sound h h1
    have hb := evalO_sound h h2
    split at e
    · rename_i u
      split at e
      · rename_i u'
        have ha := RAV.sc ha
        have hb := RAV.sc hb
        rw [val_do] at e
        obtain ⟨v, h3, e⟩ := some_bind e
        refine pure_step (fun w' => ?_) (RAV.scal (binA_sound (P := P) (w := w) hX h3).2.1) e
        obtain ⟨r1, r2, r3, r4⟩ := binA_sound (P := P) (w := w') hX h3
        simp only [execOp, ho, ha, hb]
        refine run_v ?_
        rw [Sem.run_bind, run_eqGuard r4 r3, Result.andThen_ok, r1]
      · simp [val_stuck] at e
    · simp [val_stuck] at e
  · -- unOp
    rename_i op _ x ho
    rw [val_do] at e
    obtain ⟨av, h1, e⟩ := some_bind e
    have ha := evalO_sound h h1
    split at e
    · rename_i u
      have ha := RAV.sc ha
      rw [val_do] at e
      obtain ⟨v, h3, e⟩ := some_bind e
      refine pure_step (fun w' => ?_) (RAV.scal (unA_sound (P := P) (w := w) h3).2) e
      simp only [execOp, ho, ha]
      exact run_v (unA_sound (P := P) (w := w') h3).1
    · simp [val_stuck] at e
  · -- convert
    rename_i s t x ho
    rw [val_do] at e
    obtain ⟨y0, hy0, e⟩ := some_bind e
    rw [val_do] at e
    obtain ⟨y, hy, e⟩ := some_bind e
    rw [val_do] at e
    obtain ⟨av, h1, e⟩ := some_bind e
    have ha := evalO_sound h h1
    obtain ⟨i, d, z, hi, hd', _, _, _, _, _, hu⟩ := tyOf_some (hX t y (typ_some hy))
    obtain ⟨i0, d0, z0, hi0, hd0, _, _, _, _, _, hu0⟩ := tyOf_some (hX s y0 (typ_some hy0))
    split at e
    · rename_i k hyk
      have := uOf_int (hu.symm.trans hyk)
      subst this
      split at e
      · rename_i k' n
        have ha := RAV.sc ha
        refine pure_step (fun w' => ?_) (RAV.scal rfl) e
        simp only [execOp, ho, ha]
        refine run_v ?_
        unfold convert
        simp only [Sem.run_bind, run_und hd0, run_und hd', Result.andThen_ok]
        rfl
      · simp [val_stuck] at e
    · simp [val_stuck] at e
  · -- makeFunc
    rename_i fn first caps ho
    split at e
    · rename_i f
      split at e
      · rename_i hf
        rw [val_do] at e
        obtain ⟨ps, h1, e⟩ := some_bind e
        have hc := capsA_sound h h1
        refine pure_step (u := .func (.func f) #[] (caps.map a.eval)) (fun w' => ?_) (.one (.fn (by rw [Array.toList_map]; exact hc))) e
        have : first = #[] := by rw [← Array.toArray_toList (xs := first), hf]
        subst this
        simp only [execOp, ho]
        refine run_v ?_
        simp [Instr.makeFunc]
      · simp [val_stuck] at e
    · simp [val_stuck] at e
  · rename_i ho; simp [pureOp, ho] at hp
  · rename_i ho; simp [pureOp, ho] at hp
  · -- fieldAddr
    rename_i t x f ho
    rw [val_do] at e
    obtain ⟨⟨off, sz, g⟩, hf, e⟩ := some_bind e
    simp only at e
    rw [val_do] at e
    obtain ⟨av, h1, e⟩ := some_bind e
    rw [val_do] at e
    obtain ⟨v, h2, e⟩ := some_bind e
    obtain ⟨u, r1, r2⟩ := fieldAddrA_sound (P := P) (w := w) hX hf (evalO_sound h h1) h2
    exact pure_step (fun w' => by simp only [execOp, ho]; exact run_v (r1 w')) r2 e
  · -- field
    rename_i t x f ho
    rw [val_do] at e
    obtain ⟨⟨off, sz, g⟩, hf, e⟩ := some_bind e
    simp only at e
    rw [val_do] at e
    obtain ⟨av, h1, e⟩ := some_bind e
    have ha := evalO_sound h h1
    split at e
    · split at e
      · rename_i hle
        rw [val_do] at e
        obtain ⟨v, h2, e⟩ := some_bind e
        obtain ⟨u, r1, r2⟩ := fieldPart_sound (P := P) (w := w) hX hf ha hle h2
        exact pure_step (fun w' => by simp only [execOp, ho]; exact run_v (r1 w')) r2 e
      · simp [val_stuck] at e
    · simp [val_stuck] at e
  · -- indexAddr
    rename_i t x i ho
    rw [val_do] at e
    obtain ⟨y, hy, e⟩ := some_bind e
    rw [val_do] at e
    obtain ⟨av, h1, e⟩ := some_bind e
    rw [val_do] at e
    obtain ⟨iv, h2, e⟩ := some_bind e
    rw [val_do] at e
    obtain ⟨n, h3, e⟩ := some_bind e
    rw [val_do] at e
    obtain ⟨v, h4, e⟩ := some_bind e
    obtain ⟨k, hk⟩ := asI_sound (evalO_sound h h2) h3
    obtain ⟨u, r1, r2⟩ := indexAddrA_sound (P := P) (w := w) (k := k) hX hy (evalO_sound h h1) h4
    exact pure_step (fun w' => by simp only [execOp, ho, hk]; exact run_v (r1 w')) r2 e
  · -- index
    rename_i t x i ho
    rw [val_do] at e
    obtain ⟨y, hy, e⟩ := some_bind e
    rw [val_do] at e
    obtain ⟨av, h1, e⟩ := some_bind e
    rw [val_do] at e
    obtain ⟨iv, h2, e⟩ := some_bind e
    rw [val_do] at e
    obtain ⟨n, h3, e⟩ := some_bind e
    obtain ⟨k, hk⟩ := asI_sound (evalO_sound h h2) h3
    obtain ⟨i0, d, z, hi', hd', _, _, _, _, _, hu⟩ := tyOf_some (hX t y (typ_some hy))
    have ha := evalO_sound h h1
    split at e
    · rename_i hye
      have := uOf_str (hu.symm.trans hye)
      subst this
      split at e
      · rename_i s e0 e1
        clear e0 e1
        have ha := RAV.sc ha
        rw [val_demand] at e
        split at e
        · rename_i hin
          have hin : 0 ≤ n ∧ n < (s.size : Int) := of_decide_eq_true hin
          refine pure_step (fun w' => ?_) (RAV.scal rfl) e
          simp only [execOp, ho, hk, ha]
          refine run_v ?_
          have hlt : n.toNat < s.size := by omega
          have hg : s[n.toNat]? = some s[n.toNat] := getElem?_pos s n.toNat hlt
          unfold Instr.index
          simp only [Sem.run_bind, asIntOf, Sem.run_pure, Result.andThen_ok, run_und hd', hin.1, if_true, hg]
          simp [real, hg]
        · cases e
      · simp [val_stuck] at e
    · simp [val_stuck] at e
  · -- extract
    rename_i x i ho
    rw [val_do] at e
    obtain ⟨av, h1, e⟩ := some_bind e
    have ha := evalO_sound h h1
    split at e
    · split at e
      · rename_i g cs hg
        rw [val_do] at e
        obtain ⟨v, h2, e⟩ := some_bind e
        generalize hu : a.eval x = u at ha
        cases ha with
        | tp ha =>
          rename_i vs
          obtain ⟨u, hu1, hu2⟩ := ha.get i _ hg
          refine pure_step (u := u) (fun w' => ?_) ?_ e
          · simp only [execOp, ho, hu]
            refine run_v ?_
            unfold Instr.extract
            have : vs[i]? = some u := by simpa using hu1
            simp [this]
          · cases g with
            | true =>
              obtain ⟨us, rfl, hus⟩ := hu2
              simp only [mk, val_ok, Option.some.injEq] at h2
              subst h2
              exact .ag hus
            | false =>
              obtain ⟨c, rfl, hc⟩ := hu2
              simp only [mk, val_ok, Option.some.injEq] at h2
              subst h2
              exact .one hc
      · simp [val_stuck] at e
    · simp [val_stuck] at e
  · -- a built-in function
    rename_i c ho
    split at e
    · rename_i b hb
      unfold builtinA at e
      split at e
      · split at e
        · rename_i x ha
          split at e
          · rename_i t ht
            rw [val_do] at e
            obtain ⟨y, hy, e⟩ := some_bind e
            rw [val_do] at e
            obtain ⟨v, h1, e⟩ := some_bind e
            rw [val_do] at e
            obtain ⟨n, h2, e⟩ := some_bind e
            obtain ⟨r1, r2⟩ := lenA_sound (P := P) hX (typ_some hy) (evalO_sound h h1) (o := o.type) h2
            exact pure_step (fun w' => run_call_len ho hb ha ht (r1 w')) (RAV.scal r2) e
          · simp [val_stuck] at e
        · simp [val_stuck] at e
      · simp [pureOp, ho, hb] at hp
      · split at e
        · rename_i x y ha
          rw [val_do] at e
          obtain ⟨av, h1, e⟩ := some_bind e
          rw [val_do] at e
          obtain ⟨bv, h2, e⟩ := some_bind e
          split at e
          · rename_i k n
            split at e
            · rename_i k' m
              have q1 := RAV.sc (evalO_sound h h1)
              have q2 := RAV.sc (evalO_sound h h2)
              exact pure_step (fun w' => run_call_min ho hb ha q1 q2) (RAV.scal rfl) e
            · simp [val_stuck] at e
          · simp [val_stuck] at e
        · simp [val_stuck] at e
      · split at e
        · rename_i x y ha
          rw [val_do] at e
          obtain ⟨av, h1, e⟩ := some_bind e
          rw [val_do] at e
          obtain ⟨bv, h2, e⟩ := some_bind e
          split at e
          · rename_i k n
            split at e
            · rename_i k' m
              have q1 := RAV.sc (evalO_sound h h1)
              have q2 := RAV.sc (evalO_sound h h2)
              exact pure_step (fun w' => run_call_max ho hb ha q1 q2) (RAV.scal rfl) e
            · simp [val_stuck] at e
          · simp [val_stuck] at e
        · simp [val_stuck] at e
      · simp [val_stuck] at e
    · simp [val_stuck] at e
  · simp [val_stuck] at e
end
end Go.Aix
/-
  THE CALCULUS, TWENTY-FOURTH TEXT: regions whose order is drawn.
-/
namespace Go.Aix
def firstPure (ops : Array Oper) (listed : Array Bool) : List Nat → Option Nat
  | [] => none
  | i :: r => match ops[i]? with
    | some o => match pureOp o && Region.free .any ops listed i with
      | true => some i
      | false => firstPure ops listed r
    | none => firstPure ops listed r
def allOut (f : Nat → Out) : List Nat → Out
  | [] => .stuck
  | i :: r => match r with
    | [] => f i
    | _ => .both fun t => match t with
      | true => f i
      | false => allOut f r
section
variable (X : Ctx) (I : Ops) (Y : CallsA) (ops : Array Oper)
def goAny : Nat → Array Bool → St → (St → Out) → Out
  | 0, listed, S, k => match Region.ready .any ops listed with
    | [] => k S
    | _ => .stuck
  | n + 1, listed, S, k => match Region.ready .any ops listed with
    | [] => k S
    | rs => match firstPure ops listed rs with
      | some j => match ops[j]? with
        | some o => (opA X I Y ops S o).out fun S => goAny n (listed.setIfInBounds j true) S k
        | none => .stuck
      | none => allOut (fun i => match ops[i]? with
        | some o => (opA X I Y ops S o).out fun S => goAny n (listed.setIfInBounds i true) S k
        | none => .stuck) rs
end
end Go.Aix
/-
  THE CALCULUS, TWENTY-FIFTH TEXT: why the drawn regions hold.
-/
namespace Go.Aix
section
variable {P : Program} {X : Ctx} {Y : CallsA} {f : FuncId} {fn : Func} {b : Code} {E : Ent} {Rr : Value → World → Prop} {β : Nat → Nat × Nat} {O : Nat → List Nat} {S : St} {a : Act} {w : World} {ops : Array Oper}
theorem firstPure_spec {listed : Array Bool} : ∀ {l : List Nat} {j : Nat}, firstPure ops listed l = some j → j ∈ l ∧ ∃ o, ops[j]? = some o ∧ pureOp o = true ∧ Region.free .any ops listed j = true
  | [], j, h => by cases h
  | i :: r, j, h => by
    unfold firstPure at h
    split at h
    · rename_i o ho
      split at h
      · rename_i hp
        simp only [Option.some.injEq] at h
        subst h
        rw [Bool.and_eq_true] at hp
        exact ⟨List.mem_cons_self, o, ho, hp.1, hp.2⟩
      · obtain ⟨h1, h2⟩ := firstPure_spec h
        exact ⟨List.mem_cons_of_mem _ h1, h2⟩
    · obtain ⟨h1, h2⟩ := firstPure_spec h
      exact ⟨List.mem_cons_of_mem _ h1, h2⟩
theorem opA_pure (hX : XOk P X) {o : Oper} {S' : St} (hp : pureOp o = true) (h : Rel E β O S a w) (hd : ∀ t, o.dst = some t → t < a.tmps.size) (e : (opA X real Y ops S o).val = some S') : ∃ v, Yields P ops o v a ∧ Rel E β O S' (a.put o.dst v) w := by
  unfold opA at e
  rw [val_do] at e
  obtain ⟨t, h1, e⟩ := some_bind e
  have hw := wantA_sound h h1
  cases t with
  | false =>
    simp only [val_ok, Option.some.injEq] at e
    subst e
    exact ⟨undef, .inr ⟨hw, rfl⟩, h.setDst hd (.tp (by exact .nil))⟩
  | true =>
    simp only at e
    have hc : isCall o = none := by
      unfold isCall
      unfold pureOp at hp
      split
      · rename_i c ho
        simp only [ho] at hp
        split
        · rename_i f hf
          simp [hf] at hp
        · rfl
      · rfl
    rw [hc] at e
    obtain ⟨u, x, rfl, hr, hv⟩ := step_pure hX hp h e
    exact ⟨u, .inl ⟨hw, hr⟩, h.setDst hd hv⟩
theorem allOut_holds {H : AV → St → Prop} {L N : List Nat → St → Prop} {f : Nat → Out} : ∀ {l : List Nat}, (allOut f l).holds H L N → ∀ i ∈ l, (f i).holds H L N
  | [], h, i, hi => by cases hi
  | [x], h, i, hi => by
    rcases List.mem_cons.1 hi with rfl | hi
    · exact h
    · cases hi
  | x :: y :: r, h, i, hi => by
    have h' : (f x).holds H L N ∧ (allOut f (y :: r)).holds H L N := h
    rcases List.mem_cons.1 hi with rfl | hi
    · exact h'.1
    · exact allOut_holds h'.2 i hi
theorem goAny_sound (hX : XOk P X) (hY : CallsOk P Y) (hs : Region.noSelect ops = true) {n0 : Nat} (hd : ∀ (i : Nat) (o : Oper) t, ops[i]? = some o → o.dst = some t → t < n0) {Q : Exit → Act → World → Prop} (hQ : ∀ c a w, ¬ Q (.panic c) a w)
    {H : AV → St → Prop} {L N : List Nat → St → Prop} {k : St → Out} (hk : ∀ S', (k S').holds H L N → ∀ β O a w, Rel E β O S' a w → a.tmps.size = n0 → Q .normal a w) :
    ∀ (n : Nat) (listed : Array Bool) (S : St) (β : Nat → Nat × Nat) (O : Nat → List Nat) (a : Act) (w : World), Rel E β O S a w → a.tmps.size = n0 → (goAny X real Y ops n listed S k).holds H L N → wpAny P .any ops Q n listed a w
  | 0, listed, S, β, O, a, w, h, hn, hh => by
    unfold goAny at hh
    split at hh
    · rename_i hr; exact ⟨hr, hk S hh β O a w h hn⟩
    · exact hh.elim
  | n + 1, listed, S, β, O, a, w, h, hn, hh => by
    unfold goAny at hh
    split at hh
    · rename_i hr; exact wpAny_done hr (hk S hh β O a w h hn) _
    · rename_i hne
      split at hh
      · rename_i j hj
        obtain ⟨hm, o, ho, hp, hf⟩ := firstPure_spec hj
        rw [ho] at hh
        obtain ⟨S1, e1, h1⟩ := R.out_holds hh
        obtain ⟨v, hy, hr⟩ := opA_pure hX hp h (fun t ht => by rw [hn]; exact hd j o t ho ht) e1
        exact wpAny_take ho hs hf (by simpa using hm) (fun c a w hq => (hQ _ _ _ hq).elim) hy (goAny_sound hX hY hs hd hQ hk n _ S1 β O _ w hr ((put_size ..).trans hn) h1)
      · refine wpAny_all rfl (fun e => hne e) ?_
        intro i hi
        have hfi := allOut_holds hh i hi
        split at hfi
        · rename_i o ho
          obtain ⟨S1, e1, h1⟩ := R.out_holds hfi
          exact opA_sound hX hY ho h (fun t ht => by rw [hn]; exact hd i o t ho ht) e1 (fun β' O' a' w' h' hs' => goAny_sound hX hY hs hd hQ hk n _ S1 β' O' a' w' h' (hs'.trans hn) h1)
        · exact hfi.elim
end
end Go.Aix
/-
  THE CALCULUS, TWENTY-SIXTH TEXT: a drawn region at its place.
-/
namespace Go.Aix
section
variable {P : Program} {X : Ctx} {Y : CallsA} {f : FuncId} {fn : Func} {b : Code} {E : Ent} {Rr : Value → World → Prop} {S : St}
def behind (b : Code) (p : List Nat) : List Itm := (start [] b p []).tail
theorem W_behind (hX : XOk P X) (hY : CallsOk P Y) (hf : P.funcs[f]? = some fn) (hin : codeIn fn.ntmps b = true) (n : Nat) (p : List Nat) {I : Ops} (hI : I = real)
    (h : (go X I Y fn.results.toList n (behind b p) S).holds (Ended E Rr) (fun p S => W P f fn E Rr (place b (p ++ [0]) []) S) (fun p S => W P f fn E Rr (place b p []) S)) : W P f fn E Rr ((behind b p).map Itm.item) S := by
  subst hI
  have h0 : place b [] [] = .code b :: ([] : List Itm).map Itm.item := by cases b <;> rfl
  have hg := start_good b p [] b [] h0 trivial
  have hi := start_in (n := fn.ntmps) p [] b [] hin (fun _ h => nomatch h)
  refine go_sound (b := b) hX hY hf n _ S ?_ ?_ h
  · unfold behind
    generalize start [] b p [] = l at hg
    cases l with
    | nil => trivial
    | cons x l => cases x <;> first | exact hg.2 | exact hg
  · intro x hx
    exact hi x (List.mem_of_mem_tail hx)
theorem W_any (hX : XOk P X) (hY : CallsOk P Y) (hm : P.follows .mixedOrders = true) {n : Nat} {p q : List Nat} {id : Nat} {ops : Array Oper} {I : Ops} (hI : I = real)
    (hp : (start [] b p []).head? = some (.code q (.region id ops true))) (hs : Region.noSelect ops = true) (hin : codeIn fn.ntmps b = true) (hn : n = ops.size)
    (h : (goAny X I Y ops n (Array.replicate ops.size false) S (fun S => .any [] S)).holds (fun _ _ => False) (fun _ _ => False) (fun _ S => W P f fn E Rr ((behind b p).map Itm.item) S)) : W P f fn E Rr (place b p []) S := by
  subst hI hn
  have hl : start [] b p [] = .code q (.region id ops true) :: behind b p := by
    unfold behind
    generalize start [] b p [] = l at hp
    cases l with
    | nil => cases hp
    | cons x l => simp only [List.head?_cons, Option.some.injEq] at hp; subst hp; rfl
  have hi := start_in (n := fn.ntmps) p [] b [] hin (fun _ h => nomatch h)
  have hpl : place b p [] = .code (.region id ops true) :: (behind b p).map Itm.item := by
    have := start_item p [] b []
    rw [hl] at this
    exact this.symm
  rw [hpl]
  intro β O a w hr hsz
  have hc : codeIn fn.ntmps (.region id ops true) = true := hi (.code q (.region id ops true)) (by rw [hl]; exact List.mem_cons_self)
  refine At.code (wp_region_any hm ?_)
  refine goAny_sound hX hY hs (n0 := fn.ntmps) ?_ (fun _ _ _ h => h) ?_ _ _ S β O a _ (hr.drew) hsz h
  · intro i o t ho ht
    exact opsIn_spec hc o (by have := Array.mem_of_getElem? ho; simpa using this) t ht
  · intro S' h' β' O' a' w' hr' hs'
    exact h' β' O' a' w' hr' hs'
end
end Go.Aix
/-
  THE CALCULUS: in a drawn region, numbers that are read out of variables are read first.
-/
namespace Go.Aix
mutual
def scV : AV → Option Value
  | .one c => scC c
  | .ag cs => match scVs cs with
    | some vs => some (.agg vs.toArray)
    | none => none
  | .tp _ => none
def scC : Cell → Option Value
  | .pv p => match p with
    | .sc v => some v
    | _ => none
  | _ => none
def scVs : List Cell → Option (List Value)
  | [] => some []
  | c :: r => match scC c with
    | some v => match scVs r with
      | some vs => some (v :: vs)
      | none => none
    | none => none
end
def isSc (x : AV) : Bool := match scV x with
  | some _ => true
  | none => false
def isLoad (o : Oper) : Bool := match o.op with
  | .load _ _ => match o.guard with
    | none => true
    | some _ => false
  | _ => false
def apartL (ops : Array Oper) (L : List (Nat × AV)) (d : Option Tmp) : Bool := match d with
  | some d => L.all fun e => match ops[e.1]? with
    | some p => !(p.looksAt ops).contains d
    | none => false
  | none => true
def firstPureL (ops : Array Oper) (listed : Array Bool) (L : List (Nat × AV)) : List Nat → Option Nat
  | [] => none
  | i :: r => match ops[i]? with
    | some o => match pureOp o && Region.free .any ops listed i && apartL ops L o.dst with
      | true => some i
      | false => firstPureL ops listed L r
    | none => firstPureL ops listed L r
def earlyOk (ops : Array Oper) (listed : Array Bool) (L : List (Nat × AV)) (j : Nat) (o : Oper) : Bool :=
  isLoad o && Region.free .any ops listed j && apartL ops L o.dst && match o.dst with
    | some d => !(o.looksAt ops).contains d
    | none => false
def firstLoad (ops : Array Oper) (listed : Array Bool) (L : List (Nat × AV)) : List Nat → Option Nat
  | [] => none
  | i :: r => match ops[i]? with
    | some o => match earlyOk ops listed L i o with
      | true => some i
      | false => firstLoad ops listed L r
    | none => firstLoad ops listed L r
section
variable (X : Ctx) (I : Ops) (Y : CallsA) (ops : Array Oper)
def chkL : List (Nat × AV) → St → Out → Out
  | [], _, k => k
  | (j, x) :: L, S, k => match ops[j]? with
    | some o => (opA X I Y ops S o).out fun Sj => match o.dst with
      | some d => match lk d Sj.T with
        | some x' => .eqs x' x (chkL L S k)
        | none => .stuck
      | none => .stuck
    | none => .stuck
def goEarly : Nat → Array Bool → List (Nat × AV) → St → (St → Out) → Out
  | 0, listed, L, S, k => chkL X I Y ops L S (match Region.ready .any ops listed with
    | [] => k S
    | _ => .stuck)
  | n + 1, listed, L, S, k => chkL X I Y ops L S (match Region.ready .any ops listed with
    | [] => k S
    | rs => match firstPureL ops listed L rs with
      | some j => match ops[j]? with
        | some o => (opA X I Y ops S o).out fun S => goEarly n (listed.setIfInBounds j true) L S k
        | none => .stuck
      | none =>
        let all := allOut (fun i => match ops[i]? with
          | some o => (opA X I Y ops S o).out fun S => goEarly n (listed.setIfInBounds i true) L S k
          | none => .stuck) rs
        match firstLoad ops listed L rs with
        | some j => match ops[j]? with
          | some o => (opA X I Y ops S o).out fun Sj => match o.dst with
            | some d => match lk d Sj.T with
              | some x => match isSc x with
                | true => goEarly n (listed.setIfInBounds j true) ((j, x) :: L) Sj k
                | false => all
              | none => .stuck
            | none => .stuck
          | none => .stuck
        | none => all)
end
section
variable {P : Program} {X : Ctx} {Y : CallsA} {f : FuncId} {fn : Func} {b : Code} {E : Ent} {Rr : Value → World → Prop} {β : Nat → Nat × Nat} {O : Nat → List Nat} {S : St} {a : Act} {w : World} {M : Nat → Prop} {env : EnvT} {ops : Array Oper} {Q : Exit → Act → World → Prop}
theorem scC_sound {c : Cell} {u v : Value} (h : RCell w M env c u) (e : scC c = some v) : u = v := by
  unfold scC at e
  split at e
  · split at e
    · rename_i v'
      obtain rfl := Option.some.inj e
      cases h with
      | pv h => cases h; rfl
    · cases e
  · cases e
theorem scVs_sound : ∀ {cs : List Cell} {us vs : List Value}, RCs w M env cs us → scVs cs = some vs → us = vs
  | [], us, vs, h, e => by
    cases h
    rw [scVs] at e
    exact Option.some.inj e
  | c :: cs, us, vs, h, e => by
    rw [scVs] at e
    cases h with
    | cons h hr =>
      split at e
      · rename_i v hv
        split at e
        · rename_i vs' hvs
          obtain rfl := Option.some.inj e
          rw [scC_sound h hv, scVs_sound hr hvs]
        · cases e
      · cases e
theorem scV_sound {x : AV} {u v : Value} (h : RAV w M env x u) (e : scV x = some v) : u = v := by
  cases h with
  | one h =>
    rw [scV] at e
    exact scC_sound h e
  | ag h =>
    rename_i cs vs
    rw [scV] at e
    split at e
    · rename_i us hus
      obtain rfl := Option.some.inj e
      have := scVs_sound h hus
      rw [← this]
    · cases e
  | tp h => rw [scV] at e; cases e
def YAt (P : Program) (ops : Array Oper) (o : Oper) (v : Value) (a : Act) (w : World) : Prop := Region.wanted o (yielded ops a.tmps) = true ∧ (execOp a.eval o).run P w = .ok (.value v) w
theorem YAt.wpOp {i : Nat} {o : Oper} {v : Value} {a : Act} (hi : ops[i]? = some o) (hy : YAt P ops o v a w) {K : Act → World → Prop} (h : K (a.put o.dst v) w) : wpOp P ops Q i K a w := by
  unfold Go.wpOp
  simp only [hi, hy.1, if_true, Oper.wp, hy.2, Oper.upon]
  exact .inl h
theorem YAt.put {o : Oper} {v u : Value} {d : Option Tmp} (hs : ∀ cs b, o.op ≠ .select cs b) (hd : ∀ t, d = some t → t ∉ o.looksAt ops) : YAt P ops o v (a.put d u) w ↔ YAt P ops o v a w := by
  unfold YAt
  rw [execOp_put o hs a d u hd, wanted_put o a d u hd]
def wpV (P : Program) (ops : Array Oper) (Q : Exit → Act → World → Prop) (V : List (Oper × Value)) : Nat → Array Bool → Act → World → Prop
  | 0, listed, a, w => (∀ p ∈ V, YAt P ops p.1 p.2 a w) ∧ Region.ready .any ops listed = [] ∧ Q .normal a w
  | n + 1, listed, a, w => (∀ p ∈ V, YAt P ops p.1 p.2 a w) ∧ (Region.ready .any ops listed = [] → Q .normal a w) ∧ ∀ i ∈ Region.ready .any ops listed, wpOp P ops Q i (wpV P ops Q V n (listed.setIfInBounds i true)) a w
theorem wpV_at {V : List (Oper × Value)} : ∀ {n : Nat} {listed : Array Bool} {a : Act} {w : World}, wpV P ops Q V n listed a w → ∀ p ∈ V, YAt P ops p.1 p.2 a w
  | 0, _, _, _, h => h.1
  | _ + 1, _, _, _, h => h.1
theorem wpV_sub {V V' : List (Oper × Value)} (hs : ∀ p ∈ V', p ∈ V) : ∀ {n : Nat} {listed : Array Bool} {a : Act} {w : World}, wpV P ops Q V n listed a w → wpV P ops Q V' n listed a w
  | 0, _, _, _, h => ⟨fun p hp => h.1 p (hs p hp), h.2⟩
  | _ + 1, _, _, _, h => ⟨fun p hp => h.1 p (hs p hp), h.2.1, fun i hi => wpOp_mono (fun _ _ hh => wpV_sub hs hh) (h.2.2 i hi)⟩
theorem wpV_nil : ∀ {n : Nat} {listed : Array Bool} {a : Act} {w : World}, wpV P ops Q [] n listed a w → wpAny P .any ops Q n listed a w
  | 0, _, _, _, h => h.2
  | _ + 1, _, _, _, h => ⟨h.2.1, fun i hi => wpOp_mono (fun _ _ hh => wpV_nil hh) (h.2.2 i hi)⟩
theorem wpOp_putJ {j : Nat} {oi oj : Oper} {v : Value} (hj : ops[j]? = some oj) (hap : oi.apart ops oj = true) (hsj : ∀ cs b, oj.op ≠ .select cs b)
    (hQ : ∀ c a w, Q (.panic c) (a.put oi.dst v) w → Q (.panic c) a w) {K : Act → World → Prop} {a : Act} {w : World} (h : wpOp P ops Q j K (a.put oi.dst v) w) :
    wpOp P ops Q j (fun a' w' => K (a'.put oi.dst v) w') a w := by
  have ap : ({ oi with op := .move (.const v), guard := none } : Oper).apart ops oj = true := by
    unfold Oper.apart at *
    rw [Bool.and_eq_true] at *
    refine ⟨hap.1, ?_⟩
    cases oj.dst with
    | none => rfl
    | some d => simp [Oper.looksAt, Op.operands]
  have hy : Yields P ops { oi with op := .move (.const v), guard := none } v a := .inl ⟨rfl, fun w => rfl⟩
  exact wpOp_mono (fun _ _ hh => hh.2) (wpOp_put (oi := { oi with op := .move (.const v), guard := none }) hj ap (fun _ _ e => nomatch e) hsj hQ hy h)
theorem wpV_first {i : Nat} {oi : Oper} {v : Value} {V : List (Oper × Value)} (hi : ops[i]? = some oi) (hsel : ∀ (j : Nat) (o : Oper) cs b, ops[j]? = some o → o.op ≠ .select cs b)
    (hQ : ∀ c a w, Q (.panic c) (a.put oi.dst v) w → Q (.panic c) a w) (hV : ∀ p ∈ V, (∀ cs b, p.1.op ≠ .select cs b) ∧ ∀ t, oi.dst = some t → t ∉ p.1.looksAt ops) (hself : ∀ t, oi.dst = some t → t ∉ oi.looksAt ops) :
    ∀ (fuel : Nat) (listed : Array Bool) (a : Act) (w : World),
      (∀ j oj, ops[j]? = some oj → j ≠ i → listed.getD j true = false → (∀ e ∈ oj.after, Region.binds .any e = true → e.on ≠ i) → oi.apart ops oj = true) →
      i ∈ Region.ready .any ops listed → YAt P ops oi v a w →
      wpV P ops Q ((oi, v) :: V) fuel (listed.setIfInBounds i true) (a.put oi.dst v) w → wpV P ops Q V (fuel + 1) listed a w := by
  intro fuel
  induction fuel with
  | zero =>
    intro listed a w _ hr hy H
    refine ⟨fun p hp => (YAt.put (hV p hp).1 (hV p hp).2).1 (wpV_at H p (List.mem_cons_of_mem _ hp)), fun h => (by rw [h] at hr; cases hr), fun j hj => ?_⟩
    by_cases hji : j = i
    · subst hji; exact hy.wpOp hi (wpV_sub (fun p hp => List.mem_cons_of_mem _ hp) H)
    · have := ready_mono hj hji
      rw [H.2.1] at this
      cases this
  | succ fuel ih =>
    intro listed a w hfree hr hy H
    refine ⟨fun p hp => (YAt.put (hV p hp).1 (hV p hp).2).1 (wpV_at H p (List.mem_cons_of_mem _ hp)), fun h => (by rw [h] at hr; cases hr), fun j hj => ?_⟩
    by_cases hji : j = i
    · subst hji; exact hy.wpOp hi (wpV_sub (fun p hp => List.mem_cons_of_mem _ hp) H)
    · have h1 := H.2.2 j (ready_mono hj hji)
      obtain ⟨hjun, oj, hoj, hall⟩ := mem_ready.1 hj
      have hnot : ∀ e ∈ oj.after, Region.binds .any e = true → e.on ≠ i := fun e he hb heq => by
        have h1 := hall e he hb
        have h0 := (mem_ready.1 hr).1
        rw [heq] at h1
        rcases Nat.lt_or_ge i listed.size with h' | h'
        · simp [h'] at h0 h1; rw [h0] at h1; cases h1
        · simp [Array.getElem?_eq_none h'] at h1
      have h2 := wpOp_putJ hoj (hfree j oj hoj hji hjun hnot) (fun cs b => hsel j oj cs b hoj) hQ h1
      have hfree' : ∀ k ok, ops[k]? = some ok → k ≠ i → (listed.setIfInBounds j true).getD k true = false →
          (∀ e ∈ ok.after, Region.binds .any e = true → e.on ≠ i) → oi.apart ops ok = true := fun k ok hk hki hun hno => by
        refine hfree k ok hk hki ?_ hno
        by_cases hjk : j = k
        · subst hjk; exact hjun
        · rw [getD_set_ne true hjk] at hun; exact hun
      refine wpOp_mono (fun a' w' h3 => ih (listed.setIfInBounds j true) a' w' hfree' (ready_mono hr (Ne.symm hji)) ?_ ?_) h2
      · exact (YAt.put (hsel i oi · · hi) hself).1 (wpV_at h3 (oi, v) List.mem_cons_self)
      · rw [Array.setIfInBounds_comm _ _ hji]
        exact h3
theorem wpV_take {i : Nat} {oi : Oper} {v : Value} {V : List (Oper × Value)} (hi : ops[i]? = some oi) (hsel : ∀ (j : Nat) (o : Oper) cs b, ops[j]? = some o → o.op ≠ .select cs b)
    (hQ : ∀ c a w, Q (.panic c) (a.put oi.dst v) w → Q (.panic c) a w) (hV : ∀ p ∈ V, (∀ cs b, p.1.op ≠ .select cs b) ∧ ∀ t, oi.dst = some t → t ∉ p.1.looksAt ops) :
    ∀ (fuel : Nat) (listed : Array Bool) (a : Act) (w : World),
      (∀ j oj, ops[j]? = some oj → j ≠ i → listed.getD j true = false → (∀ e ∈ oj.after, Region.binds .any e = true → e.on ≠ i) → oi.apart ops oj = true) →
      i ∈ Region.ready .any ops listed → Yields P ops oi v a →
      wpV P ops Q V fuel (listed.setIfInBounds i true) (a.put oi.dst v) w → wpV P ops Q V (fuel + 1) listed a w := by
  intro fuel
  induction fuel with
  | zero =>
    intro listed a w _ hr hy H
    refine ⟨fun p hp => (YAt.put (hV p hp).1 (hV p hp).2).1 (wpV_at H p hp), fun h => (by rw [h] at hr; cases hr), fun j hj => ?_⟩
    by_cases hji : j = i
    · subst hji; exact hy.wpOp hi H
    · have := ready_mono hj hji
      rw [H.2.1] at this
      cases this
  | succ fuel ih =>
    intro listed a w hfree hr hy H
    refine ⟨fun p hp => (YAt.put (hV p hp).1 (hV p hp).2).1 (wpV_at H p hp), fun h => (by rw [h] at hr; cases hr), fun j hj => ?_⟩
    by_cases hji : j = i
    · subst hji; exact hy.wpOp hi H
    · have h1 := H.2.2 j (ready_mono hj hji)
      obtain ⟨hjun, oj, hoj, hall⟩ := mem_ready.1 hj
      have hnot : ∀ e ∈ oj.after, Region.binds .any e = true → e.on ≠ i := fun e he hb heq => by
        have h1 := hall e he hb
        have h0 := (mem_ready.1 hr).1
        rw [heq] at h1
        rcases Nat.lt_or_ge i listed.size with h' | h'
        · simp [h'] at h0 h1; rw [h0] at h1; cases h1
        · simp [Array.getElem?_eq_none h'] at h1
      have h2 := wpOp_put hoj (hfree j oj hoj hji hjun hnot) (fun cs b => hsel i oi cs b hi) (fun cs b => hsel j oj cs b hoj) hQ hy h1
      have hfree' : ∀ k ok, ops[k]? = some ok → k ≠ i → (listed.setIfInBounds j true).getD k true = false →
          (∀ e ∈ ok.after, Region.binds .any e = true → e.on ≠ i) → oi.apart ops ok = true := fun k ok hk hki hun hno => by
        refine hfree k ok hk hki ?_ hno
        by_cases hjk : j = k
        · subst hjk; exact hjun
        · rw [getD_set_ne true hjk] at hun; exact hun
      refine wpOp_mono (fun a' w' h3 => ih (listed.setIfInBounds j true) a' w' hfree' (ready_mono hr (Ne.symm hji)) h3.1 ?_) h2
      rw [Array.setIfInBounds_comm _ _ hji]
      exact h3.2
inductive Early (ops : Array Oper) : List (Nat × AV) → List (Oper × Value) → Prop
  | nil : Early ops [] []
  | cons {j : Nat} {x : AV} {o : Oper} {v : Value} {L : List (Nat × AV)} {V : List (Oper × Value)} (ho : ops[j]? = some o) (hl : isLoad o = true) (hv : scV x = some v) (hr : Early ops L V) : Early ops ((j, x) :: L) ((o, v) :: V)
theorem isLoad_sel {o : Oper} (h : isLoad o = true) : ∀ cs b, o.op ≠ .select cs b := by
  intro cs b e
  unfold isLoad at h
  rw [e] at h
  cases h
theorem Early.apart {d : Option Tmp} : ∀ {L : List (Nat × AV)} {V : List (Oper × Value)}, Early ops L V → apartL ops L d = true → ∀ p ∈ V, (∀ cs b, p.1.op ≠ .select cs b) ∧ ∀ t, d = some t → t ∉ p.1.looksAt ops
  | _, _, .nil, _, p, hp => nomatch hp
  | _, _, .cons (L := L) ho hl hv hr, ha, p, hp => by
    have ha' : apartL ops L d = true := by
      unfold apartL at *
      split at ha
      · simp only [List.all_cons, Bool.and_eq_true] at ha
        exact ha.2
      · rfl
    rcases List.mem_cons.1 hp with rfl | hp
    · refine ⟨isLoad_sel hl, fun t ht => ?_⟩
      subst ht
      unfold apartL at ha
      simp only [List.all_cons, Bool.and_eq_true, ho] at ha
      simpa using ha.1
    · exact Early.apart hr ha' p hp
theorem firstPureL_spec {listed : Array Bool} {L : List (Nat × AV)} : ∀ {l : List Nat} {j : Nat}, firstPureL ops listed L l = some j → j ∈ l ∧ ∃ o, ops[j]? = some o ∧ pureOp o = true ∧ Region.free .any ops listed j = true ∧ apartL ops L o.dst = true
  | [], j, h => by cases h
  | i :: r, j, h => by
    unfold firstPureL at h
    split at h
    · rename_i o ho
      split at h
      · rename_i hp
        simp only [Option.some.injEq] at h
        subst h
        rw [Bool.and_eq_true, Bool.and_eq_true] at hp
        exact ⟨List.mem_cons_self, o, ho, hp.1.1, hp.1.2, hp.2⟩
      · obtain ⟨h1, h2⟩ := firstPureL_spec h
        exact ⟨List.mem_cons_of_mem _ h1, h2⟩
    · obtain ⟨h1, h2⟩ := firstPureL_spec h
      exact ⟨List.mem_cons_of_mem _ h1, h2⟩
theorem load_exact (hX : XOk P X) {o : Oper} (hl : isLoad o = true) (h : Rel E β O S a w) {S' : St} (e : (opA X real Y ops S o).val = some S') :
    ∃ u x, S' = setDst S o.dst x ∧ RAV w (Mof E β O S.σ) (envOf β S.σ) x u ∧ YAt P ops o u a w := by
  unfold isLoad at hl
  split at hl
  · rename_i t ad ho
    split at hl
    · rename_i hg
      unfold opA at e
      rw [val_do] at e
      obtain ⟨tt, h1, e⟩ := some_bind e
      have hw := wantA_sound h h1
      have ht : tt = true := by
        unfold wantA at h1
        rw [hg] at h1
        exact (Option.some.inj h1).symm
      subst ht
      have hc : isCall o = none := by unfold isCall; rw [ho]
      simp only [hc] at e
      unfold stepOp at e
      simp only [ho] at e
      rw [val_do] at e
      obtain ⟨y, hy, e⟩ := some_bind e
      rw [val_do] at e
      obtain ⟨av, h2, e⟩ := some_bind e
      rw [val_do] at e
      obtain ⟨x, h3, e⟩ := some_bind e
      simp only [val_ok, Option.some.injEq] at e
      obtain ⟨u, r1, r2⟩ := loadA_sound (P := P) hX (typ_some hy) h (evalO_sound h h2) h3
      refine ⟨u, x, e.symm, r2, hw, ?_⟩
      simp only [execOp, ho]
      exact run_v r1
    · cases hl
  · cases hl
theorem chkL_sound (hX : XOk P X) (h : Rel E β O S a w) {H : AV → St → Prop} {L' N : List Nat → St → Prop} {k : Out} : ∀ {L : List (Nat × AV)} {V : List (Oper × Value)},
    Early ops L V → (chkL X real Y ops L S k).holds H L' N → (∀ p ∈ V, YAt P ops p.1 p.2 a w) ∧ k.holds H L' N
  | _, _, .nil, hh => ⟨fun _ hp => (nomatch hp), hh⟩
  | _, _, .cons (L := L) (V := V) o1 o2 o3 hf, hh => by
    unfold chkL at hh
    rw [o1] at hh
    dsimp only at hh
    obtain ⟨Sj, e1, hh⟩ := R.out_holds hh
    obtain ⟨u, x', rfl, r1, r2⟩ := load_exact hX o2 h e1
    split at hh
    · rename_i d hd
      rw [hd, lk_setDst_self] at hh
      dsimp only at hh
      have hx2 := hh.1
      have hh2 := hh.2
      subst hx2
      have hu := scV_sound r1 o3
      subst hu
      obtain ⟨q1, q2⟩ := chkL_sound hX h hf hh2
      refine ⟨fun q hq => ?_, q2⟩
      rcases List.mem_cons.1 hq with rfl | hq
      · exact r2
      · exact q1 q hq
    · exact hh.elim
theorem firstLoad_spec {listed : Array Bool} {L : List (Nat × AV)} : ∀ {l : List Nat} {j : Nat}, firstLoad ops listed L l = some j → j ∈ l ∧ ∃ o, ops[j]? = some o ∧ earlyOk ops listed L j o = true
  | [], j, h => by cases h
  | i :: r, j, h => by
    unfold firstLoad at h
    split at h
    · rename_i o ho
      split at h
      · rename_i hp
        simp only [Option.some.injEq] at h
        subst h
        exact ⟨List.mem_cons_self, o, ho, hp⟩
      · obtain ⟨h1, h2⟩ := firstLoad_spec h
        exact ⟨List.mem_cons_of_mem _ h1, h2⟩
    · obtain ⟨h1, h2⟩ := firstLoad_spec h
      exact ⟨List.mem_cons_of_mem _ h1, h2⟩
theorem goEarly_sound (hX : XOk P X) (hY : CallsOk P Y) (hs : Region.noSelect ops = true) {n0 : Nat} (hd : ∀ (i : Nat) (o : Oper) t, ops[i]? = some o → o.dst = some t → t < n0) (hQ : ∀ c a w, ¬ Q (.panic c) a w)
    {H : AV → St → Prop} {L' N : List Nat → St → Prop} {k : St → Out} (hk : ∀ S', (k S').holds H L' N → ∀ β O a w, Rel E β O S' a w → a.tmps.size = n0 → Q .normal a w) :
    ∀ (n : Nat) (listed : Array Bool) (L : List (Nat × AV)) (V : List (Oper × Value)) (S : St) (β : Nat → Nat × Nat) (O : Nat → List Nat) (a : Act) (w : World),
      Early ops L V → Rel E β O S a w → a.tmps.size = n0 → (goEarly X real Y ops n listed L S k).holds H L' N → wpV P ops Q V n listed a w
  | 0, listed, L, V, S, β, O, a, w, hf, h, hn, hh => by
    unfold goEarly at hh
    obtain ⟨hv, hh⟩ := chkL_sound hX h hf hh
    split at hh
    · rename_i hr; exact ⟨hv, hr, hk S hh β O a w h hn⟩
    · exact hh.elim
  | n + 1, listed, L, V, S, β, O, a, w, hf, h, hn, hh => by
    unfold goEarly at hh
    obtain ⟨hv, hh⟩ := chkL_sound hX h hf hh
    have allCase : ∀ rs, Region.ready .any ops listed = rs → rs ≠ [] → (allOut (fun i => match ops[i]? with
          | some o => (opA X real Y ops S o).out fun S => goEarly X real Y ops n (listed.setIfInBounds i true) L S k
          | none => .stuck) rs).holds H L' N → wpV P ops Q V (n + 1) listed a w := by
      intro rs hr hne hall
      refine ⟨hv, fun e => absurd (hr ▸ e) hne, fun i hi => ?_⟩
      have hfi := allOut_holds hall i (hr ▸ hi)
      split at hfi
      · rename_i o ho
        obtain ⟨S1, e1, h1⟩ := R.out_holds hfi
        exact opA_sound hX hY ho h (fun t ht => by rw [hn]; exact hd i o t ho ht) e1 (fun β' O' a' w' h' hs' => goEarly_sound hX hY hs hd hQ hk n _ L V S1 β' O' a' w' hf h' (hs'.trans hn) h1)
      · exact hfi.elim
    split at hh
    · rename_i hr
      exact ⟨hv, fun _ => hk S hh β O a w h hn, by rw [hr]; simp⟩
    · rename_i hne
      split at hh
      · rename_i j hj
        obtain ⟨hm, o, ho, hp, hfr, hap⟩ := firstPureL_spec hj
        rw [ho] at hh
        obtain ⟨S1, e1, h1⟩ := R.out_holds hh
        obtain ⟨v, hy, hr⟩ := opA_pure hX hp h (fun t ht => by rw [hn]; exact hd j o t ho ht) e1
        exact wpV_take ho (Region.noSelect_spec hs) (fun c a w hq => (hQ _ _ _ hq).elim) (hf.apart hap) n listed a w (Region.free_spec ho hfr) hm hy (goEarly_sound hX hY hs hd hQ hk n _ L V S1 β O _ w hf hr ((put_size ..).trans hn) h1)
      · split at hh
        · rename_i j hj
          obtain ⟨hm, o, ho, hok⟩ := firstLoad_spec hj
          unfold earlyOk at hok
          simp only [Bool.and_eq_true] at hok
          obtain ⟨⟨⟨hl, hfr⟩, hap⟩, hself⟩ := hok
          rw [ho] at hh
          obtain ⟨Sj, e1, hh⟩ := R.out_holds hh
          obtain ⟨u, x, rfl, r1, r2⟩ := load_exact hX hl h e1
          split at hh
          · rename_i d hdst
            rw [hdst] at hself
            have hself' : ∀ t, o.dst = some t → t ∉ o.looksAt ops := fun t ht => by
              rw [hdst] at ht
              obtain rfl := Option.some.inj ht
              simpa using hself
            rw [hdst, lk_setDst_self] at hh
            dsimp only at hh
            split at hh
            · rename_i hsc
              unfold isSc at hsc
              split at hsc
              · rename_i v hvx
                have hu := scV_sound r1 hvx
                subst hu
                have hr' : Rel E β O (setDst S o.dst x) (a.put o.dst u) w := Rel.setDst h (fun t ht => by rw [hn]; exact hd j o t ho ht) r1
                rw [← hdst] at hh
                exact wpV_first ho (Region.noSelect_spec hs) (fun c a w hq => (hQ _ _ _ hq).elim) (hf.apart hap) hself' n listed a w (Region.free_spec ho hfr) hm r2
                  (goEarly_sound hX hY hs hd hQ hk n _ ((j, x) :: L) ((o, u) :: V) _ β O _ w (.cons ho hl hvx hf) hr' ((put_size ..).trans hn) hh)
              · cases hsc
            · exact allCase _ rfl hne hh
          · exact hh.elim
        · exact allCase _ rfl hne hh
theorem W_early (hX : XOk P X) (hY : CallsOk P Y) (hm : P.follows .mixedOrders = true) {n : Nat} {p q : List Nat} {id : Nat} {I : Ops} (hI : I = real)
    (hp : (start [] b p []).head? = some (.code q (.region id ops true))) (hs : Region.noSelect ops = true) (hin : codeIn fn.ntmps b = true) (hn : n = ops.size)
    (h : (goEarly X I Y ops n (Array.replicate ops.size false) [] S (fun S => .any [] S)).holds (fun _ _ => False) (fun _ _ => False) (fun _ S => W P f fn E Rr ((behind b p).map Itm.item) S)) : W P f fn E Rr (place b p []) S := by
  subst hI hn
  have hl : start [] b p [] = .code q (.region id ops true) :: behind b p := by
    unfold behind
    generalize start [] b p [] = l at hp
    cases l with
    | nil => cases hp
    | cons x l => simp only [List.head?_cons, Option.some.injEq] at hp; subst hp; rfl
  have hi := start_in (n := fn.ntmps) p [] b [] hin (fun _ h => nomatch h)
  have hpl : place b p [] = .code (.region id ops true) :: (behind b p).map Itm.item := by
    have := start_item p [] b []
    rw [hl] at this
    exact this.symm
  rw [hpl]
  intro β O a w hr hsz
  have hc : codeIn fn.ntmps (.region id ops true) = true := hi (.code q (.region id ops true)) (by rw [hl]; exact List.mem_cons_self)
  refine At.code (wp_region_any hm (wpV_nil ?_))
  refine goEarly_sound hX hY hs (n0 := fn.ntmps) ?_ (fun _ _ _ h => h) ?_ _ _ [] [] S β O a _ .nil (RelM.drew hr) hsz h
  · intro i o t ho ht
    exact opsIn_spec hc o (by have := Array.mem_of_getElem? ho; simpa using this) t ht
  · intro S' h' β' O' a' w' hr' hs'
    exact h' β' O' a' w' hr' hs'
end
end Go.Aix
