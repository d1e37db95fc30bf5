/-
  THE CALCULUS, SEVENTEENTH TEXT: what the machine shows is so.
-/
import Derived.Test.YtafdnkachndacaaAixQuiet
set_option linter.unusedSimpArgs false
set_option linter.unusedVariables false
namespace Go.Aix
section
variable {P : Program} {X : Ctx} {Y : CallsA} {f : FuncId} {fn : Func} {b : Code} {E : Ent} {R : Value → World → Prop} {β : Nat → Nat × Nat} {O : Nat → List Nat} {S : St} {a : Act} {w : World}

theorem resA1_sound (hX : XOk P X) (h : Rel E β O S a w) {r : ResultVar} {g : Bool} {cs : List Cell} (e : (resA1 X real S r).val = some (g, cs)) :
    ∃ v, (match r with | .tmp t => pure (a.tmps.getD t undef) | .cell c t => do loadVar t (← asAddr (a.tmps.getD c undef)) : Sem Value).run P w = .ok v w ∧ RG w (Mof E β O S.σ) (envOf β S.σ) g cs v := by
  unfold resA1 at e
  split at e
  · rename_i t
    rw [val_do] at e
    obtain ⟨v, hv, e⟩ := some_bind e
    rw [val_of] at hv
    obtain ⟨h1, h2⟩ := h.slots t v hv
    refine ⟨_, rfl, ?_⟩
    split at e
    · simp only [val_ok, Option.some.injEq, Prod.mk.injEq] at e
      obtain ⟨rfl, rfl⟩ := e
      cases h2 with
      | one h2 => exact ⟨_, rfl, h2⟩
    · simp only [val_ok, Option.some.injEq, Prod.mk.injEq] at e
      obtain ⟨rfl, rfl⟩ := e
      generalize a.tmps.getD t undef = u at h2
      cases h2 with
      | ag h2 => exact ⟨_, rfl, h2⟩
    · simp [val_stuck] at e
  · rename_i c t
    rw [val_do] at e
    obtain ⟨y, hy, e⟩ := some_bind e
    rw [val_do] at e
    obtain ⟨v, hv, e⟩ := some_bind e
    rw [val_of] at hv
    obtain ⟨h1, h2⟩ := h.slots c v hv
    rw [val_do] at e
    obtain ⟨x, hx, e⟩ := some_bind e
    obtain ⟨u, r1, r2⟩ := loadA_sound (P := P) hX (typ_some hy) h h2 hx
    have r1' : (do loadVar t (← asAddr (a.tmps.getD c undef)) : Sem Value).run P w = .ok u w := by
      generalize a.tmps.getD c undef = z at h2 r1
      cases h2 with
      | one h2 =>
        cases h2 <;> try (simp [loadA, val_stuck] at hx; done)
        · exact r1
        · exact r1
      | ag => simp [loadA, val_stuck] at hx
      | tp => simp [loadA, val_stuck] at hx
    refine ⟨u, r1', ?_⟩
    split at e
    · simp only [val_ok, Option.some.injEq, Prod.mk.injEq] at e
      obtain ⟨rfl, rfl⟩ := e
      cases r2 with
      | one r2 => exact ⟨_, rfl, r2⟩
    · simp only [val_ok, Option.some.injEq, Prod.mk.injEq] at e
      obtain ⟨rfl, rfl⟩ := e
      cases r2 with
      | ag r2 => exact ⟨_, rfl, r2⟩
    · simp [val_stuck] at e

theorem resAs_sound (hX : XOk P X) (h : Rel E β O S a w) : ∀ {l : List ResultVar} {vs : List (Bool × List Cell)}, (resAs X real S l).val = some vs →
    ∃ us, (l.mapM fun r => (match r with | .tmp t => pure (a.tmps.getD t undef) | .cell c t => do loadVar t (← asAddr (a.tmps.getD c undef)) : Sem Value)).run P w = .ok us w ∧ RGs w (Mof E β O S.σ) (envOf β S.σ) vs us
  | [], vs, e => by
    simp only [resAs, val_ok, Option.some.injEq] at e
    subst e
    exact ⟨[], by simp, .nil⟩
  | r :: l, vs, e => by
    simp only [resAs, val_do] at e
    obtain ⟨⟨g, cs⟩, h1, e⟩ := some_bind e
    obtain ⟨us, h2, e⟩ := some_bind e
    simp only [val_ok, Option.some.injEq] at e
    subst e
    obtain ⟨v, r1, r2⟩ := resA1_sound (P := P) hX h h1
    obtain ⟨vs, q1, q2⟩ := resAs_sound hX h h2
    refine ⟨v :: vs, ?_, .cons r2 q2⟩
    rw [List.mapM_cons]
    simp only [Sem.run_bind, r1, Result.andThen_ok, q1, Sem.run_pure]

theorem RGs.length : ∀ {M : Nat → Prop} {env : EnvT} {l : List (Bool × List Cell)} {vs : List Value}, RGs w M env l vs → l.length = vs.length
  | _, _, _, _, .nil => rfl
  | _, _, _, _, .cons _ hr => congrArg (· + 1) (RGs.length hr)
theorem resA_sound (hX : XOk P X) (h : Rel E β O S a w) {r : AV} (e : (resA X real S fn.results.toList).val = some r) : ∃ u, (results fn a.tmps).run P w = .ok u w ∧ RAV w (Mof E β O S.σ) (envOf β S.σ) r u := by
  unfold resA at e
  rw [val_do] at e
  obtain ⟨vs, h1, e⟩ := some_bind e
  obtain ⟨us, r1, r2⟩ := resAs_sound (P := P) hX h h1
  have hl := r2.length
  have run : (results fn a.tmps).run P w = .ok (if h : us.toArray.size = 1 then us.toArray[0] else .tuple us.toArray) w := by
    unfold results
    rw [Array.mapM_eq_mapM_toList]
    simp only [map_eq_pure_bind, Sem.run_bind, Sem.run_pure]
    have r1' : (fn.results.toList.mapM fun x => (match x with | .tmp t => pure (a.tmps.getD t undef) | .cell c t => do loadVar t (← asAddr (a.tmps.getD c undef)) : Sem Value)).run P w = .ok us w := r1
    erw [r1']
    rfl
  refine ⟨_, run, ?_⟩
  split at e
  · rename_i g cs
    cases r2 with
    | cons hg hr =>
      cases hr
      rename_i v
      show RAV _ _ _ r v
      cases g with
      | true =>
        obtain ⟨vs, rfl, h3⟩ := hg
        simp only [mk, val_ok, Option.some.injEq] at e
        subst e
        exact .ag h3
      | false =>
        obtain ⟨c, rfl, h3⟩ := hg
        simp only [mk, val_ok, Option.some.injEq] at e
        subst e
        exact .one h3
  · rename_i hne
    simp only [val_ok, Option.some.injEq] at e
    subst e
    have hne1 : us.length ≠ 1 := by
      intro h1
      rw [← hl] at h1
      obtain ⟨x, rfl⟩ := List.length_eq_one_iff.1 h1
      exact hne x.1 x.2 rfl
    rw [dif_neg (by simpa using hne1)]
    exact .tp (by simpa using r2)

/-! ### Slots in bounds -/
def opsIn (n : Nat) : List Oper → Bool
  | [] => true
  | o :: r => match o.dst with
    | some t => match Nat.blt t n with
      | true => opsIn n r
      | false => false
    | none => opsIn n r
def codeIn (n : Nat) : Code → Bool
  | .region _ ops _ => opsIn n ops.toList
  | .seq x y => match codeIn n x with
    | true => codeIn n y
    | false => false
  | .cond _ x y => match codeIn n x with
    | true => codeIn n y
    | false => false
  | .block _ c => codeIn n c
  | .loop c => codeIn n c
  | _ => true
theorem opsIn_spec {n : Nat} : ∀ {l : List Oper}, opsIn n l = true → ∀ o ∈ l, ∀ t, o.dst = some t → t < n
  | [], _, o, ho => by simp at ho
  | x :: l, h, o, ho => by
    unfold opsIn at h
    intro t ht
    split at h
    · rename_i d hd
      split at h
      · rename_i hb
        rcases List.mem_cons.1 ho with rfl | ho
        · rw [hd] at ht
          obtain rfl := Option.some.inj ht
          exact Nat.le_of_ble_eq_true hb
        · exact opsIn_spec h o ho t ht
      · cases h
    · rename_i hd
      rcases List.mem_cons.1 ho with rfl | ho
      · rw [hd] at ht; cases ht
      · exact opsIn_spec h o ho t ht
def Itm.inn (n : Nat) : Itm → Prop
  | .code _ c => codeIn n c = true
  | .blk _ => True
  | .lop _ c => codeIn n c = true
theorem start_in {n : Nat} : ∀ (p q : List Nat) (c : Code) (k : List Itm), codeIn n c = true → (∀ x ∈ k, x.inn n) → ∀ x ∈ start q c p k, x.inn n
  | [], q, c, k, h, hk => by
    have : start q c [] k = .code q c :: k := by cases c <;> rfl
    rw [this]
    intro x hx
    rcases List.mem_cons.1 hx with rfl | hx
    · exact h
    · exact hk x hx
  | d :: p, q, c, k, h, hk => by
    cases c <;> simp only [start]
    case seq x y =>
      have hx : codeIn n x = true := by unfold codeIn at h; split at h <;> first | assumption | cases h
      have hy : codeIn n y = true := by unfold codeIn at h; split at h <;> first | assumption | cases h
      cases d
      · exact start_in p _ x _ hx (fun z hz => by
          rcases List.mem_cons.1 hz with rfl | hz
          · exact hy
          · exact hk z hz)
      · exact start_in p _ y _ hy hk
    case cond _ x y =>
      have hx : codeIn n x = true := by unfold codeIn at h; split at h <;> first | assumption | cases h
      have hy : codeIn n y = true := by unfold codeIn at h; split at h <;> first | assumption | cases h
      cases d
      · exact start_in p _ x _ hx hk
      · exact start_in p _ y _ hy hk
    case block => exact start_in p _ _ _ h (fun z hz => by
        rcases List.mem_cons.1 hz with rfl | hz
        · trivial
        · exact hk z hz)
    case loop => exact start_in p _ _ _ h (fun z hz => by
        rcases List.mem_cons.1 hz with rfl | hz
        · exact h
        · exact hk z hz)
    all_goals
      intro x hx
      rcases List.mem_cons.1 hx with rfl | hx
      · exact h
      · exact hk x hx

theorem exitI_sound {id : Nat} {n : Nat} : ∀ {k k' : List Itm}, exitI id k = some k' → exitTo id (k.map Itm.item) = some (k'.map Itm.item) ∧ (Good b k → Good b k') ∧ ((∀ x ∈ k, x.inn n) → ∀ x ∈ k', x.inn n)
  | [], k', h => by cases h
  | .blk id' :: k, k', h => by
    unfold exitI at h
    split at h
    · rename_i hb
      simp only [Option.some.injEq] at h
      subst h
      have := beq_eq hb
      subst this
      exact ⟨by simp [Itm.item, exitTo], fun hg => hg, fun hk x hx => hk x (List.mem_cons_of_mem _ hx)⟩
    · rename_i hb
      obtain ⟨h1, h2, h3⟩ := exitI_sound (n := n) h
      have hne : (id' == id) = false := by
        have := beq_ne hb
        simpa using this
      exact ⟨by simp [Itm.item, exitTo, hne, h1], fun hg => h2 hg, fun hk => h3 (fun x hx => hk x (List.mem_cons_of_mem _ hx))⟩
  | .code _ _ :: k, k', h => by
    obtain ⟨h1, h2, h3⟩ := exitI_sound (k := k) (n := n) h
    exact ⟨by simp [Itm.item, exitTo, h1], fun hg => h2 hg.2, fun hk => h3 (fun x hx => hk x (List.mem_cons_of_mem _ hx))⟩
  | .lop _ _ :: k, k', h => by
    obtain ⟨h1, h2, h3⟩ := exitI_sound (k := k) (n := n) h
    exact ⟨by simp [Itm.item, exitTo, h1], fun hg => h2 hg.2, fun hk => h3 (fun x hx => hk x (List.mem_cons_of_mem _ hx))⟩

/-- What stands at an end. -/
def Ended (E : Ent) (R : Value → World → Prop) (r : AV) (S : St) : Prop := ∀ β O a w u, Rel E β O S a w → RAV w (Mof E β O S.σ) (envOf β S.σ) r u → R u w

theorem go_sound (hX : XOk P X) (hY : CallsOk P Y) (hf : P.funcs[f]? = some fn) : ∀ (n : Nat) (its : List Itm) (S : St), Good b its → (∀ x ∈ its, x.inn fn.ntmps) →
    (go X real Y fn.results.toList n its S).holds (Ended E R) (fun p S => W P f fn E R (place b (p ++ [0]) []) S) (fun p S => W P f fn E R (place b p []) S) → W P f fn E R (its.map Itm.item) S
  | 0, _, _, _, _, h => h.elim
  | n + 1, [], S, hg, hi, h => by
    intro β O a w hr hs
    unfold go at h
    obtain ⟨r, h1, h2⟩ := Aix.R.out_holds h
    obtain ⟨u, r1, r2⟩ := resA_sound (P := P) hX hr h1
    exact At.end hf hr.nodef r1 (h2 β O a w u hr r2)
  | n + 1, .blk id :: k, S, hg, hi, h => by
    intro β O a w hr hs
    exact At.inBlock (go_sound hX hY hf n k S hg (fun x hx => hi x (List.mem_cons_of_mem _ hx)) h β O a w hr hs)
  | n + 1, .lop p c :: k, S, hg, hi, h => by
    intro β O a w hr hs
    have h' : W P f fn E R (place b (p ++ [0]) []) S := h
    rw [place_snoc 0 p b _ [] _ hg.1] at h'
    exact At.inLoop (h' β O a w hr hs)
  | n + 1, .code p c :: k, S, hg, hi, h => by
    intro β O a w hr hs
    have hk : ∀ x ∈ k, x.inn fn.ntmps := fun x hx => hi x (List.mem_cons_of_mem _ hx)
    have hc : codeIn fn.ntmps c = true := hi _ List.mem_cons_self
    have hsn := fun d => place_snoc d p b c [] _ hg.1
    cases c with
    | skip => exact At.skip (go_sound hX hY hf n k S hg.2 hk h β O a w hr hs)
    | region id ops d =>
      cases d with
      | false =>
        unfold go at h
        simp only at h
        obtain ⟨S1, h1, h2⟩ := Aix.R.out_holds h
        refine At.region (goOps_sound hX hY (n := fn.ntmps) ?_ hr hs h1 ?_)
        · intro i o t ho ht
          exact opsIn_spec hc o (by have := Array.mem_of_getElem? ho; simpa using this) t ht
        · intro β' O' a' w' hr' hs'
          exact go_sound hX hY hf n k S1 hg.2 hk h2 β' O' a' w' hr' hs'
      | true =>
        unfold go at h
        simp only at h
        split at h
        · rename_i hq
          obtain ⟨S1, h1, h2⟩ := Aix.R.out_holds h
          refine At.code (wp_region_any hY.mixed (quiet_sound hX hY hq (n0 := fn.ntmps) ?_ (hr.drew) hs h1 ?_))
          · intro i o t ho ht
            exact opsIn_spec hc o (by have := Array.mem_of_getElem? ho; simpa using this) t ht
          · intro β' O' a' w' hr' hs'
            exact go_sound hX hY hf n k S1 hg.2 hk h2 β' O' a' w' hr' hs'
        · have h' : W P f fn E R (place b p []) S := h
          rw [hg.1] at h'
          exact h' β O a w hr hs
    | seq x y =>
      have hx : codeIn fn.ntmps x = true := by unfold codeIn at hc; split at hc <;> first | assumption | cases hc
      have hy : codeIn fn.ntmps y = true := by unfold codeIn at hc; split at hc <;> first | assumption | cases hc
      refine At.seq (go_sound hX hY hf n (.code (p ++ [0]) x :: .code (p ++ [1]) y :: k) S ⟨by rw [hsn 0]; rfl, by rw [hsn 1]; rfl, hg.2⟩ ?_ h β O a w hr hs)
      intro z hz
      rcases List.mem_cons.1 hz with rfl | hz
      · exact hx
      · rcases List.mem_cons.1 hz with rfl | hz
        · exact hy
        · exact hk z hz
    | cond c x y =>
      have hx : codeIn fn.ntmps x = true := by unfold codeIn at hc; split at hc <;> first | assumption | cases hc
      have hy : codeIn fn.ntmps y = true := by unfold codeIn at hc; split at hc <;> first | assumption | cases hc
      unfold go at h
      simp only at h
      obtain ⟨v, h1, h2⟩ := Aix.R.out_holds h
      have hv := evalO_sound hr h1
      split at h2
      · rename_i t
        have hv := RAV.sc hv
        refine At.cond hv ?_
        cases t with
        | true =>
          refine go_sound hX hY hf n (.code (p ++ [0]) x :: k) S ⟨by rw [hsn 0]; rfl, hg.2⟩ ?_ (h2.1 rfl) β O a w hr hs
          intro z hz
          rcases List.mem_cons.1 hz with rfl | hz
          · exact hx
          · exact hk z hz
        | false =>
          refine go_sound hX hY hf n (.code (p ++ [1]) y :: k) S ⟨by rw [hsn 1]; rfl, hg.2⟩ ?_ (h2.2 rfl) β O a w hr hs
          intro z hz
          rcases List.mem_cons.1 hz with rfl | hz
          · exact hy
          · exact hk z hz
      · exact h2.elim
    | block id c =>
      refine At.block (go_sound hX hY hf n (.code (p ++ [0]) c :: .blk id :: k) S ⟨by rw [hsn 0]; rfl, hg.2⟩ ?_ h β O a w hr hs)
      intro z hz
      rcases List.mem_cons.1 hz with rfl | hz
      · exact hc
      · rcases List.mem_cons.1 hz with rfl | hz
        · trivial
        · exact hk z hz
    | loop c =>
      have h' : W P f fn E R (place b (p ++ [0]) []) S := h
      rw [hsn 0] at h'
      exact At.loop (h' β O a w hr hs)
    | exit id =>
      unfold go at h
      simp only at h
      split at h
      · rename_i k' hk'
        obtain ⟨e1, e2, e3⟩ := exitI_sound (b := b) (n := fn.ntmps) hk'
        exact At.exit e1 (go_sound hX hY hf n k' S (e2 hg.2) (e3 hk) h β O a w hr hs)
      · exact h.elim
    | ret =>
      unfold go at h
      simp only at h
      obtain ⟨r, h1, h2⟩ := Aix.R.out_holds h
      obtain ⟨u, r1, r2⟩ := resA_sound (P := P) hX hr h1
      exact At.ret hf hr.nodef r1 (h2 β O a w u hr r2)
    | label l => exact At.label (go_sound hX hY hf n k S hg.2 hk h β O a w hr hs)
    | _ => exact h.elim

/-- Stepping on from a place. -/
theorem W_go (hX : XOk P X) (hY : CallsOk P Y) (hf : P.funcs[f]? = some fn) (hin : codeIn fn.ntmps b = true) (n : Nat) (p : List Nat) {I : Ops} (hI : I = real)
    (h : (go X I Y fn.results.toList n (start [] b p []) S).holds (Ended E R) (fun p S => W P f fn E R (place b (p ++ [0]) []) S) (fun p S => W P f fn E R (place b p []) S)) : W P f fn E R (place b p []) S := by
  subst hI
  have h0 : place b [] [] = .code b :: ([] : List Itm).map Itm.item := by cases b <;> rfl
  have := go_sound (b := b) hX hY hf n _ S (start_good b p [] b [] h0 trivial) (start_in p [] b [] hin (fun _ h => nomatch h)) h
  rwa [start_item] at this
end
end Go.Aix
