/-
  THE CALCULUS, TWENTY-THIRD TEXT: operations that only reckon yield the same in any world.
-/
import Derived.Test.YtafdnkachndacaaAixIce
set_option linter.unusedSimpArgs false
set_option linter.unusedVariables false
namespace Go.Aix
def pureOp (o : Oper) : Bool := match o.op with
  | .move _ => true
  | .assign _ => true
  | .pick _ _ _ => true
  | .nilCheck _ => true
  | .binOp _ _ _ _ _ => true
  | .unOp _ _ _ => true
  | .convert _ _ _ => true
  | .makeFunc _ _ _ => true
  | .fieldAddr _ _ _ => true
  | .field _ _ _ => true
  | .indexAddr _ _ _ => true
  | .index _ _ _ => true
  | .extract _ _ => true
  | .call c => match c.callee with
    | .builtin b => match b with
      | .len => true
      | .min => true
      | .max => true
      | _ => false
    | _ => false
  | _ => false
section
variable {P : Program} {X : Ctx} {E : Ent} {β : Nat → Nat × Nat} {O : Nat → List Nat} {S : St} {a : Act} {w : World} {M : Nat → Prop} {env : EnvT}

theorem pure_step {o : Oper} {u : Value} {x : AV} (hr : ∀ w', (execOp a.eval o).run P w' = .ok (.value u) w') (hv : RAV w M env x u) {S' : St} (e : (R.ok (Aix.setDst S o.dst x)).val = some S') :
    ∃ u x, S' = setDst S o.dst x ∧ (∀ w', (execOp a.eval o).run P w' = .ok (.value u) w') ∧ RAV w M env x u := by
  simp only [val_ok, Option.some.injEq] at e
  exact ⟨u, x, e.symm, hr, hv⟩

theorem step_pure (hX : XOk P X) {o : Oper} {pos : Bool} {S' : St} (hp : pureOp o = true) (h : Rel E β O S a w) (e : (stepOp X real pos S o).val = some S') :
    ∃ u x, S' = setDst S o.dst x ∧ (∀ w', (execOp a.eval o).run P w' = .ok (.value u) w') ∧ RAV w (Mof E β O S.σ) (envOf β S.σ) x u := by
  unfold stepOp at e
  split at e
  · -- move
    rename_i x ho
    rw [val_do] at e
    obtain ⟨v, h1, e⟩ := some_bind e
    exact pure_step (fun w' => by simp only [execOp, ho]; rfl) (evalO_sound h h1) e
  · rename_i x ho
    rw [val_do] at e
    obtain ⟨v, h1, e⟩ := some_bind e
    exact pure_step (fun w' => by simp only [execOp, ho]; rfl) (evalO_sound h h1) e
  · -- pick
    rename_i c x y ho
    rw [val_do] at e
    obtain ⟨t, h1, e⟩ := some_bind e
    have hc := evalO_sound h h1
    split at e
    · rename_i b
      have hc := RAV.sc hc
      rw [val_ask] at e
      have run : ∀ w', (execOp a.eval o).run P w' = .ok (.value (if b then a.eval x else a.eval y)) w' := by
        intro w'
        simp only [execOp, ho, hc, asBool]
        cases b <;> rfl
      cases b with
      | true =>
        simp only at e
        rw [val_do] at e
        obtain ⟨v, h2, e⟩ := some_bind e
        exact pure_step run (evalO_sound h h2) e
      | false =>
        simp only at e
        rw [val_do] at e
        obtain ⟨v, h2, e⟩ := some_bind e
        exact pure_step run (evalO_sound h h2) e
    · simp [val_stuck] at e
  · rename_i ho; simp [pureOp, ho] at hp
  · rename_i ho; simp [pureOp, ho] at hp
  · rename_i ho; simp [pureOp, ho] at hp
  · rename_i ho; simp [pureOp, ho] at hp
  · rename_i ho; simp [pureOp, ho] at hp
  · rename_i ho; simp [pureOp, ho] at hp
  · -- nilCheck
    rename_i x ho
    rw [val_do] at e
    obtain ⟨v, h1, e⟩ := some_bind e
    have hv := evalO_sound h h1
    split at e
    · refine pure_step (fun w' => ?_) hv e
      simp only [execOp, ho]
      generalize a.eval x = u at hv
      cases hv with
      | one hv => cases hv with
        | ptr => rfl
    · refine pure_step (fun w' => ?_) hv e
      simp only [execOp, ho]
      generalize a.eval x = u at hv
      cases hv with
      | one hv => cases hv with
        | ep => rfl
    · simp [val_stuck] at e
  · -- binOp
    rename_i op t x y _ ho
    rw [val_do] at e
    obtain ⟨av, h1, e⟩ := some_bind e
    rw [val_do] at e
    obtain ⟨bv, h2, e⟩ := some_bind e
    have ha := evalO_sound h h1
    have hb := evalO_sound h h2
    split at e
    · rename_i u
      split at e
      · rename_i u'
        have ha := RAV.sc ha
        have hb := RAV.sc hb
        rw [val_do] at e
        obtain ⟨v, h3, e⟩ := some_bind e
        refine pure_step (fun w' => ?_) (RAV.scal (binA_sound (P := P) (w := w) hX h3).2.1) e
        obtain ⟨r1, r2, r3, r4⟩ := binA_sound (P := P) (w := w') hX h3
        simp only [execOp, ho, ha, hb]
        refine run_v ?_
        rw [Sem.run_bind, run_eqGuard r4 r3, Result.andThen_ok, r1]
      · simp [val_stuck] at e
    · simp [val_stuck] at e
  · -- unOp
    rename_i op _ x ho
    rw [val_do] at e
    obtain ⟨av, h1, e⟩ := some_bind e
    have ha := evalO_sound h h1
    split at e
    · rename_i u
      have ha := RAV.sc ha
      rw [val_do] at e
      obtain ⟨v, h3, e⟩ := some_bind e
      refine pure_step (fun w' => ?_) (RAV.scal (unA_sound (P := P) (w := w) h3).2) e
      simp only [execOp, ho, ha]
      exact run_v (unA_sound (P := P) (w := w') h3).1
    · simp [val_stuck] at e
  · -- convert
    rename_i s t x ho
    rw [val_do] at e
    obtain ⟨y0, hy0, e⟩ := some_bind e
    rw [val_do] at e
    obtain ⟨y, hy, e⟩ := some_bind e
    rw [val_do] at e
    obtain ⟨av, h1, e⟩ := some_bind e
    have ha := evalO_sound h h1
    obtain ⟨i, d, z, hi, hd', _, _, _, _, _, hu⟩ := tyOf_some (hX t y (typ_some hy))
    obtain ⟨i0, d0, z0, hi0, hd0, _, _, _, _, _, hu0⟩ := tyOf_some (hX s y0 (typ_some hy0))
    split at e
    · rename_i k hyk
      have := uOf_int (hu.symm.trans hyk)
      subst this
      split at e
      · rename_i k' n
        have ha := RAV.sc ha
        refine pure_step (fun w' => ?_) (RAV.scal rfl) e
        simp only [execOp, ho, ha]
        refine run_v ?_
        unfold convert
        simp only [Sem.run_bind, run_und hd0, run_und hd', Result.andThen_ok]
        rfl
      · simp [val_stuck] at e
    · simp [val_stuck] at e
  · -- makeFunc
    rename_i fn first caps ho
    split at e
    · rename_i f
      split at e
      · rename_i hf
        rw [val_do] at e
        obtain ⟨ps, h1, e⟩ := some_bind e
        have hc := capsA_sound h h1
        refine pure_step (u := .func (.func f) #[] (caps.map a.eval)) (fun w' => ?_) (.one (.fn (by rw [Array.toList_map]; exact hc))) e
        have : first = #[] := by rw [← Array.toArray_toList (xs := first), hf]
        subst this
        simp only [execOp, ho]
        refine run_v ?_
        simp [Instr.makeFunc]
      · simp [val_stuck] at e
    · simp [val_stuck] at e
  · rename_i ho; simp [pureOp, ho] at hp
  · rename_i ho; simp [pureOp, ho] at hp
  · -- fieldAddr
    rename_i t x f ho
    rw [val_do] at e
    obtain ⟨⟨off, sz, g⟩, hf, e⟩ := some_bind e
    simp only at e
    rw [val_do] at e
    obtain ⟨av, h1, e⟩ := some_bind e
    rw [val_do] at e
    obtain ⟨v, h2, e⟩ := some_bind e
    obtain ⟨u, r1, r2⟩ := fieldAddrA_sound (P := P) (w := w) hX hf (evalO_sound h h1) h2
    exact pure_step (fun w' => by simp only [execOp, ho]; exact run_v (r1 w')) r2 e
  · -- field
    rename_i t x f ho
    rw [val_do] at e
    obtain ⟨⟨off, sz, g⟩, hf, e⟩ := some_bind e
    simp only at e
    rw [val_do] at e
    obtain ⟨av, h1, e⟩ := some_bind e
    have ha := evalO_sound h h1
    split at e
    · split at e
      · rename_i hle
        rw [val_do] at e
        obtain ⟨v, h2, e⟩ := some_bind e
        obtain ⟨u, r1, r2⟩ := fieldPart_sound (P := P) (w := w) hX hf ha hle h2
        exact pure_step (fun w' => by simp only [execOp, ho]; exact run_v (r1 w')) r2 e
      · simp [val_stuck] at e
    · simp [val_stuck] at e
  · -- indexAddr
    rename_i t x i ho
    rw [val_do] at e
    obtain ⟨y, hy, e⟩ := some_bind e
    rw [val_do] at e
    obtain ⟨av, h1, e⟩ := some_bind e
    rw [val_do] at e
    obtain ⟨iv, h2, e⟩ := some_bind e
    rw [val_do] at e
    obtain ⟨n, h3, e⟩ := some_bind e
    rw [val_do] at e
    obtain ⟨v, h4, e⟩ := some_bind e
    obtain ⟨k, hk⟩ := asI_sound (evalO_sound h h2) h3
    obtain ⟨u, r1, r2⟩ := indexAddrA_sound (P := P) (w := w) (k := k) hX hy (evalO_sound h h1) h4
    exact pure_step (fun w' => by simp only [execOp, ho, hk]; exact run_v (r1 w')) r2 e
  · -- index
    rename_i t x i ho
    rw [val_do] at e
    obtain ⟨y, hy, e⟩ := some_bind e
    rw [val_do] at e
    obtain ⟨av, h1, e⟩ := some_bind e
    rw [val_do] at e
    obtain ⟨iv, h2, e⟩ := some_bind e
    rw [val_do] at e
    obtain ⟨n, h3, e⟩ := some_bind e
    obtain ⟨k, hk⟩ := asI_sound (evalO_sound h h2) h3
    obtain ⟨i0, d, z, hi', hd', _, _, _, _, _, hu⟩ := tyOf_some (hX t y (typ_some hy))
    have ha := evalO_sound h h1
    split at e
    · rename_i hye
      have := uOf_str (hu.symm.trans hye)
      subst this
      split at e
      · rename_i s e0 e1
        clear e0 e1
        have ha := RAV.sc ha
        rw [val_demand] at e
        split at e
        · rename_i hin
          have hin : 0 ≤ n ∧ n < (s.size : Int) := of_decide_eq_true hin
          refine pure_step (fun w' => ?_) (RAV.scal rfl) e
          simp only [execOp, ho, hk, ha]
          refine run_v ?_
          have hlt : n.toNat < s.size := by omega
          have hg : s[n.toNat]? = some s[n.toNat] := getElem?_pos s n.toNat hlt
          unfold Instr.index
          simp only [Sem.run_bind, asIntOf, Sem.run_pure, Result.andThen_ok, run_und hd', hin.1, if_true, hg]
          simp [real, hg]
        · cases e
      · simp [val_stuck] at e
    · simp [val_stuck] at e
  · -- extract
    rename_i x i ho
    rw [val_do] at e
    obtain ⟨av, h1, e⟩ := some_bind e
    have ha := evalO_sound h h1
    split at e
    · split at e
      · rename_i g cs hg
        rw [val_do] at e
        obtain ⟨v, h2, e⟩ := some_bind e
        generalize hu : a.eval x = u at ha
        cases ha with
        | tp ha =>
          rename_i vs
          obtain ⟨u, hu1, hu2⟩ := ha.get i _ hg
          refine pure_step (u := u) (fun w' => ?_) ?_ e
          · simp only [execOp, ho, hu]
            refine run_v ?_
            unfold Instr.extract
            have : vs[i]? = some u := by simpa using hu1
            simp [this]
          · cases g with
            | true =>
              obtain ⟨us, rfl, hus⟩ := hu2
              simp only [mk, val_ok, Option.some.injEq] at h2
              subst h2
              exact .ag hus
            | false =>
              obtain ⟨c, rfl, hc⟩ := hu2
              simp only [mk, val_ok, Option.some.injEq] at h2
              subst h2
              exact .one hc
      · simp [val_stuck] at e
    · simp [val_stuck] at e
  · -- a built-in function
    rename_i c ho
    split at e
    · rename_i b hb
      unfold builtinA at e
      split at e
      · split at e
        · rename_i x ha
          split at e
          · rename_i t ht
            rw [val_do] at e
            obtain ⟨y, hy, e⟩ := some_bind e
            rw [val_do] at e
            obtain ⟨v, h1, e⟩ := some_bind e
            rw [val_do] at e
            obtain ⟨n, h2, e⟩ := some_bind e
            obtain ⟨r1, r2⟩ := lenA_sound (P := P) hX (typ_some hy) (evalO_sound h h1) (o := o.type) h2
            exact pure_step (fun w' => run_call_len ho hb ha ht (r1 w')) (RAV.scal r2) e
          · simp [val_stuck] at e
        · simp [val_stuck] at e
      · simp [pureOp, ho, hb] at hp
      · split at e
        · rename_i x y ha
          rw [val_do] at e
          obtain ⟨av, h1, e⟩ := some_bind e
          rw [val_do] at e
          obtain ⟨bv, h2, e⟩ := some_bind e
          split at e
          · rename_i k n
            split at e
            · rename_i k' m
              have q1 := RAV.sc (evalO_sound h h1)
              have q2 := RAV.sc (evalO_sound h h2)
              exact pure_step (fun w' => run_call_min ho hb ha q1 q2) (RAV.scal rfl) e
            · simp [val_stuck] at e
          · simp [val_stuck] at e
        · simp [val_stuck] at e
      · split at e
        · rename_i x y ha
          rw [val_do] at e
          obtain ⟨av, h1, e⟩ := some_bind e
          rw [val_do] at e
          obtain ⟨bv, h2, e⟩ := some_bind e
          split at e
          · rename_i k n
            split at e
            · rename_i k' m
              have q1 := RAV.sc (evalO_sound h h1)
              have q2 := RAV.sc (evalO_sound h h2)
              exact pure_step (fun w' => run_call_max ho hb ha q1 q2) (RAV.scal rfl) e
            · simp [val_stuck] at e
          · simp [val_stuck] at e
        · simp [val_stuck] at e
      · simp [val_stuck] at e
    · simp [val_stuck] at e
  · simp [val_stuck] at e
end
end Go.Aix
