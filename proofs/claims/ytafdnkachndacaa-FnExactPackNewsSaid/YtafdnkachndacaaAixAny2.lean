/-
  THE CALCULUS, TWENTY-FIFTH TEXT: why the drawn regions hold.
-/
import Derived.Test.YtafdnkachndacaaAixAny
set_option linter.unusedSimpArgs false
set_option linter.unusedVariables false
namespace Go.Aix
section
variable {P : Program} {X : Ctx} {Y : CallsA} {f : FuncId} {fn : Func} {b : Code} {E : Ent} {Rr : Value → World → Prop} {β : Nat → Nat × Nat} {O : Nat → List Nat} {S : St} {a : Act} {w : World} {ops : Array Oper}

theorem firstPure_spec {listed : Array Bool} : ∀ {l : List Nat} {j : Nat}, firstPure ops listed l = some j → j ∈ l ∧ ∃ o, ops[j]? = some o ∧ pureOp o = true ∧ Region.free .any ops listed j = true
  | [], j, h => by cases h
  | i :: r, j, h => by
    unfold firstPure at h
    split at h
    · rename_i o ho
      split at h
      · rename_i hp
        simp only [Option.some.injEq] at h
        subst h
        rw [Bool.and_eq_true] at hp
        exact ⟨List.mem_cons_self, o, ho, hp.1, hp.2⟩
      · obtain ⟨h1, h2⟩ := firstPure_spec h
        exact ⟨List.mem_cons_of_mem _ h1, h2⟩
    · obtain ⟨h1, h2⟩ := firstPure_spec h
      exact ⟨List.mem_cons_of_mem _ h1, h2⟩

theorem opA_pure (hX : XOk P X) {o : Oper} {S' : St} (hp : pureOp o = true) (h : Rel E β O S a w) (hd : ∀ t, o.dst = some t → t < a.tmps.size) (e : (opA X real Y ops S o).val = some S') : ∃ v, Yields P ops o v a ∧ Rel E β O S' (a.put o.dst v) w := by
  unfold opA at e
  rw [val_do] at e
  obtain ⟨t, h1, e⟩ := some_bind e
  have hw := wantA_sound h h1
  cases t with
  | false =>
    simp only [val_ok, Option.some.injEq] at e
    subst e
    exact ⟨undef, .inr ⟨hw, rfl⟩, h.setDst hd (.tp (by exact .nil))⟩
  | true =>
    simp only at e
    have hc : isCall o = none := by
      unfold isCall
      unfold pureOp at hp
      split
      · rename_i c ho
        simp only [ho] at hp
        split
        · rename_i f hf
          simp [hf] at hp
        · rfl
      · rfl
    rw [hc] at e
    obtain ⟨u, x, rfl, hr, hv⟩ := step_pure hX hp h e
    exact ⟨u, .inl ⟨hw, hr⟩, h.setDst hd hv⟩
theorem allOut_holds {H : AV → St → Prop} {L N : List Nat → St → Prop} {f : Nat → Out} : ∀ {l : List Nat}, (allOut f l).holds H L N → ∀ i ∈ l, (f i).holds H L N
  | [], h, i, hi => by cases hi
  | [x], h, i, hi => by
    rcases List.mem_cons.1 hi with rfl | hi
    · exact h
    · cases hi
  | x :: y :: r, h, i, hi => by
    have h' : (f x).holds H L N ∧ (allOut f (y :: r)).holds H L N := h
    rcases List.mem_cons.1 hi with rfl | hi
    · exact h'.1
    · exact allOut_holds h'.2 i hi

theorem goAny_sound (hX : XOk P X) (hY : CallsOk P Y) (hs : Region.noSelect ops = true) {n0 : Nat} (hd : ∀ (i : Nat) (o : Oper) t, ops[i]? = some o → o.dst = some t → t < n0) {Q : Exit → Act → World → Prop} (hQ : ∀ c a w, ¬ Q (.panic c) a w)
    {H : AV → St → Prop} {L N : List Nat → St → Prop} {k : St → Out} (hk : ∀ S', (k S').holds H L N → ∀ β O a w, Rel E β O S' a w → a.tmps.size = n0 → Q .normal a w) :
    ∀ (n : Nat) (listed : Array Bool) (S : St) (β : Nat → Nat × Nat) (O : Nat → List Nat) (a : Act) (w : World), Rel E β O S a w → a.tmps.size = n0 → (goAny X real Y ops n listed S k).holds H L N → wpAny P .any ops Q n listed a w
  | 0, listed, S, β, O, a, w, h, hn, hh => by
    unfold goAny at hh
    split at hh
    · rename_i hr; exact ⟨hr, hk S hh β O a w h hn⟩
    · exact hh.elim
  | n + 1, listed, S, β, O, a, w, h, hn, hh => by
    unfold goAny at hh
    split at hh
    · rename_i hr; exact wpAny_done hr (hk S hh β O a w h hn) _
    · rename_i hne
      split at hh
      · rename_i j hj
        obtain ⟨hm, o, ho, hp, hf⟩ := firstPure_spec hj
        rw [ho] at hh
        obtain ⟨S1, e1, h1⟩ := R.out_holds hh
        obtain ⟨v, hy, hr⟩ := opA_pure hX hp h (fun t ht => by rw [hn]; exact hd j o t ho ht) e1
        exact wpAny_take ho hs hf (by simpa using hm) (fun c a w hq => (hQ _ _ _ hq).elim) hy (goAny_sound hX hY hs hd hQ hk n _ S1 β O _ w hr ((put_size ..).trans hn) h1)
      · refine wpAny_all rfl (fun e => hne e) ?_
        intro i hi
        have hfi := allOut_holds hh i hi
        split at hfi
        · rename_i o ho
          obtain ⟨S1, e1, h1⟩ := R.out_holds hfi
          exact opA_sound hX hY ho h (fun t ht => by rw [hn]; exact hd i o t ho ht) e1 (fun β' O' a' w' h' hs' => goAny_sound hX hY hs hd hQ hk n _ S1 β' O' a' w' h' (hs'.trans hn) h1)
        · exact hfi.elim
end
end Go.Aix
