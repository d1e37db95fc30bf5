/- Contracts. -/
import Derived.Test.YtngefcgbfpelcaaLdblW
set_option linter.unusedSimpArgs false
set_option linter.unusedVariables false
namespace Go.Proofs.Try
open Go Go.Aix
set_option maxRecDepth 100000
set_option maxHeartbeats 4000000
set_option linter.unusedSimpArgs false
set_option linter.unusedVariables false
theorem sk1 {l : List NodeV} {k : Int} (h : (nth l k.toNat).op = 5) (h2 : (nth l (nth l k.toNat).a.toNat).op = 5) : skipF l k = (nth l (nth l k.toNat).a.toNat).a := by
  unfold skipF; exact if_pos ⟨h, h2⟩
theorem sk2 {l : List NodeV} {k : Int} (h : (nth l k.toNat).op = 5) (h2 : ¬ (nth l (nth l k.toNat).a.toNat).op = 5) : skipF l k = k := by
  unfold skipF; rw [if_neg (fun z => h2 z.2), if_neg (fun z => by have := z.1; omega)]
theorem sk3 {l : List NodeV} {k : Int} (h : ¬ (nth l k.toNat).op = 5) (h3 : (nth l k.toNat).op = 11) (h2 : (nth l (nth l k.toNat).a.toNat).op = 11) : skipF l k = (nth l k.toNat).a := by
  unfold skipF; rw [if_neg (fun z => h z.1), if_pos ⟨h3, h2⟩]
theorem sk4 {l : List NodeV} {k : Int} (h : ¬ (nth l k.toNat).op = 5) (h3 : (nth l k.toNat).op = 11) (h2 : ¬ (nth l (nth l k.toNat).a.toNat).op = 11) : skipF l k = k := by
  unfold skipF; rw [if_neg (fun z => h z.1), if_neg (fun z => h2 z.2)]
theorem sk5 {l : List NodeV} {k : Int} (h : ¬ (nth l k.toNat).op = 5) (h3 : ¬ (nth l k.toNat).op = 11) : skipF l k = k := by
  unfold skipF; rw [if_neg (fun z => h z.1), if_neg (fun z => h3 z.1)]
theorem dbl_eq {l : List NodeV} {i : Nat} {va vb : Int} (ea : skipF l (nth l i).a = va) (eb : (if (nth l i).op = 4 ∨ (nth l i).op = 6 then skipF l (nth l i).b else (nth l i).b) = vb) : dblN l i = ⟨(nth l i).op, va, vb, (nth l i).col, (nth l i).test, (nth l i).value, (nth l i).cells⟩ := by
  unfold dblN; rw [ea, eb]
theorem lm_dbl {w : World} {Xs : Nat → Prop} (plan : List NodeV) (hl : plan.length ≤ 8) : ∀ (k i : Nat) (l : List NodeV) (d : Int), k + i = plan.length → l.length = plan.length → PlanI l → 0 ≤ d ∧ d ≤ i → G46_0 w Xs plan l d i (resPD (dblLp k i l d)) := by
  intro k
  induction k with
  | zero =>
    intro i l d hk hll hI hd
    apply st46_0
    rw [if_neg (by omega)]
    rfl
  | succ k ih =>
    intro i l d hk hll hI hd
    have hw : IntKind.i64.wrap (d + 1) = d + 1 := by rw [IntKind.wrap_i64]; omega
    apply st46_0
    rw [if_pos (by omega), wsucc (by omega), Int.toNat_natCast, hw]
    refine ⟨by omega, if_go (fun h1 => ?_) (fun h1 => ?_)⟩
    · rw [dblLp, if_pos h1]
      exact ih (i + 1) _ _ (by omega) hll hI (by omega)
    · rw [dblLp, if_neg h1]
      have ha := hI.a i (by omega) h1
      have hia := hI.a (nth l i).a.toNat (by omega)
      have key2 : ∀ (X : NodeV) (d' : Int), X = dblN l i → d' = (if (dblN l i).a = (nth l i).a ∧ (dblN l i).b = (nth l i).b then d else d + 1) →
          G46_0 w Xs plan (l.set i X) d' ((i + 1 : Nat) : Int) (resPD (dblLp k (i + 1) (l.set i (dblN l i)) (if (dblN l i).a = (nth l i).a ∧ (dblN l i).b = (nth l i).b then d else d + 1))) := by
        intro X d' e1 e2
        subst e1 e2
        refine ih (i + 1) _ _ (by omega) (by simp; omega) (hI.dbl (by omega) h1) ?_
        split <;> omega
      have hb := hI.b i (by omega)
      have hib := fun q => hI.a (nth l i).b.toNat (by have := hb q; omega)
      clear ih
      refine ⟨by omega, if_go (fun m5 => ⟨?_, if_go (fun m55 => ?_) (fun m55 => ?_)⟩) (fun m5 => if_go (fun m11 => ⟨?_, if_go (fun m111 => ?_) (fun m111 => ?_)⟩) (fun m11 => ?_))⟩
      · have := hia (by omega); omega
      · have ea := sk1 m5 m55
        refine if_go (fun o4 => ?_) (fun o4 => if_go (fun o6 => ?_) (fun o6 => ?_))
        · have hb2 := hb (Or.inl o4); have hib2 := hib (Or.inl o4)
          refine ⟨by omega, if_go (fun n5 => ⟨?_, if_go (fun n55 => ?_) (fun n55 => ?_)⟩) (fun n5 => if_go (fun n11 => ⟨?_, if_go (fun n111 => ?_) (fun n111 => ?_)⟩) (fun n11 => ?_))⟩
          · have := hib2 (by omega); omega
          · have eb : (if (nth l i).op = 4 ∨ (nth l i).op = 6 then skipF l (nth l i).b else (nth l i).b) = _ := (if_pos (Or.inl o4)).trans (sk1 n5 n55); (repeat' (refine if_go (fun _q => ?_) (fun _q => ?_))) <;> (refine key2 _ _ ?_ ?_ <;> rw [dbl_eq ea eb] <;> first | rfl | exact (if_pos ⟨by first | assumption | rfl, by first | assumption | rfl⟩).symm | exact (if_neg (fun z => absurd z.1 (by assumption))).symm | exact (if_neg (fun z => absurd z.2 (by assumption))).symm)
          · have eb : (if (nth l i).op = 4 ∨ (nth l i).op = 6 then skipF l (nth l i).b else (nth l i).b) = _ := (if_pos (Or.inl o4)).trans (sk2 n5 n55); (repeat' (refine if_go (fun _q => ?_) (fun _q => ?_))) <;> (refine key2 _ _ ?_ ?_ <;> rw [dbl_eq ea eb] <;> first | rfl | exact (if_pos ⟨by first | assumption | rfl, by first | assumption | rfl⟩).symm | exact (if_neg (fun z => absurd z.1 (by assumption))).symm | exact (if_neg (fun z => absurd z.2 (by assumption))).symm)
          · have := hib2 (by omega); omega
          · have eb : (if (nth l i).op = 4 ∨ (nth l i).op = 6 then skipF l (nth l i).b else (nth l i).b) = _ := (if_pos (Or.inl o4)).trans (sk3 n5 n11 n111); (repeat' (refine if_go (fun _q => ?_) (fun _q => ?_))) <;> (refine key2 _ _ ?_ ?_ <;> rw [dbl_eq ea eb] <;> first | rfl | exact (if_pos ⟨by first | assumption | rfl, by first | assumption | rfl⟩).symm | exact (if_neg (fun z => absurd z.1 (by assumption))).symm | exact (if_neg (fun z => absurd z.2 (by assumption))).symm)
          · have eb : (if (nth l i).op = 4 ∨ (nth l i).op = 6 then skipF l (nth l i).b else (nth l i).b) = _ := (if_pos (Or.inl o4)).trans (sk4 n5 n11 n111); (repeat' (refine if_go (fun _q => ?_) (fun _q => ?_))) <;> (refine key2 _ _ ?_ ?_ <;> rw [dbl_eq ea eb] <;> first | rfl | exact (if_pos ⟨by first | assumption | rfl, by first | assumption | rfl⟩).symm | exact (if_neg (fun z => absurd z.1 (by assumption))).symm | exact (if_neg (fun z => absurd z.2 (by assumption))).symm)
          · have eb : (if (nth l i).op = 4 ∨ (nth l i).op = 6 then skipF l (nth l i).b else (nth l i).b) = _ := (if_pos (Or.inl o4)).trans (sk5 n5 n11); (repeat' (refine if_go (fun _q => ?_) (fun _q => ?_))) <;> (refine key2 _ _ ?_ ?_ <;> rw [dbl_eq ea eb] <;> first | rfl | exact (if_pos ⟨by first | assumption | rfl, by first | assumption | rfl⟩).symm | exact (if_neg (fun z => absurd z.1 (by assumption))).symm | exact (if_neg (fun z => absurd z.2 (by assumption))).symm)
        · have hb2 := hb (Or.inr o6); have hib2 := hib (Or.inr o6)
          refine ⟨by omega, if_go (fun n5 => ⟨?_, if_go (fun n55 => ?_) (fun n55 => ?_)⟩) (fun n5 => if_go (fun n11 => ⟨?_, if_go (fun n111 => ?_) (fun n111 => ?_)⟩) (fun n11 => ?_))⟩
          · have := hib2 (by omega); omega
          · have eb : (if (nth l i).op = 4 ∨ (nth l i).op = 6 then skipF l (nth l i).b else (nth l i).b) = _ := (if_pos (Or.inr o6)).trans (sk1 n5 n55); (repeat' (refine if_go (fun _q => ?_) (fun _q => ?_))) <;> (refine key2 _ _ ?_ ?_ <;> rw [dbl_eq ea eb] <;> first | rfl | exact (if_pos ⟨by first | assumption | rfl, by first | assumption | rfl⟩).symm | exact (if_neg (fun z => absurd z.1 (by assumption))).symm | exact (if_neg (fun z => absurd z.2 (by assumption))).symm)
          · have eb : (if (nth l i).op = 4 ∨ (nth l i).op = 6 then skipF l (nth l i).b else (nth l i).b) = _ := (if_pos (Or.inr o6)).trans (sk2 n5 n55); (repeat' (refine if_go (fun _q => ?_) (fun _q => ?_))) <;> (refine key2 _ _ ?_ ?_ <;> rw [dbl_eq ea eb] <;> first | rfl | exact (if_pos ⟨by first | assumption | rfl, by first | assumption | rfl⟩).symm | exact (if_neg (fun z => absurd z.1 (by assumption))).symm | exact (if_neg (fun z => absurd z.2 (by assumption))).symm)
          · have := hib2 (by omega); omega
          · have eb : (if (nth l i).op = 4 ∨ (nth l i).op = 6 then skipF l (nth l i).b else (nth l i).b) = _ := (if_pos (Or.inr o6)).trans (sk3 n5 n11 n111); (repeat' (refine if_go (fun _q => ?_) (fun _q => ?_))) <;> (refine key2 _ _ ?_ ?_ <;> rw [dbl_eq ea eb] <;> first | rfl | exact (if_pos ⟨by first | assumption | rfl, by first | assumption | rfl⟩).symm | exact (if_neg (fun z => absurd z.1 (by assumption))).symm | exact (if_neg (fun z => absurd z.2 (by assumption))).symm)
          · have eb : (if (nth l i).op = 4 ∨ (nth l i).op = 6 then skipF l (nth l i).b else (nth l i).b) = _ := (if_pos (Or.inr o6)).trans (sk4 n5 n11 n111); (repeat' (refine if_go (fun _q => ?_) (fun _q => ?_))) <;> (refine key2 _ _ ?_ ?_ <;> rw [dbl_eq ea eb] <;> first | rfl | exact (if_pos ⟨by first | assumption | rfl, by first | assumption | rfl⟩).symm | exact (if_neg (fun z => absurd z.1 (by assumption))).symm | exact (if_neg (fun z => absurd z.2 (by assumption))).symm)
          · have eb : (if (nth l i).op = 4 ∨ (nth l i).op = 6 then skipF l (nth l i).b else (nth l i).b) = _ := (if_pos (Or.inr o6)).trans (sk5 n5 n11); (repeat' (refine if_go (fun _q => ?_) (fun _q => ?_))) <;> (refine key2 _ _ ?_ ?_ <;> rw [dbl_eq ea eb] <;> first | rfl | exact (if_pos ⟨by first | assumption | rfl, by first | assumption | rfl⟩).symm | exact (if_neg (fun z => absurd z.1 (by assumption))).symm | exact (if_neg (fun z => absurd z.2 (by assumption))).symm)
        · have eb : (if (nth l i).op = 4 ∨ (nth l i).op = 6 then skipF l (nth l i).b else (nth l i).b) = _ := if_neg (fun z => z.elim o4 o6); (repeat' (refine if_go (fun _q => ?_) (fun _q => ?_))) <;> (refine key2 _ _ ?_ ?_ <;> rw [dbl_eq ea eb] <;> first | rfl | exact (if_pos ⟨by first | assumption | rfl, by first | assumption | rfl⟩).symm | exact (if_neg (fun z => absurd z.1 (by assumption))).symm | exact (if_neg (fun z => absurd z.2 (by assumption))).symm)
      · have ea := sk2 m5 m55
        refine if_go (fun o4 => ?_) (fun o4 => if_go (fun o6 => ?_) (fun o6 => ?_))
        · have hb2 := hb (Or.inl o4); have hib2 := hib (Or.inl o4)
          refine ⟨by omega, if_go (fun n5 => ⟨?_, if_go (fun n55 => ?_) (fun n55 => ?_)⟩) (fun n5 => if_go (fun n11 => ⟨?_, if_go (fun n111 => ?_) (fun n111 => ?_)⟩) (fun n11 => ?_))⟩
          · have := hib2 (by omega); omega
          · have eb : (if (nth l i).op = 4 ∨ (nth l i).op = 6 then skipF l (nth l i).b else (nth l i).b) = _ := (if_pos (Or.inl o4)).trans (sk1 n5 n55); (repeat' (refine if_go (fun _q => ?_) (fun _q => ?_))) <;> (refine key2 _ _ ?_ ?_ <;> rw [dbl_eq ea eb] <;> first | rfl | exact (if_pos ⟨by first | assumption | rfl, by first | assumption | rfl⟩).symm | exact (if_neg (fun z => absurd z.1 (by assumption))).symm | exact (if_neg (fun z => absurd z.2 (by assumption))).symm)
          · have eb : (if (nth l i).op = 4 ∨ (nth l i).op = 6 then skipF l (nth l i).b else (nth l i).b) = _ := (if_pos (Or.inl o4)).trans (sk2 n5 n55); (repeat' (refine if_go (fun _q => ?_) (fun _q => ?_))) <;> (refine key2 _ _ ?_ ?_ <;> rw [dbl_eq ea eb] <;> first | rfl | exact (if_pos ⟨by first | assumption | rfl, by first | assumption | rfl⟩).symm | exact (if_neg (fun z => absurd z.1 (by assumption))).symm | exact (if_neg (fun z => absurd z.2 (by assumption))).symm)
          · have := hib2 (by omega); omega
          · have eb : (if (nth l i).op = 4 ∨ (nth l i).op = 6 then skipF l (nth l i).b else (nth l i).b) = _ := (if_pos (Or.inl o4)).trans (sk3 n5 n11 n111); (repeat' (refine if_go (fun _q => ?_) (fun _q => ?_))) <;> (refine key2 _ _ ?_ ?_ <;> rw [dbl_eq ea eb] <;> first | rfl | exact (if_pos ⟨by first | assumption | rfl, by first | assumption | rfl⟩).symm | exact (if_neg (fun z => absurd z.1 (by assumption))).symm | exact (if_neg (fun z => absurd z.2 (by assumption))).symm)
          · have eb : (if (nth l i).op = 4 ∨ (nth l i).op = 6 then skipF l (nth l i).b else (nth l i).b) = _ := (if_pos (Or.inl o4)).trans (sk4 n5 n11 n111); (repeat' (refine if_go (fun _q => ?_) (fun _q => ?_))) <;> (refine key2 _ _ ?_ ?_ <;> rw [dbl_eq ea eb] <;> first | rfl | exact (if_pos ⟨by first | assumption | rfl, by first | assumption | rfl⟩).symm | exact (if_neg (fun z => absurd z.1 (by assumption))).symm | exact (if_neg (fun z => absurd z.2 (by assumption))).symm)
          · have eb : (if (nth l i).op = 4 ∨ (nth l i).op = 6 then skipF l (nth l i).b else (nth l i).b) = _ := (if_pos (Or.inl o4)).trans (sk5 n5 n11); (repeat' (refine if_go (fun _q => ?_) (fun _q => ?_))) <;> (refine key2 _ _ ?_ ?_ <;> rw [dbl_eq ea eb] <;> first | rfl | exact (if_pos ⟨by first | assumption | rfl, by first | assumption | rfl⟩).symm | exact (if_neg (fun z => absurd z.1 (by assumption))).symm | exact (if_neg (fun z => absurd z.2 (by assumption))).symm)
        · have hb2 := hb (Or.inr o6); have hib2 := hib (Or.inr o6)
          refine ⟨by omega, if_go (fun n5 => ⟨?_, if_go (fun n55 => ?_) (fun n55 => ?_)⟩) (fun n5 => if_go (fun n11 => ⟨?_, if_go (fun n111 => ?_) (fun n111 => ?_)⟩) (fun n11 => ?_))⟩
          · have := hib2 (by omega); omega
          · have eb : (if (nth l i).op = 4 ∨ (nth l i).op = 6 then skipF l (nth l i).b else (nth l i).b) = _ := (if_pos (Or.inr o6)).trans (sk1 n5 n55); (repeat' (refine if_go (fun _q => ?_) (fun _q => ?_))) <;> (refine key2 _ _ ?_ ?_ <;> rw [dbl_eq ea eb] <;> first | rfl | exact (if_pos ⟨by first | assumption | rfl, by first | assumption | rfl⟩).symm | exact (if_neg (fun z => absurd z.1 (by assumption))).symm | exact (if_neg (fun z => absurd z.2 (by assumption))).symm)
          · have eb : (if (nth l i).op = 4 ∨ (nth l i).op = 6 then skipF l (nth l i).b else (nth l i).b) = _ := (if_pos (Or.inr o6)).trans (sk2 n5 n55); (repeat' (refine if_go (fun _q => ?_) (fun _q => ?_))) <;> (refine key2 _ _ ?_ ?_ <;> rw [dbl_eq ea eb] <;> first | rfl | exact (if_pos ⟨by first | assumption | rfl, by first | assumption | rfl⟩).symm | exact (if_neg (fun z => absurd z.1 (by assumption))).symm | exact (if_neg (fun z => absurd z.2 (by assumption))).symm)
          · have := hib2 (by omega); omega
          · have eb : (if (nth l i).op = 4 ∨ (nth l i).op = 6 then skipF l (nth l i).b else (nth l i).b) = _ := (if_pos (Or.inr o6)).trans (sk3 n5 n11 n111); (repeat' (refine if_go (fun _q => ?_) (fun _q => ?_))) <;> (refine key2 _ _ ?_ ?_ <;> rw [dbl_eq ea eb] <;> first | rfl | exact (if_pos ⟨by first | assumption | rfl, by first | assumption | rfl⟩).symm | exact (if_neg (fun z => absurd z.1 (by assumption))).symm | exact (if_neg (fun z => absurd z.2 (by assumption))).symm)
          · have eb : (if (nth l i).op = 4 ∨ (nth l i).op = 6 then skipF l (nth l i).b else (nth l i).b) = _ := (if_pos (Or.inr o6)).trans (sk4 n5 n11 n111); (repeat' (refine if_go (fun _q => ?_) (fun _q => ?_))) <;> (refine key2 _ _ ?_ ?_ <;> rw [dbl_eq ea eb] <;> first | rfl | exact (if_pos ⟨by first | assumption | rfl, by first | assumption | rfl⟩).symm | exact (if_neg (fun z => absurd z.1 (by assumption))).symm | exact (if_neg (fun z => absurd z.2 (by assumption))).symm)
          · have eb : (if (nth l i).op = 4 ∨ (nth l i).op = 6 then skipF l (nth l i).b else (nth l i).b) = _ := (if_pos (Or.inr o6)).trans (sk5 n5 n11); (repeat' (refine if_go (fun _q => ?_) (fun _q => ?_))) <;> (refine key2 _ _ ?_ ?_ <;> rw [dbl_eq ea eb] <;> first | rfl | exact (if_pos ⟨by first | assumption | rfl, by first | assumption | rfl⟩).symm | exact (if_neg (fun z => absurd z.1 (by assumption))).symm | exact (if_neg (fun z => absurd z.2 (by assumption))).symm)
        · have eb : (if (nth l i).op = 4 ∨ (nth l i).op = 6 then skipF l (nth l i).b else (nth l i).b) = _ := if_neg (fun z => z.elim o4 o6); (repeat' (refine if_go (fun _q => ?_) (fun _q => ?_))) <;> (refine key2 _ _ ?_ ?_ <;> rw [dbl_eq ea eb] <;> first | rfl | exact (if_pos ⟨by first | assumption | rfl, by first | assumption | rfl⟩).symm | exact (if_neg (fun z => absurd z.1 (by assumption))).symm | exact (if_neg (fun z => absurd z.2 (by assumption))).symm)
      · have := hia (by omega); omega
      · have ea := sk3 m5 m11 m111
        refine if_go (fun o4 => ?_) (fun o4 => if_go (fun o6 => ?_) (fun o6 => ?_))
        · have hb2 := hb (Or.inl o4); have hib2 := hib (Or.inl o4)
          refine ⟨by omega, if_go (fun n5 => ⟨?_, if_go (fun n55 => ?_) (fun n55 => ?_)⟩) (fun n5 => if_go (fun n11 => ⟨?_, if_go (fun n111 => ?_) (fun n111 => ?_)⟩) (fun n11 => ?_))⟩
          · have := hib2 (by omega); omega
          · have eb : (if (nth l i).op = 4 ∨ (nth l i).op = 6 then skipF l (nth l i).b else (nth l i).b) = _ := (if_pos (Or.inl o4)).trans (sk1 n5 n55); (repeat' (refine if_go (fun _q => ?_) (fun _q => ?_))) <;> (refine key2 _ _ ?_ ?_ <;> rw [dbl_eq ea eb] <;> first | rfl | exact (if_pos ⟨by first | assumption | rfl, by first | assumption | rfl⟩).symm | exact (if_neg (fun z => absurd z.1 (by assumption))).symm | exact (if_neg (fun z => absurd z.2 (by assumption))).symm)
          · have eb : (if (nth l i).op = 4 ∨ (nth l i).op = 6 then skipF l (nth l i).b else (nth l i).b) = _ := (if_pos (Or.inl o4)).trans (sk2 n5 n55); (repeat' (refine if_go (fun _q => ?_) (fun _q => ?_))) <;> (refine key2 _ _ ?_ ?_ <;> rw [dbl_eq ea eb] <;> first | rfl | exact (if_pos ⟨by first | assumption | rfl, by first | assumption | rfl⟩).symm | exact (if_neg (fun z => absurd z.1 (by assumption))).symm | exact (if_neg (fun z => absurd z.2 (by assumption))).symm)
          · have := hib2 (by omega); omega
          · have eb : (if (nth l i).op = 4 ∨ (nth l i).op = 6 then skipF l (nth l i).b else (nth l i).b) = _ := (if_pos (Or.inl o4)).trans (sk3 n5 n11 n111); (repeat' (refine if_go (fun _q => ?_) (fun _q => ?_))) <;> (refine key2 _ _ ?_ ?_ <;> rw [dbl_eq ea eb] <;> first | rfl | exact (if_pos ⟨by first | assumption | rfl, by first | assumption | rfl⟩).symm | exact (if_neg (fun z => absurd z.1 (by assumption))).symm | exact (if_neg (fun z => absurd z.2 (by assumption))).symm)
          · have eb : (if (nth l i).op = 4 ∨ (nth l i).op = 6 then skipF l (nth l i).b else (nth l i).b) = _ := (if_pos (Or.inl o4)).trans (sk4 n5 n11 n111); (repeat' (refine if_go (fun _q => ?_) (fun _q => ?_))) <;> (refine key2 _ _ ?_ ?_ <;> rw [dbl_eq ea eb] <;> first | rfl | exact (if_pos ⟨by first | assumption | rfl, by first | assumption | rfl⟩).symm | exact (if_neg (fun z => absurd z.1 (by assumption))).symm | exact (if_neg (fun z => absurd z.2 (by assumption))).symm)
          · have eb : (if (nth l i).op = 4 ∨ (nth l i).op = 6 then skipF l (nth l i).b else (nth l i).b) = _ := (if_pos (Or.inl o4)).trans (sk5 n5 n11); (repeat' (refine if_go (fun _q => ?_) (fun _q => ?_))) <;> (refine key2 _ _ ?_ ?_ <;> rw [dbl_eq ea eb] <;> first | rfl | exact (if_pos ⟨by first | assumption | rfl, by first | assumption | rfl⟩).symm | exact (if_neg (fun z => absurd z.1 (by assumption))).symm | exact (if_neg (fun z => absurd z.2 (by assumption))).symm)
        · have hb2 := hb (Or.inr o6); have hib2 := hib (Or.inr o6)
          refine ⟨by omega, if_go (fun n5 => ⟨?_, if_go (fun n55 => ?_) (fun n55 => ?_)⟩) (fun n5 => if_go (fun n11 => ⟨?_, if_go (fun n111 => ?_) (fun n111 => ?_)⟩) (fun n11 => ?_))⟩
          · have := hib2 (by omega); omega
          · have eb : (if (nth l i).op = 4 ∨ (nth l i).op = 6 then skipF l (nth l i).b else (nth l i).b) = _ := (if_pos (Or.inr o6)).trans (sk1 n5 n55); (repeat' (refine if_go (fun _q => ?_) (fun _q => ?_))) <;> (refine key2 _ _ ?_ ?_ <;> rw [dbl_eq ea eb] <;> first | rfl | exact (if_pos ⟨by first | assumption | rfl, by first | assumption | rfl⟩).symm | exact (if_neg (fun z => absurd z.1 (by assumption))).symm | exact (if_neg (fun z => absurd z.2 (by assumption))).symm)
          · have eb : (if (nth l i).op = 4 ∨ (nth l i).op = 6 then skipF l (nth l i).b else (nth l i).b) = _ := (if_pos (Or.inr o6)).trans (sk2 n5 n55); (repeat' (refine if_go (fun _q => ?_) (fun _q => ?_))) <;> (refine key2 _ _ ?_ ?_ <;> rw [dbl_eq ea eb] <;> first | rfl | exact (if_pos ⟨by first | assumption | rfl, by first | assumption | rfl⟩).symm | exact (if_neg (fun z => absurd z.1 (by assumption))).symm | exact (if_neg (fun z => absurd z.2 (by assumption))).symm)
          · have := hib2 (by omega); omega
          · have eb : (if (nth l i).op = 4 ∨ (nth l i).op = 6 then skipF l (nth l i).b else (nth l i).b) = _ := (if_pos (Or.inr o6)).trans (sk3 n5 n11 n111); (repeat' (refine if_go (fun _q => ?_) (fun _q => ?_))) <;> (refine key2 _ _ ?_ ?_ <;> rw [dbl_eq ea eb] <;> first | rfl | exact (if_pos ⟨by first | assumption | rfl, by first | assumption | rfl⟩).symm | exact (if_neg (fun z => absurd z.1 (by assumption))).symm | exact (if_neg (fun z => absurd z.2 (by assumption))).symm)
          · have eb : (if (nth l i).op = 4 ∨ (nth l i).op = 6 then skipF l (nth l i).b else (nth l i).b) = _ := (if_pos (Or.inr o6)).trans (sk4 n5 n11 n111); (repeat' (refine if_go (fun _q => ?_) (fun _q => ?_))) <;> (refine key2 _ _ ?_ ?_ <;> rw [dbl_eq ea eb] <;> first | rfl | exact (if_pos ⟨by first | assumption | rfl, by first | assumption | rfl⟩).symm | exact (if_neg (fun z => absurd z.1 (by assumption))).symm | exact (if_neg (fun z => absurd z.2 (by assumption))).symm)
          · have eb : (if (nth l i).op = 4 ∨ (nth l i).op = 6 then skipF l (nth l i).b else (nth l i).b) = _ := (if_pos (Or.inr o6)).trans (sk5 n5 n11); (repeat' (refine if_go (fun _q => ?_) (fun _q => ?_))) <;> (refine key2 _ _ ?_ ?_ <;> rw [dbl_eq ea eb] <;> first | rfl | exact (if_pos ⟨by first | assumption | rfl, by first | assumption | rfl⟩).symm | exact (if_neg (fun z => absurd z.1 (by assumption))).symm | exact (if_neg (fun z => absurd z.2 (by assumption))).symm)
        · have eb : (if (nth l i).op = 4 ∨ (nth l i).op = 6 then skipF l (nth l i).b else (nth l i).b) = _ := if_neg (fun z => z.elim o4 o6); (repeat' (refine if_go (fun _q => ?_) (fun _q => ?_))) <;> (refine key2 _ _ ?_ ?_ <;> rw [dbl_eq ea eb] <;> first | rfl | exact (if_pos ⟨by first | assumption | rfl, by first | assumption | rfl⟩).symm | exact (if_neg (fun z => absurd z.1 (by assumption))).symm | exact (if_neg (fun z => absurd z.2 (by assumption))).symm)
      · have ea := sk4 m5 m11 m111
        refine if_go (fun o4 => ?_) (fun o4 => if_go (fun o6 => ?_) (fun o6 => ?_))
        · have hb2 := hb (Or.inl o4); have hib2 := hib (Or.inl o4)
          refine ⟨by omega, if_go (fun n5 => ⟨?_, if_go (fun n55 => ?_) (fun n55 => ?_)⟩) (fun n5 => if_go (fun n11 => ⟨?_, if_go (fun n111 => ?_) (fun n111 => ?_)⟩) (fun n11 => ?_))⟩
          · have := hib2 (by omega); omega
          · have eb : (if (nth l i).op = 4 ∨ (nth l i).op = 6 then skipF l (nth l i).b else (nth l i).b) = _ := (if_pos (Or.inl o4)).trans (sk1 n5 n55); (repeat' (refine if_go (fun _q => ?_) (fun _q => ?_))) <;> (refine key2 _ _ ?_ ?_ <;> rw [dbl_eq ea eb] <;> first | rfl | exact (if_pos ⟨by first | assumption | rfl, by first | assumption | rfl⟩).symm | exact (if_neg (fun z => absurd z.1 (by assumption))).symm | exact (if_neg (fun z => absurd z.2 (by assumption))).symm)
          · have eb : (if (nth l i).op = 4 ∨ (nth l i).op = 6 then skipF l (nth l i).b else (nth l i).b) = _ := (if_pos (Or.inl o4)).trans (sk2 n5 n55); (repeat' (refine if_go (fun _q => ?_) (fun _q => ?_))) <;> (refine key2 _ _ ?_ ?_ <;> rw [dbl_eq ea eb] <;> first | rfl | exact (if_pos ⟨by first | assumption | rfl, by first | assumption | rfl⟩).symm | exact (if_neg (fun z => absurd z.1 (by assumption))).symm | exact (if_neg (fun z => absurd z.2 (by assumption))).symm)
          · have := hib2 (by omega); omega
          · have eb : (if (nth l i).op = 4 ∨ (nth l i).op = 6 then skipF l (nth l i).b else (nth l i).b) = _ := (if_pos (Or.inl o4)).trans (sk3 n5 n11 n111); (repeat' (refine if_go (fun _q => ?_) (fun _q => ?_))) <;> (refine key2 _ _ ?_ ?_ <;> rw [dbl_eq ea eb] <;> first | rfl | exact (if_pos ⟨by first | assumption | rfl, by first | assumption | rfl⟩).symm | exact (if_neg (fun z => absurd z.1 (by assumption))).symm | exact (if_neg (fun z => absurd z.2 (by assumption))).symm)
          · have eb : (if (nth l i).op = 4 ∨ (nth l i).op = 6 then skipF l (nth l i).b else (nth l i).b) = _ := (if_pos (Or.inl o4)).trans (sk4 n5 n11 n111); (repeat' (refine if_go (fun _q => ?_) (fun _q => ?_))) <;> (refine key2 _ _ ?_ ?_ <;> rw [dbl_eq ea eb] <;> first | rfl | exact (if_pos ⟨by first | assumption | rfl, by first | assumption | rfl⟩).symm | exact (if_neg (fun z => absurd z.1 (by assumption))).symm | exact (if_neg (fun z => absurd z.2 (by assumption))).symm)
          · have eb : (if (nth l i).op = 4 ∨ (nth l i).op = 6 then skipF l (nth l i).b else (nth l i).b) = _ := (if_pos (Or.inl o4)).trans (sk5 n5 n11); (repeat' (refine if_go (fun _q => ?_) (fun _q => ?_))) <;> (refine key2 _ _ ?_ ?_ <;> rw [dbl_eq ea eb] <;> first | rfl | exact (if_pos ⟨by first | assumption | rfl, by first | assumption | rfl⟩).symm | exact (if_neg (fun z => absurd z.1 (by assumption))).symm | exact (if_neg (fun z => absurd z.2 (by assumption))).symm)
        · have hb2 := hb (Or.inr o6); have hib2 := hib (Or.inr o6)
          refine ⟨by omega, if_go (fun n5 => ⟨?_, if_go (fun n55 => ?_) (fun n55 => ?_)⟩) (fun n5 => if_go (fun n11 => ⟨?_, if_go (fun n111 => ?_) (fun n111 => ?_)⟩) (fun n11 => ?_))⟩
          · have := hib2 (by omega); omega
          · have eb : (if (nth l i).op = 4 ∨ (nth l i).op = 6 then skipF l (nth l i).b else (nth l i).b) = _ := (if_pos (Or.inr o6)).trans (sk1 n5 n55); (repeat' (refine if_go (fun _q => ?_) (fun _q => ?_))) <;> (refine key2 _ _ ?_ ?_ <;> rw [dbl_eq ea eb] <;> first | rfl | exact (if_pos ⟨by first | assumption | rfl, by first | assumption | rfl⟩).symm | exact (if_neg (fun z => absurd z.1 (by assumption))).symm | exact (if_neg (fun z => absurd z.2 (by assumption))).symm)
          · have eb : (if (nth l i).op = 4 ∨ (nth l i).op = 6 then skipF l (nth l i).b else (nth l i).b) = _ := (if_pos (Or.inr o6)).trans (sk2 n5 n55); (repeat' (refine if_go (fun _q => ?_) (fun _q => ?_))) <;> (refine key2 _ _ ?_ ?_ <;> rw [dbl_eq ea eb] <;> first | rfl | exact (if_pos ⟨by first | assumption | rfl, by first | assumption | rfl⟩).symm | exact (if_neg (fun z => absurd z.1 (by assumption))).symm | exact (if_neg (fun z => absurd z.2 (by assumption))).symm)
          · have := hib2 (by omega); omega
          · have eb : (if (nth l i).op = 4 ∨ (nth l i).op = 6 then skipF l (nth l i).b else (nth l i).b) = _ := (if_pos (Or.inr o6)).trans (sk3 n5 n11 n111); (repeat' (refine if_go (fun _q => ?_) (fun _q => ?_))) <;> (refine key2 _ _ ?_ ?_ <;> rw [dbl_eq ea eb] <;> first | rfl | exact (if_pos ⟨by first | assumption | rfl, by first | assumption | rfl⟩).symm | exact (if_neg (fun z => absurd z.1 (by assumption))).symm | exact (if_neg (fun z => absurd z.2 (by assumption))).symm)
          · have eb : (if (nth l i).op = 4 ∨ (nth l i).op = 6 then skipF l (nth l i).b else (nth l i).b) = _ := (if_pos (Or.inr o6)).trans (sk4 n5 n11 n111); (repeat' (refine if_go (fun _q => ?_) (fun _q => ?_))) <;> (refine key2 _ _ ?_ ?_ <;> rw [dbl_eq ea eb] <;> first | rfl | exact (if_pos ⟨by first | assumption | rfl, by first | assumption | rfl⟩).symm | exact (if_neg (fun z => absurd z.1 (by assumption))).symm | exact (if_neg (fun z => absurd z.2 (by assumption))).symm)
          · have eb : (if (nth l i).op = 4 ∨ (nth l i).op = 6 then skipF l (nth l i).b else (nth l i).b) = _ := (if_pos (Or.inr o6)).trans (sk5 n5 n11); (repeat' (refine if_go (fun _q => ?_) (fun _q => ?_))) <;> (refine key2 _ _ ?_ ?_ <;> rw [dbl_eq ea eb] <;> first | rfl | exact (if_pos ⟨by first | assumption | rfl, by first | assumption | rfl⟩).symm | exact (if_neg (fun z => absurd z.1 (by assumption))).symm | exact (if_neg (fun z => absurd z.2 (by assumption))).symm)
        · have eb : (if (nth l i).op = 4 ∨ (nth l i).op = 6 then skipF l (nth l i).b else (nth l i).b) = _ := if_neg (fun z => z.elim o4 o6); (repeat' (refine if_go (fun _q => ?_) (fun _q => ?_))) <;> (refine key2 _ _ ?_ ?_ <;> rw [dbl_eq ea eb] <;> first | rfl | exact (if_pos ⟨by first | assumption | rfl, by first | assumption | rfl⟩).symm | exact (if_neg (fun z => absurd z.1 (by assumption))).symm | exact (if_neg (fun z => absurd z.2 (by assumption))).symm)
      · have ea := sk5 m5 m11
        refine if_go (fun o4 => ?_) (fun o4 => if_go (fun o6 => ?_) (fun o6 => ?_))
        · have hb2 := hb (Or.inl o4); have hib2 := hib (Or.inl o4)
          refine ⟨by omega, if_go (fun n5 => ⟨?_, if_go (fun n55 => ?_) (fun n55 => ?_)⟩) (fun n5 => if_go (fun n11 => ⟨?_, if_go (fun n111 => ?_) (fun n111 => ?_)⟩) (fun n11 => ?_))⟩
          · have := hib2 (by omega); omega
          · have eb : (if (nth l i).op = 4 ∨ (nth l i).op = 6 then skipF l (nth l i).b else (nth l i).b) = _ := (if_pos (Or.inl o4)).trans (sk1 n5 n55); (repeat' (refine if_go (fun _q => ?_) (fun _q => ?_))) <;> (refine key2 _ _ ?_ ?_ <;> rw [dbl_eq ea eb] <;> first | rfl | exact (if_pos ⟨by first | assumption | rfl, by first | assumption | rfl⟩).symm | exact (if_neg (fun z => absurd z.1 (by assumption))).symm | exact (if_neg (fun z => absurd z.2 (by assumption))).symm)
          · have eb : (if (nth l i).op = 4 ∨ (nth l i).op = 6 then skipF l (nth l i).b else (nth l i).b) = _ := (if_pos (Or.inl o4)).trans (sk2 n5 n55); (repeat' (refine if_go (fun _q => ?_) (fun _q => ?_))) <;> (refine key2 _ _ ?_ ?_ <;> rw [dbl_eq ea eb] <;> first | rfl | exact (if_pos ⟨by first | assumption | rfl, by first | assumption | rfl⟩).symm | exact (if_neg (fun z => absurd z.1 (by assumption))).symm | exact (if_neg (fun z => absurd z.2 (by assumption))).symm)
          · have := hib2 (by omega); omega
          · have eb : (if (nth l i).op = 4 ∨ (nth l i).op = 6 then skipF l (nth l i).b else (nth l i).b) = _ := (if_pos (Or.inl o4)).trans (sk3 n5 n11 n111); (repeat' (refine if_go (fun _q => ?_) (fun _q => ?_))) <;> (refine key2 _ _ ?_ ?_ <;> rw [dbl_eq ea eb] <;> first | rfl | exact (if_pos ⟨by first | assumption | rfl, by first | assumption | rfl⟩).symm | exact (if_neg (fun z => absurd z.1 (by assumption))).symm | exact (if_neg (fun z => absurd z.2 (by assumption))).symm)
          · have eb : (if (nth l i).op = 4 ∨ (nth l i).op = 6 then skipF l (nth l i).b else (nth l i).b) = _ := (if_pos (Or.inl o4)).trans (sk4 n5 n11 n111); (repeat' (refine if_go (fun _q => ?_) (fun _q => ?_))) <;> (refine key2 _ _ ?_ ?_ <;> rw [dbl_eq ea eb] <;> first | rfl | exact (if_pos ⟨by first | assumption | rfl, by first | assumption | rfl⟩).symm | exact (if_neg (fun z => absurd z.1 (by assumption))).symm | exact (if_neg (fun z => absurd z.2 (by assumption))).symm)
          · have eb : (if (nth l i).op = 4 ∨ (nth l i).op = 6 then skipF l (nth l i).b else (nth l i).b) = _ := (if_pos (Or.inl o4)).trans (sk5 n5 n11); (repeat' (refine if_go (fun _q => ?_) (fun _q => ?_))) <;> (refine key2 _ _ ?_ ?_ <;> rw [dbl_eq ea eb] <;> first | rfl | exact (if_pos ⟨by first | assumption | rfl, by first | assumption | rfl⟩).symm | exact (if_neg (fun z => absurd z.1 (by assumption))).symm | exact (if_neg (fun z => absurd z.2 (by assumption))).symm)
        · have hb2 := hb (Or.inr o6); have hib2 := hib (Or.inr o6)
          refine ⟨by omega, if_go (fun n5 => ⟨?_, if_go (fun n55 => ?_) (fun n55 => ?_)⟩) (fun n5 => if_go (fun n11 => ⟨?_, if_go (fun n111 => ?_) (fun n111 => ?_)⟩) (fun n11 => ?_))⟩
          · have := hib2 (by omega); omega
          · have eb : (if (nth l i).op = 4 ∨ (nth l i).op = 6 then skipF l (nth l i).b else (nth l i).b) = _ := (if_pos (Or.inr o6)).trans (sk1 n5 n55); (repeat' (refine if_go (fun _q => ?_) (fun _q => ?_))) <;> (refine key2 _ _ ?_ ?_ <;> rw [dbl_eq ea eb] <;> first | rfl | exact (if_pos ⟨by first | assumption | rfl, by first | assumption | rfl⟩).symm | exact (if_neg (fun z => absurd z.1 (by assumption))).symm | exact (if_neg (fun z => absurd z.2 (by assumption))).symm)
          · have eb : (if (nth l i).op = 4 ∨ (nth l i).op = 6 then skipF l (nth l i).b else (nth l i).b) = _ := (if_pos (Or.inr o6)).trans (sk2 n5 n55); (repeat' (refine if_go (fun _q => ?_) (fun _q => ?_))) <;> (refine key2 _ _ ?_ ?_ <;> rw [dbl_eq ea eb] <;> first | rfl | exact (if_pos ⟨by first | assumption | rfl, by first | assumption | rfl⟩).symm | exact (if_neg (fun z => absurd z.1 (by assumption))).symm | exact (if_neg (fun z => absurd z.2 (by assumption))).symm)
          · have := hib2 (by omega); omega
          · have eb : (if (nth l i).op = 4 ∨ (nth l i).op = 6 then skipF l (nth l i).b else (nth l i).b) = _ := (if_pos (Or.inr o6)).trans (sk3 n5 n11 n111); (repeat' (refine if_go (fun _q => ?_) (fun _q => ?_))) <;> (refine key2 _ _ ?_ ?_ <;> rw [dbl_eq ea eb] <;> first | rfl | exact (if_pos ⟨by first | assumption | rfl, by first | assumption | rfl⟩).symm | exact (if_neg (fun z => absurd z.1 (by assumption))).symm | exact (if_neg (fun z => absurd z.2 (by assumption))).symm)
          · have eb : (if (nth l i).op = 4 ∨ (nth l i).op = 6 then skipF l (nth l i).b else (nth l i).b) = _ := (if_pos (Or.inr o6)).trans (sk4 n5 n11 n111); (repeat' (refine if_go (fun _q => ?_) (fun _q => ?_))) <;> (refine key2 _ _ ?_ ?_ <;> rw [dbl_eq ea eb] <;> first | rfl | exact (if_pos ⟨by first | assumption | rfl, by first | assumption | rfl⟩).symm | exact (if_neg (fun z => absurd z.1 (by assumption))).symm | exact (if_neg (fun z => absurd z.2 (by assumption))).symm)
          · have eb : (if (nth l i).op = 4 ∨ (nth l i).op = 6 then skipF l (nth l i).b else (nth l i).b) = _ := (if_pos (Or.inr o6)).trans (sk5 n5 n11); (repeat' (refine if_go (fun _q => ?_) (fun _q => ?_))) <;> (refine key2 _ _ ?_ ?_ <;> rw [dbl_eq ea eb] <;> first | rfl | exact (if_pos ⟨by first | assumption | rfl, by first | assumption | rfl⟩).symm | exact (if_neg (fun z => absurd z.1 (by assumption))).symm | exact (if_neg (fun z => absurd z.2 (by assumption))).symm)
        · have eb : (if (nth l i).op = 4 ∨ (nth l i).op = 6 then skipF l (nth l i).b else (nth l i).b) = _ := if_neg (fun z => z.elim o4 o6); (repeat' (refine if_go (fun _q => ?_) (fun _q => ?_))) <;> (refine key2 _ _ ?_ ?_ <;> rw [dbl_eq ea eb] <;> first | rfl | exact (if_pos ⟨by first | assumption | rfl, by first | assumption | rfl⟩).symm | exact (if_neg (fun z => absurd z.1 (by assumption))).symm | exact (if_neg (fun z => absurd z.2 (by assumption))).symm)

def sh46 : Shp := fun I i b l s => .ok (.tp [(false, [.arr 0 0 (I.len (l 0))]), (false, [.pv (.sc (.int .i64 (i 0)))])], [(0, .row 7 (l 0))], 1)
noncomputable def an46 : An (List NodeV × Unit) where
  pre t := (rwI t.1) && decide (0 < t.1.length ∧ t.1.length ≤ 8) && (cellsOk t.1)
  i _ t := (dblF t.1).2
  l _ t := (tNode.encs ((dblF t.1).1))
noncomputable def en46 : En := mkE (parsC (pL tNode) pars0) an46
theorem ok46 (plan : List NodeV) (p0 : rwI plan = true) (p1 : 0 < plan.length ∧ plan.length ≤ 8) (p2 : cellsOk plan = true) : Ok0 Try.prog 46 [(pL tNode).enc plan] ((.tp [(false, [.arr 0 0 ((dblF plan).1).length]), (false, [.pv (.sc (.int .i64 ((dblF plan).2)))])], [(0, .row 7 (tNode.encs ((dblF plan).1)))], 1) : RES).1 ((.tp [(false, [.arr 0 0 ((dblF plan).1).length]), (false, [.pv (.sc (.int .i64 ((dblF plan).2)))])], [(0, .row 7 (tNode.encs ((dblF plan).1)))], 1) : RES).2.1 ((.tp [(false, [.arr 0 0 ((dblF plan).1).length]), (false, [.pv (.sc (.int .i64 ((dblF plan).2)))])], [(0, .row 7 (tNode.encs ((dblF plan).1)))], 1) : RES).2.2 := by
  have hI := rwI_iff.1 p0
  exact go46 plan fun w Xs => ⟨by omega, lm_dbl plan p1.2 plan.length 0 plan 0 rfl rfl hI.1 (by omega)⟩
theorem s46 {I : Ops} (hI : I = real) {e : En} (he : e = en46) : Sound Try.prog 46 (callE I e sh46) := by
  refine Sound.mkR ent46 hI ?_ he
  rintro ⟨plan, ⟨⟩⟩ hp r σ n e
  have hp : ((rwI plan) && decide (0 < plan.length ∧ plan.length ≤ 8) && (cellsOk plan)) = true := hp
  try simp only [Bool.and_eq_true, decide_eq_true_eq] at hp
  obtain ⟨⟨p0, p1⟩, p2⟩ := hp
  have e : (R.ok ((.tp [(false, [.arr 0 0 ((dblF plan).1).length]), (false, [.pv (.sc (.int .i64 ((dblF plan).2)))])], [(0, .row 7 (tNode.encs ((dblF plan).1)))], 1) : RES) : R RES).val = some (r, σ, n) := by
    rw [← e]
    simp [sh46, an46]
  cases e
  exact ok46 plan p0 p1 p2
end Go.Proofs.Try
