/- Contracts. -/
import Derived.Test.YtiieincddkhcdaaGreatAixH
import Derived.Test.YtiieincddkhcdaaGreatAix4
import Derived.Test.YtiieincddkhcdaaGreatAix3
import Derived.Test.YtiieincddkhcdaaGreatAixLink
import Derived.Test.YtiieincddkhcdaaGreatAixG
set_option linter.unusedSimpArgs false
set_option linter.unusedVariables false
namespace Go.Proofs.Tryz
open Go Go.Aix
set_option maxRecDepth 100000
set_option maxHeartbeats 4000000
theorem mixed : Tryz.prog.follows .mixedOrders = true := by kernel_rfl
def szL (n m : Int) : Int := if IntKind.i64.wrap (m - n) < 0 then -1 else IntKind.i64.wrap (m - n)
/-! ### Marks -/
def nx1 (m : Int) : Int := IntKind.i64.wrap (m + 1)
/-- What is written over the elements of a list, one behind the other. -/
def mkS {V : Type} (f : V → Int → V × Int) : List V → Int → List V × Int
  | [], k => ([], k)
  | e :: r, k => ((f e k).1 :: (mkS f r (f e k).2).1, (mkS f r (f e k).2).2)
@[simp] theorem mkS_len {V : Type} (f : V → Int → V × Int) : ∀ (l : List V) (k : Int), (mkS f l k).1.length = l.length
  | [], _ => rfl
  | e :: r, k => by simp [mkS, mkS_len f r]
@[simp] theorem mkS_take {V : Type} (f : V → Int → V × Int) (l : List V) (k : Int) : (mkS f l k).1.take l.length = (mkS f l k).1 := List.take_of_length_le (by rw [mkS_len]; exact Nat.le_refl _)
@[simp] theorem mkS_nil {V : Type} (f : V → Int → V × Int) (k : Int) : mkS f [] k = ([], k) := rfl
def fI64 (_ : Int) (k : Int) : Int × Int := (k, nx1 k)
theorem mid_nth {V : Type} [Inhabited V] {done l : List V} {i : Nat} (hd : done.length = i) (hi : i < l.length) : nth (done ++ l.drop i) i = nth l i := by
  subst hd
  unfold nth
  rw [List.getElem?_append_right (Nat.le_refl _), Nat.sub_self, List.getElem?_drop, Nat.add_zero]
theorem mid_len {V : Type} {done l : List V} {i : Nat} (hd : done.length = i) (hi : i ≤ l.length) : (done ++ l.drop i).length = l.length := by
  rw [List.length_append, List.length_drop]; omega
theorem mid_set {V : Type} {done l : List V} {i : Nat} (hd : done.length = i) (hi : i < l.length) (f : V → List PV) (y : V) {ps : List PV} (hp : ps = f y) : real.set (mapE f (done ++ l.drop i)) i ps = mapE f ((done ++ [y]) ++ l.drop (i + 1)) := by
  show (mapE f (done ++ l.drop i)).set i ps = _
  rw [hp, mapE_set]
  congr 1
  subst hd
  rw [List.drop_eq_getElem_cons hi, List.set_append_right _ _ (Nat.le_refl _), Nat.sub_self, List.set_cons_zero]
  simp
@[simp] theorem tI64_owns : ∀ l, mapE tI64.own l = tI64.encs l
  | [] => rfl
  | a :: l => by show _ :: mapE tI64.own l = _ :: tI64.encs l; rw [tI64_owns l]; rfl
@[simp] theorem tU8_owns : ∀ l, mapE tU8.own l = tU8.encs l
  | [] => rfl
  | a :: l => by show _ :: mapE tU8.own l = _ :: tU8.encs l; rw [tU8_owns l]; rfl
@[simp] theorem pO_I64 (l : List Int) : (pO tI64).dec (.one (.pv (.sl true 1 (tI64.encs l)))) = some l := by rw [← tI64_owns]; exact pO_dec tI64 l
@[simp] theorem pO_U8 (l : List Int) : (pO tU8).dec (.one (.pv (.sl true 1 (tU8.encs l)))) = some l := by rw [← tU8_owns]; exact pO_dec tU8 l
theorem PV.no_nil {p : PV} (h : els p = []) (h2 : isNo p = true) : p = .nl ∨ ∃ u s, p = .sl u s [] := by
  unfold isNo at h2
  split at h2
  · exact .inl rfl
  · exact .inr ⟨_, _, rfl⟩
  · cases h2
/-! ### Held -/
/-- Is each element as it was marked? -/
def hdS {V : Type} (f : V → Int → Option Int) : List V → Int → Int
  | [], k => k
  | e :: r, k => match f e k with
    | some k' => hdS f r k'
    | none => -1
@[simp] theorem hdS_nil {V : Type} (f : V → Int → Option Int) (k : Int) : hdS f [] k = k := rfl
def hI64 (c k : Int) : Option Int := if c = k then some (nx1 k) else none
/-! ### Sizes -/
def szS {V : Type} (f : V → Int → Int) : List V → Int → Int
  | [], m => m
  | e :: r, m => if f e m < 0 then -1 else szS f r (f e m)
def szA {V : Type} (f : V → Int → Int) (l : List V) (m : Int) : Int := if IntKind.i64.wrap (m - l.length) < 0 then -1 else szS f l (IntKind.i64.wrap (m - l.length))
theorem wsucc {i : Nat} (h : i < 9223372036854775807) : IntKind.i64.wrap ((i : Int) + 1) = ((i + 1 : Nat) : Int) := by rw [IntKind.wrap_i64]; omega
abbrev rI (n : Int) : RES := (.one (.pv (.sc (.int .i64 n))), [], 0)
abbrev rB (b : Bool) : RES := (.one (.pv (.sc (.bool b))), [], 0)
theorem drop_nil {α : Type} {l : List α} {i : Nat} (h : l.length ≤ i) : l.drop i = [] := List.drop_of_length_le h
/-- The rest of a walk. -/
theorem fin {P : Prop} (x : P := by (
  repeat' (first | (exact False.elim h) | (have hd := And.left h; replace h := And.right h) | ((first | ((with_reducible refine on_eqs ?_ ?_); (focus (with_reducible rfl))) | (with_reducible refine on_both ?_ ?_) | (with_reducible refine on_true (by assumption) ?_) | (with_reducible refine on_false (by assumption) ?_) | (with_reducible refine on_ask (fun g => ?_) (fun g => ?_) <;> (have hc := g) <;> (try simp (disch := omega) [hS, -List.length_eq_zero_iff] at hc) <;> (try (exfalso; omega)) <;> (try (first | (revert h; (refine imp_l ?_ (fun h => ?_)); focus (first | exact hc | assumption | omega | (simpa using hc; done) | (simp (disch := omega) only [wrap_id]; omega))) | (revert h; (refine imp_r ?_ (fun h => ?_)); focus (first | exact hc | assumption | omega | (simpa using hc; done) | (simp (disch := omega) only [wrap_id]; omega)))))) | ((with_reducible refine on_must ?_ ?_); (focus ((simp (disch := omega) [hS]) <;> (first | omega | assumption | ((repeat' (refine And.intro ?_ ?_)) <;> (first | omega | assumption))))))) <;> (conv => arg 4; cbv)))
  all_goals (first | ((with_reducible refine on_loop ?_); simp only [List.cons_append, List.nil_append]; refine WL.loop h ?_) | ((subst h); (with_reducible refine on_ret ?_); refine Ended_of rfl ?_))
  all_goals ((conv => lhs; cbv); (try (first | rfl | ((try simp (disch := omega) [hS, mapE_append, Ty.encs_append, encs1_I64, encs1_U8, encs1, mapE1]) <;> (first | rfl | omega | (simp; done)))))))) : P := x
/-- The rest of a walk. -/
theorem finl {P : Prop} (x : P := by (
  repeat' (first | (exact False.elim h) | (have hd := And.left h; replace h := And.right h) | ((first | ((with_reducible refine on_eqs ?_ ?_); (focus (with_reducible rfl))) | (with_reducible refine on_both ?_ ?_) | (with_reducible refine on_true (by assumption) ?_) | (with_reducible refine on_false (by assumption) ?_) | (with_reducible refine on_ask (fun g => ?_) (fun g => ?_) <;> (have hc := g) <;> (try simp (disch := omega) [hS, -List.length_eq_zero_iff] at hc) <;> (try (exfalso; omega)) <;> (try (first | (revert h; (refine imp_l ?_ (fun h => ?_)); focus (first | exact hc | assumption | omega | (simpa using hc; done) | (simp (disch := omega) only [wrap_id]; omega))) | (revert h; (refine imp_r ?_ (fun h => ?_)); focus (first | exact hc | assumption | omega | (simpa using hc; done) | (simp (disch := omega) only [wrap_id]; omega)))))) | ((with_reducible refine on_must ?_ ?_); (focus ((simp (disch := omega) [hS]) <;> (first | omega | assumption | ((repeat' (refine And.intro ?_ ?_)) <;> (first | omega | assumption))))))) <;> (conv => arg 4; cbv)))
  all_goals (first | ((with_reducible refine on_loop ?_); simp only [List.cons_append, List.nil_append]; refine WL.loop h ?_) | ((subst h); (with_reducible refine on_ret ?_); refine Ended_flat hI rfl ?_))
  all_goals ((conv => lhs; cbv); (try (first | rfl | ((try simp (disch := omega) [hS, mapE_append, Ty.encs_append, encs1_I64, encs1_U8, encs1, mapE1]) <;> (first | rfl | omega | (simp; done)))))))) : P := x
theorem eqv {α : Type} (x : α) : ∃ q, q = x := ⟨x, rfl⟩
theorem mt {P : Prop} (x : P := by (first | omega | assumption | ((repeat' (refine And.intro ?_ ?_)) <;> (first | omega | assumption)))) : P := x
end Go.Proofs.Tryz
