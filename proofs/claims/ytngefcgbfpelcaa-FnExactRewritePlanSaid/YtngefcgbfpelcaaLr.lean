/- Contracts. -/
import Derived.Test.YtngefcgbfpelcaaLq
set_option linter.unusedSimpArgs false
set_option linter.unusedVariables false
namespace Go.Proofs.Try
open Go Go.Aix
set_option maxRecDepth 100000
set_option maxHeartbeats 4000000
set_option linter.unusedSimpArgs false
set_option linter.unusedVariables false
inductive Fd (l : List NodeV) : Int → Int → Prop
  | one {a b : Int} : a < b → a ∈ readsL (nth l b.toNat) → Fd l a b
  | more {a i b : Int} : a < i → i ≤ b → a ∈ readsL (nth l i.toNat) → Fd l i b → Fd l a b
noncomputable def feedB (l : List NodeV) (a b : Int) : Bool := @decide (Fd l a b) (Classical.propDecidable _)
theorem feedB_iff {l : List NodeV} {a b : Int} : feedB l a b = true ↔ Fd l a b := @decide_eq_true_iff _ (Classical.propDecidable _)
theorem Fd.iff {l : List NodeV} {a b : Int} : Fd l a b ↔ ∃ j : Int, a + 1 ≤ j ∧ j ≤ b ∧ a ∈ readsL (nth l j.toNat) ∧ (j = b ∨ feedB l j b = true) := by
  constructor
  · rintro (⟨h, h2⟩ | ⟨h, h2, h3, h4⟩)
    · exact ⟨b, by omega, by omega, h2, Or.inl rfl⟩
    · rename_i i; exact ⟨i, by omega, h2, h3, Or.inr (feedB_iff.2 h4)⟩
  · rintro ⟨j, h1, h2, h3, rfl | h4⟩
    · exact .one (by omega) h3
    · exact .more (by omega) h2 h3 (feedB_iff.1 h4)
theorem ent81 : Enters Try.prog 81 := ⟨Try.f81, Try.func81, by kernel_rfl, by kernel_rfl⟩
def sh81 : Shp := fun I i b l s => .ok (.one (.pv (.sc (.bool (b 0)))), [], 0)
noncomputable def an81 (bd : Nat) : An (List NodeV × Int × Int × Unit) where
  pre t := decide (t.1.length ≤ 100) && decide (0 ≤ t.2.1 ∧ t.2.1 < t.1.length) && decide (t.2.2.1 < t.1.length) && decide ((t.2.2.1 - t.2.1).toNat < bd)
  b _ t := feedB t.1 t.2.1 t.2.2.1
noncomputable def en81 (bd : Nat) : En := mkE (parsC (pL tNode) (parsC pI (parsC pI pars0))) (an81 bd)
def G81_0 (w : World) (Xs : Nat → Prop) (plan : List NodeV) (a : Int) (b : Int) (i : Int) (r : RES) : Prop := W Try.prog 81 Try.f81 (Ent0 w Xs) (Back (Ent0 w Xs) r.1 r.2.1 r.2.2) (place (bodyOf Try.f81) [1,0,1,0,0] [])
  ⟨[(0, .one (.pv (.sl false 7 (tNode.encs plan)))), (1, .one (.pv (.sc (.int .i64 a)))), (2, .one (.pv (.sc (.int .i64 b)))), (7, .one (.pv (.sc (.int .i64 i))))], [], 0⟩
theorem st81_0 {w : World} {Xs : Nat → Prop} {bd : Nat} (s81 : ∀ {I : Ops}, I = real → ∀ {e : En}, e = en81 bd → Sound Try.prog 81 (callE I e sh81)) (plan : List NodeV) (a : Int) (b : Int) (i : Int) {r : RES} (h : (if i ≤ b then ((0 ≤ i ∧ i < (plan.length : Int)) ∧ (if (decide (a ∈ readsL (nth plan i.toNat))) = true then (if i = b then r = (.one (.pv (.sc (.bool true))), [], 0) else ((plan.length ≤ 100) ∧ ((0 ≤ i ∧ i < plan.length) ∧ ((b < plan.length) ∧ (((b - i).toNat < bd) ∧ (if (feedB plan i b) = true then r = (.one (.pv (.sc (.bool true))), [], 0) else G81_0 w Xs plan a b (IntKind.i64.wrap (i + 1)) r)))))) else G81_0 w Xs plan a b (IntKind.i64.wrap (i + 1)) r)) else r = (.one (.pv (.sc (.bool false))), [], 0))) : G81_0 w Xs plan a b i r := by
  obtain ⟨I, hI⟩ : ∃ I, I = real := ⟨_, rfl⟩; obtain ⟨K, hK⟩ : ∃ K : FuncId → En, K = fun g => (lk g [(91, en91), (81, (en81 bd))]).getD default := ⟨_, rfl⟩; have k91 : K 91 = en91 := (by subst hK; rfl); have k81 : K 81 = (en81 bd) := (by subst hK; rfl); clear hK
  unfold G81_0
  obtain ⟨q0, hq0⟩ : ∃ q, q = (tNode.encs plan) := ⟨_, rfl⟩
  try rw [← hq0]
  refine W_go (Y := (Tab.calls [(91, true, callRd I (callE I (K 91) sh91)), (81, true, callRd I (callE I (K 81) sh81))])) xok (TabOk.calls mixed ⟨EntryOk.rd (s91 hI k91) hI, fun _ => callRd_quiet _ _, ⟨EntryOk.rd (s81 hI k81) hI, fun _ => callRd_quiet _ _, trivial⟩⟩) Try.func81 rfl 2000 _ hI ?_; (conv => arg 4; cbv)
  repeat' (first | (have hd := And.left h; replace h := And.right h) | ((with_reducible refine on_eqs ?_ ?_); (focus (with_reducible rfl)); conv => arg 4; cbv) | (with_reducible refine on_both ?_ ?_ <;> (conv => arg 4; cbv)) | (with_reducible refine on_true (by assumption) ?_; conv => arg 4; cbv) | (with_reducible refine on_false (by assumption) ?_; conv => arg 4; cbv) | (with_reducible refine on_ask (fun g => ?_) (fun g => ?_) <;> (have hc := g) <;> (try simp (disch := omega) [hI, k91, en91, an91, k81, en81, an81, hq0, -List.length_eq_zero_iff] at hc) <;> (try (exfalso; omega)) <;> (try (first | (revert h; (refine imp_l ?_ (fun h => ?_)); focus (first | exact hc | assumption | omega | (simpa using hc; done))) | (revert h; (refine imp_r ?_ (fun h => ?_)); focus (first | exact hc | assumption | omega | (simpa using hc; done))))) <;> (conv => arg 4; cbv)) | ((with_reducible refine on_must ?_ ?_); (focus ((simp (disch := omega) [hI, k91, en91, an91, k81, en81, an81, hq0]) <;> (first | omega | assumption | ((repeat' (refine And.intro ?_ ?_)) <;> (first | omega | assumption))))); conv => arg 4; cbv))
  all_goals (first | ((with_reducible have hG : G81_0 _ _ _ _ _ _ _ := h); unfold G81_0 at hG; (with_reducible refine on_loop ?_); simp only [List.cons_append, List.nil_append]; refine W_norm [0, 1, 2, 7] ?_ hG) | ((subst h); (with_reducible refine on_ret ?_); refine Ended_of rfl ?_))
  all_goals ((conv => lhs; cbv); (try (first | rfl | ((try simp (disch := omega) [hI, k91, en91, an91, k81, en81, an81, hq0, mapE_append, Ty.encs_append, encs1_I64, encs1_U8, encs1, mapE1]) <;> (first | rfl | omega | (simp; done))))))
theorem go81 {bd : Nat} (s81 : ∀ {I : Ops}, I = real → ∀ {e : En}, e = en81 bd → Sound Try.prog 81 (callE I e sh81)) (plan : List NodeV) (a : Int) (b : Int) {r : RES} (h : ∀ (w : World) (Xs : Nat → Prop), G81_0 w Xs plan a b (IntKind.i64.wrap (a + 1)) r) : Ok0 Try.prog 81 [(pL tNode).enc plan, pI.enc a, pI.enc b] r.1 r.2.1 r.2.2 := by
  obtain ⟨I, hI⟩ : ∃ I, I = real := ⟨_, rfl⟩; obtain ⟨K, hK⟩ : ∃ K : FuncId → En, K = fun g => (lk g [(91, en91), (81, (en81 bd))]).getD default := ⟨_, rfl⟩; have k91 : K 91 = en91 := (by subst hK; rfl); have k81 : K 81 = (en81 bd) := (by subst hK; rfl); clear hK
  show Ok0 Try.prog 81 [.one (.pv (.sl false 7 (tNode.encs plan))), .one (.pv (.sc (.int .i64 a))), .one (.pv (.sc (.int .i64 b)))] _ _ _
  obtain ⟨q0, hq0⟩ : ∃ q, q = (tNode.encs plan) := ⟨_, rfl⟩
  try rw [← hq0]
  refine Ok0_run (Y := (Tab.calls [(91, true, callRd I (callE I (K 91) sh91)), (81, true, callRd I (callE I (K 81) sh81))])) xok (TabOk.calls mixed ⟨EntryOk.rd (s91 hI k91) hI, fun _ => callRd_quiet _ _, ⟨EntryOk.rd (s81 hI k81) hI, fun _ => callRd_quiet _ _, trivial⟩⟩) Try.func81 rfl rfl rfl 2000 hI fun w Xs => ?_; (conv => arg 4; cbv)
  replace h := h w Xs
  repeat' (first | (have hd := And.left h; replace h := And.right h) | ((with_reducible refine on_eqs ?_ ?_); (focus (with_reducible rfl)); conv => arg 4; cbv) | (with_reducible refine on_both ?_ ?_ <;> (conv => arg 4; cbv)) | (with_reducible refine on_true (by assumption) ?_; conv => arg 4; cbv) | (with_reducible refine on_false (by assumption) ?_; conv => arg 4; cbv) | (with_reducible refine on_ask (fun g => ?_) (fun g => ?_) <;> (have hc := g) <;> (try simp (disch := omega) [hI, k91, en91, an91, k81, en81, an81, hq0, -List.length_eq_zero_iff] at hc) <;> (try (exfalso; omega)) <;> (try (first | (revert h; (refine imp_l ?_ (fun h => ?_)); focus (first | exact hc | assumption | omega | (simpa using hc; done))) | (revert h; (refine imp_r ?_ (fun h => ?_)); focus (first | exact hc | assumption | omega | (simpa using hc; done))))) <;> (conv => arg 4; cbv)) | ((with_reducible refine on_must ?_ ?_); (focus ((simp (disch := omega) [hI, k91, en91, an91, k81, en81, an81, hq0]) <;> (first | omega | assumption | ((repeat' (refine And.intro ?_ ?_)) <;> (first | omega | assumption))))); conv => arg 4; cbv))
  all_goals (first | ((with_reducible have hG : G81_0 _ _ _ _ _ _ _ := h); unfold G81_0 at hG; (with_reducible refine on_loop ?_); simp only [List.cons_append, List.nil_append]; refine W_norm [0, 1, 2, 7] ?_ hG) | ((subst h); (with_reducible refine on_ret ?_); refine Ended_of rfl ?_))
  all_goals ((conv => lhs; cbv); (try (first | rfl | ((try simp (disch := omega) [hI, k91, en91, an91, k81, en81, an81, hq0, mapE_append, Ty.encs_append, encs1_I64, encs1_U8, encs1, mapE1]) <;> (first | rfl | omega | (simp; done))))))
theorem lm_feeds {w : World} {Xs : Nat → Prop} {bd : Nat} (sN : ∀ {I : Ops}, I = real → ∀ {e : En}, e = en81 bd → Sound Try.prog 81 (callE I e sh81)) (plan : List NodeV) (a b : Int) (hl : plan.length ≤ 100) (ha : 0 ≤ a) (hb : b < plan.length) (hbd : (b - a).toNat < bd + 1) (v : Bool) : ∀ (k : Nat) (i : Int), i + k = max (b + 1) (a + 1) → a + 1 ≤ i → (v = true ↔ ∃ j : Int, i ≤ j ∧ j ≤ b ∧ a ∈ readsL (nth plan j.toNat) ∧ (j = b ∨ feedB plan j b = true)) → G81_0 w Xs plan a b i (rB v) := by
  intro k
  induction k with
  | zero =>
    intro i hk hi hv
    apply st81_0 sN
    rw [if_neg (by omega)]
    cases v with
    | false => rfl
    | true => exfalso; obtain ⟨j, h1, h2, _⟩ := hv.1 rfl; clear hv; omega
  | succ k ih =>
    intro i hk hi hv
    apply st81_0 sN
    by_cases hib : i ≤ b
    · rw [if_pos hib, IntKind.wrap_i64]
      have e1 : (i + 1 + 9223372036854775808) % 18446744073709551616 - 9223372036854775808 = i + 1 := by omega
      have next : ¬ (a ∈ readsL (nth plan i.toNat) ∧ (i = b ∨ feedB plan i b = true)) → G81_0 w Xs plan a b (i + 1) (rB v) := by
        intro hn
        refine ih (i + 1) (by omega) (by omega) ⟨fun h => ?_, fun ⟨j, h1, h2, h3⟩ => hv.2 ⟨j, by omega, h2, h3⟩⟩
        obtain ⟨j, h1, h2, h3, h4⟩ := hv.1 h
        by_cases e : j = i
        · subst e; exact absurd ⟨h3, h4⟩ hn
        · exact ⟨j, by omega, h2, h3, h4⟩
      have yes : a ∈ readsL (nth plan i.toNat) ∧ (i = b ∨ feedB plan i b = true) → rB v = rB true := fun h => by rw [hv.2 ⟨i, by omega, hib, h.1, h.2⟩]
      have e2 : ∀ x : Int, x = i + 1 → G81_0 w Xs plan a b (i + 1) (rB v) → G81_0 w Xs plan a b x (rB v) := fun x e h => by rw [e]; exact h
      clear hv
      refine ⟨by omega, if_go (fun h => if_go (fun h2 => ?_) (fun h2 => ?_)) (fun h => ?_)⟩
      · exact yes ⟨of_decide_eq_true h, Or.inl h2⟩
      · refine ⟨hl, by omega, hb, by omega, if_go (fun h3 => yes ⟨of_decide_eq_true h, Or.inr h3⟩) (fun h3 => e2 _ (by omega) (next (fun z => z.2.elim h2 h3)))⟩
      · exact e2 _ (by omega) (next (fun z => h (decide_eq_true z.1)))
    · exfalso; clear hv ih; omega

theorem mks81 {bd : Nat} (ok : ∀ (plan : List NodeV) (a : Int) (b : Int) (p0 : plan.length ≤ 100) (p1 : 0 ≤ a ∧ a < plan.length) (p2 : b < plan.length) (p3 : (b - a).toNat < bd), Ok0 Try.prog 81 [(pL tNode).enc plan, pI.enc a, pI.enc b] ((.one (.pv (.sc (.bool (feedB plan a b)))), [], 0) : RES).1 ((.one (.pv (.sc (.bool (feedB plan a b)))), [], 0) : RES).2.1 ((.one (.pv (.sc (.bool (feedB plan a b)))), [], 0) : RES).2.2) : ∀ {I : Ops}, I = real → ∀ {e : En}, e = en81 bd → Sound Try.prog 81 (callE I e sh81) := by
  intro I hI e he
  refine Sound.mkR ent81 hI ?_ he
  rintro ⟨plan, a, b, ⟨⟩⟩ hp r σ n e
  have hp : (decide (plan.length ≤ 100) && decide (0 ≤ a ∧ a < plan.length) && decide (b < plan.length) && decide ((b - a).toNat < bd)) = true := hp
  try simp only [Bool.and_eq_true, decide_eq_true_eq] at hp
  obtain ⟨⟨⟨p0, p1⟩, p2⟩, p3⟩ := hp
  have e : (R.ok ((.one (.pv (.sc (.bool (feedB plan a b)))), [], 0) : RES) : R RES).val = some (r, σ, n) := by
    rw [← e]
    simp [sh81, an81]
  have k := ok plan a b p0 p1 p2 p3
  rw [Option.some.inj e] at k
  exact k
theorem okr81 {bd : Nat} (s81 : ∀ {I : Ops}, I = real → ∀ {e : En}, e = en81 bd → Sound Try.prog 81 (callE I e sh81)) (plan : List NodeV) (a : Int) (b : Int) (p0 : plan.length ≤ 100) (p1 : 0 ≤ a ∧ a < plan.length) (p2 : b < plan.length) (p3 : (b - a).toNat < (bd + 1)) : Ok0 Try.prog 81 [(pL tNode).enc plan, pI.enc a, pI.enc b] ((.one (.pv (.sc (.bool (feedB plan a b)))), [], 0) : RES).1 ((.one (.pv (.sc (.bool (feedB plan a b)))), [], 0) : RES).2.1 ((.one (.pv (.sc (.bool (feedB plan a b)))), [], 0) : RES).2.2 := by
  refine go81 s81 plan a b fun w Xs => ?_
  have e : IntKind.i64.wrap (a + 1) = a + 1 := by rw [IntKind.wrap_i64]; omega
  rw [e]
  exact lm_feeds s81 plan a b p0 p1.1 p2 p3 _ (max (b + 1) (a + 1) - (a + 1)).toNat (a + 1) (by omega) (by omega) (feedB_iff.trans Fd.iff)
theorem ok81 : ∀ (bd : Nat) (plan : List NodeV) (a : Int) (b : Int) (p0 : plan.length ≤ 100) (p1 : 0 ≤ a ∧ a < plan.length) (p2 : b < plan.length) (p3 : (b - a).toNat < bd), Ok0 Try.prog 81 [(pL tNode).enc plan, pI.enc a, pI.enc b] ((.one (.pv (.sc (.bool (feedB plan a b)))), [], 0) : RES).1 ((.one (.pv (.sc (.bool (feedB plan a b)))), [], 0) : RES).2.1 ((.one (.pv (.sc (.bool (feedB plan a b)))), [], 0) : RES).2.2 := by
  intro bd
  induction bd with
  | zero =>
    intro plan a b p0 p1 p2 p3
    exfalso
    omega
  | succ bd ih => exact okr81 (mks81 ih)
theorem s81 {I : Ops} (hI : I = real) {e : En} {bd : Nat} (he : e = en81 bd) : Sound Try.prog 81 (callE I e sh81) := mks81 (ok81 bd) hI he
end Go.Proofs.Try
