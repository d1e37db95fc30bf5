/- Contracts. -/
import Derived.Test.YtngefcgbfpelcaaLt
import Derived.Test.YtngefcgbfpelcaaAixC
set_option linter.unusedSimpArgs false
set_option linter.unusedVariables false
namespace Go.Proofs.Try
open Go Go.Aix
set_option maxRecDepth 100000
set_option maxHeartbeats 4000000
set_option linter.unusedSimpArgs false
set_option linter.unusedVariables false
noncomputable def planI (l : List NodeV) : Bool := @decide (PlanI l) (Classical.propDecidable _)
theorem planI_iff {l : List NodeV} : planI l = true ↔ PlanI l := @decide_eq_true_iff _ (Classical.propDecidable _)
def allIn (L : List Int) (n bd : Nat) : Bool := L.all fun k => decide (0 ≤ k ∧ k < (n : Int) ∧ k.toNat < bd)
theorem allIn_nth {L : List Int} {n bd : Nat} (h : allIn L n bd = true) {i : Nat} (hi : i < L.length) : 0 ≤ nth L i ∧ nth L i < (n : Int) ∧ (nth L i).toNat < bd := by
  unfold allIn at h
  rw [List.all_eq_true] at h
  exact of_decide_eq_true (h _ (nth_mem hi))
def fstI (q : Int → Bool) : List Int → Int → Int
  | [], _ => -1
  | k :: r, i => if q k = true then i else fstI q r (i + 1)
theorem fstI_iff (q : Int → Bool) : ∀ (l : List Int) (i : Int), 0 ≤ i → (0 ≤ fstI q l i ↔ l.any q = true)
  | [], i, _ => by simp [fstI]
  | k :: r, i, h => by
    rw [fstI, List.any_cons]
    split
    · rename_i hq; simp [hq, h]
    · rename_i hq
      have hq : q k = false := by simpa using hq
      rw [hq, Bool.false_or]
      exact fstI_iff q r (i + 1) (by omega)
theorem ent61 : Enters Try.prog 61 := ⟨Try.f61, Try.func61, by kernel_rfl, by kernel_rfl⟩
def sh61 : Shp := fun I i b l s => .ok (.one (.pv (.sc (.bool (b 0)))), [], 0)
noncomputable def an61 (bd : Nat) : An (List NodeV × Int × Int × Unit) where
  pre t := decide (t.1.length ≤ 100) && (planI t.1) && decide (0 ≤ t.2.2.1 ∧ t.2.2.1 < t.1.length) && decide (t.2.2.1.toNat < bd)
  b _ t := feedB t.1 t.2.1 t.2.2.1
noncomputable def en61 (bd : Nat) : En := mkE (parsC (pL tNode) (parsC pI (parsC pI pars0))) (an61 bd)
theorem ent89 : Enters Try.prog 89 := ⟨Try.f89, Try.func89, by kernel_rfl, by kernel_rfl⟩
theorem s89 {bd : Nat} (s61 : ∀ {I : Ops}, I = real → ∀ {e : En}, e = en61 bd → Sound Try.prog 61 (callE I e sh61)) {I : Ops} (hI : I = real) {K : FuncId → En} (k61 : K 61 = (en61 bd)) : SoundR Try.prog 89 (inlR X I (Tab.calls [(61, true, callRd I (callE I (K 61) sh61))]) Try.f89) :=
  SoundR.inl (Y := (Tab.calls [(61, true, callRd I (callE I (K 61) sh61))])) xok (TabOk.calls mixed ⟨EntryOk.rd (s61 hI k61) hI, fun _ => callRd_quiet _ _, trivial⟩) ent89 Try.func89 rfl rfl hI
theorem ent88 : Enters Try.prog 88 := ⟨Try.f88, Try.func88, by kernel_rfl, by kernel_rfl⟩
def G88_0 (w : World) (Xs : Nat → Prop) (β0 : Nat → Nat × Nat) (O0 : Nat → List Nat) (Sg : Store) (L : List Int) (b0_0 : Int) (b1_0 : List NodeV) (x8 : Int) (r : RES) : Prop := W Try.prog 88 Try.f88 (EntR w Xs β0 O0 Sg 2) (Back (EntR w Xs β0 O0 Sg 2) r.1 r.2.1 r.2.2) (place (bodyOf Try.f88) [1,0,1,0,0] [])
  ⟨[(0, .one (.pv (.sl false 1 (tI64.encs L)))), (1, .one (.fn 89 [(0, 0, 0), (1, 0, 0)])), (7, .one (.pv (.sc (.int .i64 (L.length : Int))))), (8, .one (.pv (.sc (.int .i64 x8))))], [(0, .box [.pv (.sc (.int .i64 b0_0))]), (1, .box [.pv (.sl false 7 (tNode.encs b1_0))])], 2⟩
theorem st88_0 {w : World} {Xs : Nat → Prop} {β0 : Nat → Nat × Nat} {O0 : Nat → List Nat} {Sg : Store} {bd : Nat} (s61 : ∀ {I : Ops}, I = real → ∀ {e : En}, e = en61 bd → Sound Try.prog 61 (callE I e sh61)) (L : List Int) (b0_0 : Int) (b1_0 : List NodeV) (x8 : Int) {r : RES} (h : (if x8 < (L.length : Int) then ((0 ≤ x8 ∧ x8 < (L.length : Int)) ∧ (if (nth L x8.toNat) = b0_0 then r = (.one (.pv (.sc (.int .i64 x8))), [(0, .box [.pv (.sc (.int .i64 b0_0))]), (1, .box [.pv (.sl false 7 (tNode.encs b1_0))])], 2) else ((b1_0.length ≤ 100) ∧ (((planI b1_0) = true) ∧ ((0 ≤ (nth L x8.toNat) ∧ (nth L x8.toNat) < b1_0.length) ∧ (((nth L x8.toNat).toNat < bd) ∧ (if (feedB b1_0 b0_0 (nth L x8.toNat)) = true then r = (.one (.pv (.sc (.int .i64 x8))), [(0, .box [.pv (.sc (.int .i64 b0_0))]), (1, .box [.pv (.sl false 7 (tNode.encs b1_0))])], 2) else G88_0 w Xs β0 O0 Sg L b0_0 b1_0 (IntKind.i64.wrap (x8 + 1)) r))))))) else r = (.one (.pv (.sc (.int .i64 (-1)))), [(0, .box [.pv (.sc (.int .i64 b0_0))]), (1, .box [.pv (.sl false 7 (tNode.encs b1_0))])], 2))) : G88_0 w Xs β0 O0 Sg L b0_0 b1_0 x8 r := by
  obtain ⟨I, hI⟩ : ∃ I, I = real := ⟨_, rfl⟩; obtain ⟨K, hK⟩ : ∃ K : FuncId → En, K = fun g => (lk g [(61, (en61 bd))]).getD default := ⟨_, rfl⟩; have k61 : K 61 = (en61 bd) := (by subst hK; rfl); clear hK
  unfold G88_0
  obtain ⟨q0, hq0⟩ : ∃ q, q = (tNode.encs b1_0) := ⟨_, rfl⟩
  try rw [← hq0]
  obtain ⟨q1, hq1⟩ : ∃ q, q = (L.length : Int) := ⟨_, rfl⟩
  try rw [← hq1]
  obtain ⟨q2, hq2⟩ : ∃ q, q = (tI64.encs L) := ⟨_, rfl⟩
  try rw [← hq2]
  refine W_go (Y := (Tab.calls [(89, false, callRef I (inlR X I (Tab.calls [(61, true, callRd I (callE I (K 61) sh61))]) Try.f89))])) xok (TabOk.calls mixed ⟨EntryOk.ref (s89 s61 hI k61) hI, notQuiet, trivial⟩) Try.func88 rfl 2000 _ hI ?_; (conv => arg 4; cbv)
  repeat' (first | (have hd := And.left h; replace h := And.right h) | ((with_reducible refine on_eqs ?_ ?_); (focus (with_reducible rfl)); conv => arg 4; cbv) | (with_reducible refine on_both ?_ ?_ <;> (conv => arg 4; cbv)) | (with_reducible refine on_true (by assumption) ?_; conv => arg 4; cbv) | (with_reducible refine on_false (by assumption) ?_; conv => arg 4; cbv) | (with_reducible refine on_ask (fun g => ?_) (fun g => ?_) <;> (have hc := g) <;> (try simp (disch := omega) [hI, k61, en61, an61, hq0, hq1, hq2, -List.length_eq_zero_iff] at hc) <;> (try (exfalso; omega)) <;> (try (first | (revert h; (refine imp_l ?_ (fun h => ?_)); focus (first | exact hc | assumption | omega | (simpa using hc; done))) | (revert h; (refine imp_r ?_ (fun h => ?_)); focus (first | exact hc | assumption | omega | (simpa using hc; done))))) <;> (conv => arg 4; cbv)) | ((with_reducible refine on_must ?_ ?_); (focus ((simp (disch := omega) [hI, k61, en61, an61, hq0, hq1, hq2]) <;> (first | omega | assumption | ((repeat' (refine And.intro ?_ ?_)) <;> (first | omega | assumption))))); conv => arg 4; cbv))
  all_goals (first | ((with_reducible have hG : G88_0 _ _ _ _ _ _ _ _ _ _ := h); unfold G88_0 at hG; (with_reducible refine on_loop ?_); simp only [List.cons_append, List.nil_append]; refine W_norm [0, 1, 7, 8] ?_ hG) | ((subst h); (with_reducible refine on_ret ?_); refine EndedN_of ?_))
  all_goals ((conv => lhs; cbv); (try (first | rfl | ((try simp (disch := omega) [hI, k61, en61, an61, hq0, hq1, hq2, mapE_append, Ty.encs_append, encs1_I64, encs1_U8, encs1, mapE1]) <;> (first | rfl | omega | (simp; done))))))
theorem go88 {bd : Nat} (s61 : ∀ {I : Ops}, I = real → ∀ {e : En}, e = en61 bd → Sound Try.prog 61 (callE I e sh61)) (L : List Int) (c : Int) (plan : List NodeV) {r : RES} (h : ∀ (w : World) (Xs : Nat → Prop) (β0 : Nat → Nat × Nat) (O0 : Nat → List Nat) (Sg : Store), Sg = [(0, .box [.pv (.sc (.int .i64 c))]), (1, .box [.pv (.sl false 7 (tNode.encs plan))])] → G88_0 w Xs β0 O0 Sg L c plan 0 r) : OkR Try.prog 88 [.one (.pv (.sl false 1 (tI64.encs L))), .one (.fn 89 [(0, 0, 0), (1, 0, 0)])] [(0, .box [.pv (.sc (.int .i64 c))]), (1, .box [.pv (.sl false 7 (tNode.encs plan))])] 2 r.1 r.2.1 r.2.2 := by
  obtain ⟨I, hI⟩ : ∃ I, I = real := ⟨_, rfl⟩; obtain ⟨K, hK⟩ : ∃ K : FuncId → En, K = fun g => (lk g [(61, (en61 bd))]).getD default := ⟨_, rfl⟩; have k61 : K 61 = (en61 bd) := (by subst hK; rfl); clear hK
  obtain ⟨q0, hq0⟩ : ∃ q, q = (tNode.encs plan) := ⟨_, rfl⟩
  try rw [← hq0]
  obtain ⟨q1, hq1⟩ : ∃ q, q = (tI64.encs L) := ⟨_, rfl⟩
  try rw [← hq1]
  refine OkR_run (Y := (Tab.calls [(89, false, callRef I (inlR X I (Tab.calls [(61, true, callRd I (callE I (K 61) sh61))]) Try.f89))])) xok (TabOk.calls mixed ⟨EntryOk.ref (s89 s61 hI k61) hI, notQuiet, trivial⟩) Try.func88 rfl rfl rfl 2000 hI fun w Xs β0 O0 => ?_; (conv => arg 4; cbv)
  replace h := h w Xs β0 O0 [(0, .box [.pv (.sc (.int .i64 c))]), (1, .box [.pv (.sl false 7 q0)])] (by simp only [hq0, hq1])
  repeat' (first | (have hd := And.left h; replace h := And.right h) | ((with_reducible refine on_eqs ?_ ?_); (focus (with_reducible rfl)); conv => arg 4; cbv) | (with_reducible refine on_both ?_ ?_ <;> (conv => arg 4; cbv)) | (with_reducible refine on_true (by assumption) ?_; conv => arg 4; cbv) | (with_reducible refine on_false (by assumption) ?_; conv => arg 4; cbv) | (with_reducible refine on_ask (fun g => ?_) (fun g => ?_) <;> (have hc := g) <;> (try simp (disch := omega) [hI, k61, en61, an61, hq0, hq1, -List.length_eq_zero_iff] at hc) <;> (try (exfalso; omega)) <;> (try (first | (revert h; (refine imp_l ?_ (fun h => ?_)); focus (first | exact hc | assumption | omega | (simpa using hc; done))) | (revert h; (refine imp_r ?_ (fun h => ?_)); focus (first | exact hc | assumption | omega | (simpa using hc; done))))) <;> (conv => arg 4; cbv)) | ((with_reducible refine on_must ?_ ?_); (focus ((simp (disch := omega) [hI, k61, en61, an61, hq0, hq1]) <;> (first | omega | assumption | ((repeat' (refine And.intro ?_ ?_)) <;> (first | omega | assumption))))); conv => arg 4; cbv))
  all_goals (first | ((with_reducible have hG : G88_0 _ _ _ _ _ _ _ _ _ _ := h); unfold G88_0 at hG; (with_reducible refine on_loop ?_); simp only [List.cons_append, List.nil_append]; refine W_norm [0, 1, 7, 8] ?_ hG) | ((subst h); (with_reducible refine on_ret ?_); refine EndedN_of ?_))
  all_goals ((conv => lhs; cbv); (try (first | rfl | ((try simp (disch := omega) [hI, k61, en61, an61, hq0, hq1, mapE_append, Ty.encs_append, encs1_I64, encs1_U8, encs1, mapE1]) <;> (first | rfl | omega | (simp; done))))))
end Go.Proofs.Try
