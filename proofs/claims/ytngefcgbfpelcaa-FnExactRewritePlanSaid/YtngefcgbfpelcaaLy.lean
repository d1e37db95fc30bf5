/- Contracts. -/
import Derived.Test.YtngefcgbfpelcaaLx
set_option linter.unusedSimpArgs false
set_option linter.unusedVariables false
namespace Go.Proofs.Try
open Go Go.Aix
set_option maxRecDepth 100000
set_option maxHeartbeats 4000000
set_option linter.unusedSimpArgs false
set_option linter.unusedVariables false
theorem ent60 : Enters Try.prog 60 := ⟨Try.f60, Try.func60, by kernel_rfl, by kernel_rfl⟩
theorem s60 {I : Ops} (hI : I = real) {K : FuncId → En} (k61 : K 61 = (en61 100)) : SoundR Try.prog 60 (inlR X I (Tab.calls [(61, true, callRd I (callE I (K 61) sh61))]) Try.f60) :=
  SoundR.inl (Y := (Tab.calls [(61, true, callRd I (callE I (K 61) sh61))])) xok (TabOk.calls mixed ⟨EntryOk.rd (s61 hI k61) hI, fun _ => callRd_quiet _ _, trivial⟩) ent60 Try.func60 rfl rfl hI
def G88b_0 (w : World) (Xs : Nat → Prop) (β0 : Nat → Nat × Nat) (O0 : Nat → List Nat) (Sg : Store) (L : List Int) (r0 : List Int) (b1_0 : List NodeV) (b2_0 : Int) (x8 : Int) (r : RES) : Prop := W Try.prog 88 Try.f88 (EntR w Xs β0 O0 Sg 3) (Back (EntR w Xs β0 O0 Sg 3) r.1 r.2.1 r.2.2) (place (bodyOf Try.f88) [1,0,1,0,0] [])
  ⟨[(0, .one (.arr 0 0 r0.length)), (1, .one (.fn 60 [(1, 0, 0), (2, 0, 0)])), (7, .one (.pv (.sc (.int .i64 (L.length : Int))))), (8, .one (.pv (.sc (.int .i64 x8))))], [(0, .row 1 (tI64.encs r0)), (1, .box [.pv (.sl false 7 (tNode.encs b1_0))]), (2, .box [.pv (.sc (.int .i64 b2_0))])], 3⟩
theorem st88b_0 {w : World} {Xs : Nat → Prop} {β0 : Nat → Nat × Nat} {O0 : Nat → List Nat} {Sg : Store} (L : List Int) (r0 : List Int) (b1_0 : List NodeV) (b2_0 : Int) (x8 : Int) {r : RES} (h : (if x8 < (L.length : Int) then ((0 ≤ x8 ∧ x8 < (r0.length : Int)) ∧ ((b1_0.length ≤ 100) ∧ (((planI b1_0) = true) ∧ ((0 ≤ (nth r0 x8.toNat) ∧ (nth r0 x8.toNat) < b1_0.length) ∧ (((nth r0 x8.toNat).toNat < 100) ∧ (if (feedB b1_0 b2_0 (nth r0 x8.toNat)) = true then r = (.one (.pv (.sc (.int .i64 x8))), [(0, .row 1 (tI64.encs r0)), (1, .box [.pv (.sl false 7 (tNode.encs b1_0))]), (2, .box [.pv (.sc (.int .i64 b2_0))])], 3) else G88b_0 w Xs β0 O0 Sg L r0 b1_0 b2_0 (IntKind.i64.wrap (x8 + 1)) r)))))) else r = (.one (.pv (.sc (.int .i64 (-1)))), [(0, .row 1 (tI64.encs r0)), (1, .box [.pv (.sl false 7 (tNode.encs b1_0))]), (2, .box [.pv (.sc (.int .i64 b2_0))])], 3))) : G88b_0 w Xs β0 O0 Sg L r0 b1_0 b2_0 x8 r := by
  obtain ⟨I, hI⟩ : ∃ I, I = real := ⟨_, rfl⟩; obtain ⟨K, hK⟩ : ∃ K : FuncId → En, K = fun g => (lk g [(61, (en61 100))]).getD default := ⟨_, rfl⟩; have k61 : K 61 = (en61 100) := (by subst hK; rfl); clear hK
  unfold G88b_0
  obtain ⟨q0, hq0⟩ : ∃ q, q = (tNode.encs b1_0) := ⟨_, rfl⟩
  try rw [← hq0]
  obtain ⟨q1, hq1⟩ : ∃ q, q = (L.length : Int) := ⟨_, rfl⟩
  try rw [← hq1]
  obtain ⟨q2, hq2⟩ : ∃ q, q = (tI64.encs r0) := ⟨_, rfl⟩
  try rw [← hq2]
  obtain ⟨q3, hq3⟩ : ∃ q, q = r0.length := ⟨_, rfl⟩
  try rw [← hq3]
  refine W_go (Y := (Tab.calls [(60, false, callRef I (inlR X I (Tab.calls [(61, true, callRd I (callE I (K 61) sh61))]) Try.f60))])) xok (TabOk.calls mixed ⟨EntryOk.ref (s60 hI k61) hI, notQuiet, trivial⟩) Try.func88 rfl 2000 _ hI ?_; (conv => arg 4; cbv)
  repeat' (first | (have hd := And.left h; replace h := And.right h) | ((with_reducible refine on_eqs ?_ ?_); (focus (with_reducible rfl)); conv => arg 4; cbv) | (with_reducible refine on_both ?_ ?_ <;> (conv => arg 4; cbv)) | (with_reducible refine on_true (by assumption) ?_; conv => arg 4; cbv) | (with_reducible refine on_false (by assumption) ?_; conv => arg 4; cbv) | (with_reducible refine on_ask (fun g => ?_) (fun g => ?_) <;> (have hc := g) <;> (try simp (disch := omega) [hI, k61, en61, an61, hq0, hq1, hq2, hq3, -List.length_eq_zero_iff] at hc) <;> (try (exfalso; omega)) <;> (try (first | (revert h; (refine imp_l ?_ (fun h => ?_)); focus (first | exact hc | assumption | omega | (simpa using hc; done))) | (revert h; (refine imp_r ?_ (fun h => ?_)); focus (first | exact hc | assumption | omega | (simpa using hc; done))))) <;> (conv => arg 4; cbv)) | ((with_reducible refine on_must ?_ ?_); (focus ((simp (disch := omega) [hI, k61, en61, an61, hq0, hq1, hq2, hq3]) <;> (first | omega | assumption | ((repeat' (refine And.intro ?_ ?_)) <;> (first | omega | assumption))))); conv => arg 4; cbv))
  all_goals (first | ((with_reducible have hG : G88b_0 _ _ _ _ _ _ _ _ _ _ _ := h); unfold G88b_0 at hG; (with_reducible refine on_loop ?_); simp only [List.cons_append, List.nil_append]; refine W_norm [0, 1, 7, 8] ?_ hG) | ((subst h); (with_reducible refine on_ret ?_); refine EndedN_of ?_))
  all_goals ((conv => lhs; cbv); (try (first | rfl | ((try simp (disch := omega) [hI, k61, en61, an61, hq0, hq1, hq2, hq3, mapE_append, Ty.encs_append, encs1_I64, encs1_U8, encs1, mapE1]) <;> (first | rfl | omega | (simp; done))))))
theorem go88b (L : List Int) (plan : List NodeV) (c : Int) {r : RES} (h : ∀ (w : World) (Xs : Nat → Prop) (β0 : Nat → Nat × Nat) (O0 : Nat → List Nat) (Sg : Store), Sg = [(0, .row 1 (tI64.encs L)), (1, .box [.pv (.sl false 7 (tNode.encs plan))]), (2, .box [.pv (.sc (.int .i64 c))])] → G88b_0 w Xs β0 O0 Sg L L plan c 0 r) : OkR Try.prog 88 [.one (.arr 0 0 L.length), .one (.fn 60 [(1, 0, 0), (2, 0, 0)])] [(0, .row 1 (tI64.encs L)), (1, .box [.pv (.sl false 7 (tNode.encs plan))]), (2, .box [.pv (.sc (.int .i64 c))])] 3 r.1 r.2.1 r.2.2 := by
  obtain ⟨I, hI⟩ : ∃ I, I = real := ⟨_, rfl⟩; obtain ⟨K, hK⟩ : ∃ K : FuncId → En, K = fun g => (lk g [(61, (en61 100))]).getD default := ⟨_, rfl⟩; have k61 : K 61 = (en61 100) := (by subst hK; rfl); clear hK
  obtain ⟨q0, hq0⟩ : ∃ q, q = (tNode.encs plan) := ⟨_, rfl⟩
  try rw [← hq0]
  obtain ⟨q1, hq1⟩ : ∃ q, q = (tI64.encs L) := ⟨_, rfl⟩
  try rw [← hq1]
  obtain ⟨q2, hq2⟩ : ∃ q, q = L.length := ⟨_, rfl⟩
  try rw [← hq2]
  refine OkR_run (Y := (Tab.calls [(60, false, callRef I (inlR X I (Tab.calls [(61, true, callRd I (callE I (K 61) sh61))]) Try.f60))])) xok (TabOk.calls mixed ⟨EntryOk.ref (s60 hI k61) hI, notQuiet, trivial⟩) Try.func88 rfl rfl rfl 2000 hI fun w Xs β0 O0 => ?_; (conv => arg 4; cbv)
  replace h := h w Xs β0 O0 [(0, .row 1 q1), (1, .box [.pv (.sl false 7 q0)]), (2, .box [.pv (.sc (.int .i64 c))])] (by simp only [hq0, hq1, hq2])
  repeat' (first | (have hd := And.left h; replace h := And.right h) | ((with_reducible refine on_eqs ?_ ?_); (focus (with_reducible rfl)); conv => arg 4; cbv) | (with_reducible refine on_both ?_ ?_ <;> (conv => arg 4; cbv)) | (with_reducible refine on_true (by assumption) ?_; conv => arg 4; cbv) | (with_reducible refine on_false (by assumption) ?_; conv => arg 4; cbv) | (with_reducible refine on_ask (fun g => ?_) (fun g => ?_) <;> (have hc := g) <;> (try simp (disch := omega) [hI, k61, en61, an61, hq0, hq1, hq2, -List.length_eq_zero_iff] at hc) <;> (try (exfalso; omega)) <;> (try (first | (revert h; (refine imp_l ?_ (fun h => ?_)); focus (first | exact hc | assumption | omega | (simpa using hc; done))) | (revert h; (refine imp_r ?_ (fun h => ?_)); focus (first | exact hc | assumption | omega | (simpa using hc; done))))) <;> (conv => arg 4; cbv)) | ((with_reducible refine on_must ?_ ?_); (focus ((simp (disch := omega) [hI, k61, en61, an61, hq0, hq1, hq2]) <;> (first | omega | assumption | ((repeat' (refine And.intro ?_ ?_)) <;> (first | omega | assumption))))); conv => arg 4; cbv))
  all_goals (first | ((with_reducible have hG : G88b_0 _ _ _ _ _ _ _ _ _ _ _ := h); unfold G88b_0 at hG; (with_reducible refine on_loop ?_); simp only [List.cons_append, List.nil_append]; refine W_norm [0, 1, 7, 8] ?_ hG) | ((subst h); (with_reducible refine on_ret ?_); refine EndedN_of ?_))
  all_goals ((conv => lhs; cbv); (try (first | rfl | ((try simp (disch := omega) [hI, k61, en61, an61, hq0, hq1, hq2, mapE_append, Ty.encs_append, encs1_I64, encs1_U8, encs1, mapE1]) <;> (first | rfl | omega | (simp; done))))))
theorem lm_firstb {w : World} {Xs : Nat → Prop} {β0 : Nat → Nat × Nat} {O0 : Nat → List Nat} {Sg : Store} (L : List Int) (plan : List NodeV) (c : Int) (hl : L.length ≤ 1048576) (hp : plan.length ≤ 100) (hI : planI plan = true) (ha : allIn L plan.length 100 = true) : ∀ (k i : Nat), k + i = L.length → G88b_0 w Xs β0 O0 Sg L L plan c i (.one (.pv (.sc (.int .i64 (fstI (fun k => feedB plan c k) (L.drop i) i)))), [(0, .row 1 (tI64.encs L)), (1, .box [.pv (.sl false 7 (tNode.encs plan))]), (2, .box [.pv (.sc (.int .i64 c))])], 3) := by
  intro k
  induction k with
  | zero =>
    intro i hk
    apply st88b_0
    rw [if_neg (by omega), drop_nil (l := L) (by omega)]
    rfl
  | succ k ih =>
    intro i hk
    have hx := allIn_nth ha (i := i) (by omega)
    apply st88b_0
    rw [if_pos (by omega), wsucc (by omega), Int.toNat_natCast, nth_drop (l := L) (i := i) (by omega), fstI]
    refine ⟨by omega, hp, hI, ⟨hx.1, hx.2.1⟩, hx.2.2, if_go (fun h2 => ?_) (fun h2 => ?_)⟩
    · rw [if_pos h2]
    · rw [if_neg h2]
      exact ih (i + 1) (by omega)

noncomputable def an88b : An (List Int × List NodeV × Int × Unit) where
  pre t := decide (t.1.length ≤ 1048576) && decide (t.2.1.length ≤ 100) && (planI t.2.1) && (allIn t.1 t.2.1.length 100)
  i _ t := fstI (fun k => feedB t.2.1 t.2.2.1 k) t.1 0
def A88b : (List Int × List NodeV × Int × Unit) → List AV := fun t => [.one (.arr 0 0 t.1.length), .one (.fn 60 [(1, 0, 0), (2, 0, 0)])]
def Sg88b : (List Int × List NodeV × Int × Unit) → Store := fun t => [(0, .row 1 (tI64.encs t.1)), (1, .box [.pv (.sl false 7 (tNode.encs t.2.1))]), (2, .box [.pv (.sc (.int .i64 t.2.2.1))])]
noncomputable def en88b : En := mkE (exPars A88b Sg88b (fun _ => 3)) (an88b)
def vl88b : (Nat → Int) → (Nat → Bool) → AV := fun i b => .one (.pv (.sc (.int .i64 (i 0))))
theorem inj88b (t t' : List Int × List NodeV × Int × Unit) (h1 : A88b t = A88b t') (h2 : Sg88b t = Sg88b t') : t = t' := by
  obtain ⟨L, plan, c, ⟨⟩⟩ := t
  obtain ⟨L', plan', c', ⟨⟩⟩ := t'
  have x := h1
  have y := h2
  simp only [A88b, Sg88b, List.cons.injEq, Prod.mk.injEq, AV.one.injEq, Cell.arr.injEq, Cell.pv.injEq, PV.sc.injEq, PV.sl.injEq, Chunk.row.injEq, Chunk.box.injEq, Value.int.injEq, and_true, true_and] at x y
  simp_all [Ty.encs_inj]
theorem dec88b (L : List Int) (plan : List NodeV) (c : Int) : (exPars A88b Sg88b (fun _ => 3)).dec [.one (.ptr 3 2 0), .one (.arr 0 0 L.length), .one (.fn 60 [(1, 0, 0), (2, 0, 0)]), .tp [(false, [.ptr 0 1 0, .pv (.sl true 0 (tI64.encs L))])], .tp [(true, [.ptr 1 0 0, (.pv (.sl false 7 (tNode.encs plan)))])], .tp [(true, [.ptr 2 0 0, (.pv (.sc (.int .i64 c)))])]] = some (L, plan, c, ()) := exPars_dec inj88b (L, plan, c, ()) rfl
theorem ok88b (L : List Int) (plan : List NodeV) (c : Int) (p0 : L.length ≤ 1048576) (p1 : plan.length ≤ 100) (p2 : planI plan = true) (p3 : allIn L plan.length 100 = true) : OkR Try.prog 88 [.one (.arr 0 0 L.length), .one (.fn 60 [(1, 0, 0), (2, 0, 0)])] [(0, .row 1 (tI64.encs L)), (1, .box [.pv (.sl false 7 (tNode.encs plan))]), (2, .box [.pv (.sc (.int .i64 c))])] 3 (.one (.pv (.sc (.int .i64 (fstI (fun k => feedB plan c k) L 0))))) [(0, .row 1 (tI64.encs L)), (1, .box [.pv (.sl false 7 (tNode.encs plan))]), (2, .box [.pv (.sc (.int .i64 c))])] 3 := by
  exact go88b L plan c (r := (_, _, _)) fun w Xs β0 O0 Sg hS => lm_firstb L plan c p0 p1 p2 p3 L.length 0 rfl
theorem s88b {I : Ops} (hI : I = real) {e : En} (he : e = en88b) : SoundR Try.prog 88 (exV I e vl88b) := by
  refine SoundR.exv ent88 ?_ hI he
  rintro ⟨L, plan, c, ⟨⟩⟩ hp
  have hp : (decide (L.length ≤ 1048576) && decide (plan.length ≤ 100) && (planI plan) && (allIn L plan.length 100)) = true := hp
  try simp only [Bool.and_eq_true, decide_eq_true_eq] at hp
  obtain ⟨⟨⟨p0, p1⟩, p2⟩, p3⟩ := hp
  exact ok88b L plan c p0 p1 p2 p3
theorem s58b {I : Ops} (hI : I = real) {K : FuncId → En} (k88 : K 88 = en88b) : SoundR Try.prog 58 (inlR X I (Tab.calls [(88, false, callRef I (exV I (K 88) vl88b))]) Try.f58) :=
  SoundR.inl (Y := (Tab.calls [(88, false, callRef I (exV I (K 88) vl88b))])) xok (TabOk.calls mixed ⟨EntryOk.ref (s88b hI k88) hI, notQuiet, trivial⟩) ent58 Try.func58 rfl rfl hI
end Go.Proofs.Try
