/- Contracts. -/
import Derived.Test.YtngefcgbfpelcaaLm
set_option linter.unusedSimpArgs false
set_option linter.unusedVariables false
namespace Go.Proofs.Try
open Go Go.Aix
set_option maxRecDepth 100000
set_option maxHeartbeats 4000000
set_option linter.unusedSimpArgs false
set_option linter.unusedVariables false
theorem ent48 : Enters Try.prog 48 := ⟨Try.f48, Try.func48, by kernel_rfl, by kernel_rfl⟩
def G48_0 (w : World) (Xs : Nat → Prop) (plan : List NodeV) (r0 : List NodeV) (did : Int) (x13 : Int) (r : RES) : Prop := W Try.prog 48 Try.f48 (Ent0 w Xs) (Back (Ent0 w Xs) r.1 r.2.1 r.2.2) (place (bodyOf Try.f48) [1,1,0,1,0,0] [])
  ⟨[(4, .one (.arr 0 0 r0.length)), (5, .one (.pv (.sc (.int .i64 did)))), (11, .one (.arr 0 0 r0.length)), (12, .one (.pv (.sc (.int .i64 (plan.length : Int))))), (13, .one (.pv (.sc (.int .i64 x13))))], [(0, .row 7 (tNode.encs r0))], 1⟩
noncomputable def Y48 (I : Ops) (K : FuncId → En) : CallsA := (Tab.calls [(64, false, callIce I (callE I (K 64) sh64)), (71, false, callVw I (callE I (K 71) sh71))])
theorem tY48 {I : Ops} (hI : I = real) {K : FuncId → En} (k64 : K 64 = en64) (k71 : K 71 = en71) : CallsOk Try.prog (Y48 I K) := (TabOk.calls mixed ⟨EntryOk.own (s64 hI k64) hI, notQuiet, ⟨EntryOk.vw (s71 hI k71) hI, notQuiet, trivial⟩⟩)
theorem st48_0 {w : World} {Xs : Nat → Prop} (plan : List NodeV) (r0 : List NodeV) (did : Int) (x13 : Int) {r : RES} (h : (if x13 < (plan.length : Int) then ((0 ≤ x13 ∧ x13 < (r0.length : Int)) ∧ (if (nth r0 x13.toNat).op = 2 then ((0 ≤ (nth r0 x13.toNat).a ∧ (nth r0 x13.toNat).a < (r0.length : Int)) ∧ (if (nth r0 (((nth r0 x13.toNat).a).toNat)).op = 5 then ((r0.length ≤ 1048576) ∧ (if 1 < ((readersL r0 ((nth r0 x13.toNat).a) 0).length : Int) then G48_0 w Xs plan r0 did (IntKind.i64.wrap (x13 + 1)) r else G48_0 w Xs plan ((r0.set (((nth r0 x13.toNat).a).toNat) (NodeV.mk ((nth r0 x13.toNat).op) ((nth r0 (((nth r0 x13.toNat).a).toNat)).a) ((nth r0 x13.toNat).b) ((nth r0 x13.toNat).col) ((nth r0 x13.toNat).test) ((nth r0 x13.toNat).value) ((nth r0 x13.toNat).cells))).set x13.toNat (NodeV.mk 5 ((nth r0 x13.toNat).a) 0 0 0 0 ([]))) (IntKind.i64.wrap (did + 1)) (IntKind.i64.wrap (x13 + 1)) r)) else G48_0 w Xs plan r0 did (IntKind.i64.wrap (x13 + 1)) r)) else G48_0 w Xs plan r0 did (IntKind.i64.wrap (x13 + 1)) r)) else r = (.tp [(false, [.arr 0 0 r0.length]), (false, [.pv (.sc (.int .i64 did))])], [(0, .row 7 (tNode.encs r0))], 1))) : G48_0 w Xs plan r0 did x13 r := by
  obtain ⟨I, hI⟩ : ∃ I, I = real := ⟨_, rfl⟩; obtain ⟨K, hK⟩ : ∃ K : FuncId → En, K = fun g => (lk g [(64, en64), (71, en71)]).getD default := ⟨_, rfl⟩; have k64 : K 64 = en64 := (by subst hK; rfl); have k71 : K 71 = en71 := (by subst hK; rfl); clear hK
  unfold G48_0
  obtain ⟨q0, hq0⟩ : ∃ q, q = (plan.length : Int) := ⟨_, rfl⟩
  try rw [← hq0]
  obtain ⟨q1, hq1⟩ : ∃ q, q = (tNode.encs r0) := ⟨_, rfl⟩
  try rw [← hq1]
  obtain ⟨q2, hq2⟩ : ∃ q, q = r0.length := ⟨_, rfl⟩
  try rw [← hq2]
  refine W_go (Y := (Y48 I K)) xok (tY48 hI k64 k71) Try.func48 rfl 2000 _ hI ?_; (conv => arg 4; cbv)
  repeat' (first | (have hd := And.left h; replace h := And.right h) | ((with_reducible refine on_eqs ?_ ?_); (focus (with_reducible rfl)); conv => arg 4; cbv) | (with_reducible refine on_both ?_ ?_ <;> (conv => arg 4; cbv)) | (with_reducible refine on_true (by assumption) ?_; conv => arg 4; cbv) | (with_reducible refine on_false (by assumption) ?_; conv => arg 4; cbv) | (with_reducible refine on_ask (fun g => ?_) (fun g => ?_) <;> (have hc := g) <;> (try simp (disch := omega) [hI, k64, en64, an64, k71, en71, an71, hq0, hq1, hq2, -List.length_eq_zero_iff] at hc) <;> (try (exfalso; omega)) <;> (try (first | (revert h; (refine imp_l ?_ (fun h => ?_)); focus (first | exact hc | assumption | omega | (simpa using hc; done))) | (revert h; (refine imp_r ?_ (fun h => ?_)); focus (first | exact hc | assumption | omega | (simpa using hc; done))))) <;> (conv => arg 4; cbv)) | ((with_reducible refine on_must ?_ ?_); (focus ((simp (disch := omega) [hI, k64, en64, an64, k71, en71, an71, hq0, hq1, hq2]) <;> (first | omega | assumption | ((repeat' (refine And.intro ?_ ?_)) <;> (first | omega | assumption))))); conv => arg 4; cbv))
  all_goals (first | ((with_reducible have hG : G48_0 _ _ _ _ _ _ _ := h); unfold G48_0 at hG; (with_reducible refine on_loop ?_); simp only [List.cons_append, List.nil_append]; refine W_norm [4, 5, 11, 12, 13] ?_ hG; (conv => lhs; cbv); (first | rfl | ((try simp (disch := omega) [hI, k64, en64, an64, k71, en71, an71, hq0, hq1, hq2, mapE_append, Ty.encs_append, encs1_I64, encs1_U8, encs1, mapE1, encs_setR, mapE_setR, Ty.nth_encs, tNode_enc, tNode_own]) <;> (first | rfl | omega | (simp; done))))) | ((with_reducible have hG : G48_0 _ _ _ _ _ _ _ := h); unfold G48_0 at hG; (with_reducible refine on_loop ?_); simp only [List.cons_append, List.nil_append]; refine W_normW [4, 5, 11, 12, 13] (by (conv => lhs; cbv) <;> rfl) ?_ ?_ ?_ hG <;> dsimp only <;> (first | rfl | (simp (disch := omega) [hI, k64, en64, an64, k71, en71, an71, hq0, hq1, hq2, mapE_append, Ty.encs_append, encs1_I64, encs1_U8, encs1, mapE1, encs_setR, mapE_setR, Ty.nth_encs, tNode_enc, tNode_own]; done) | exact SWk.refl | (refine SWk.row2 ?_ SWk.refl rfl; (try simp (disch := omega) [hI, k64, en64, an64, k71, en71, an71, hq0, hq1, hq2, mapE_append, Ty.encs_append, encs1_I64, encs1_U8, encs1, mapE1, encs_setR, mapE_setR, Ty.nth_encs, tNode_enc, tNode_own, encs_setR, mapE_setR, Ty.nth_encs, tNode_enc, tNode_own]); (first | exact Wk.refl | (refine Wk.set ?_; (repeat (first | exact NlP.nil | refine NlP.same ?_ | refine NlP.nl ?_)); done))))) | ((subst h); (with_reducible refine on_ret ?_); refine Ended_of rfl ?_; (conv => lhs; cbv); (try (first | rfl | ((try simp (disch := omega) [hI, k64, en64, an64, k71, en71, an71, hq0, hq1, hq2, mapE_append, Ty.encs_append, encs1_I64, encs1_U8, encs1, mapE1, encs_setR, mapE_setR, Ty.nth_encs, tNode_enc, tNode_own]) <;> (first | rfl | omega | (simp; done)))))))
theorem go48 (plan : List NodeV) {r : RES} (h : ∀ (w : World) (Xs : Nat → Prop), ((0 < plan.length ∧ plan.length ≤ 1048576) ∧ G48_0 w Xs plan plan 0 0 r)) : Ok0 Try.prog 48 [(pL tNode).enc plan] r.1 r.2.1 r.2.2 := by
  obtain ⟨I, hI⟩ : ∃ I, I = real := ⟨_, rfl⟩; obtain ⟨K, hK⟩ : ∃ K : FuncId → En, K = fun g => (lk g [(64, en64), (71, en71)]).getD default := ⟨_, rfl⟩; have k64 : K 64 = en64 := (by subst hK; rfl); have k71 : K 71 = en71 := (by subst hK; rfl); clear hK
  show Ok0 Try.prog 48 [.one (.pv (.sl false 7 (tNode.encs plan)))] _ _ _
  obtain ⟨q0, hq0⟩ : ∃ q, q = (tNode.encs plan) := ⟨_, rfl⟩
  try rw [← hq0]
  refine Ok0_run (Y := (Y48 I K)) xok (tY48 hI k64 k71) Try.func48 rfl rfl rfl 2000 hI fun w Xs => ?_; (conv => arg 4; cbv)
  replace h := h w Xs
  repeat' (first | (have hd := And.left h; replace h := And.right h) | ((with_reducible refine on_eqs ?_ ?_); (focus (with_reducible rfl)); conv => arg 4; cbv) | (with_reducible refine on_both ?_ ?_ <;> (conv => arg 4; cbv)) | (with_reducible refine on_true (by assumption) ?_; conv => arg 4; cbv) | (with_reducible refine on_false (by assumption) ?_; conv => arg 4; cbv) | (with_reducible refine on_ask (fun g => ?_) (fun g => ?_) <;> (have hc := g) <;> (try simp (disch := omega) [hI, k64, en64, an64, k71, en71, an71, hq0, -List.length_eq_zero_iff] at hc) <;> (try (exfalso; omega)) <;> (try (first | (revert h; (refine imp_l ?_ (fun h => ?_)); focus (first | exact hc | assumption | omega | (simpa using hc; done))) | (revert h; (refine imp_r ?_ (fun h => ?_)); focus (first | exact hc | assumption | omega | (simpa using hc; done))))) <;> (conv => arg 4; cbv)) | ((with_reducible refine on_must ?_ ?_); (focus ((simp (disch := omega) [hI, k64, en64, an64, k71, en71, an71, hq0]) <;> (first | omega | assumption | ((repeat' (refine And.intro ?_ ?_)) <;> (first | omega | assumption))))); conv => arg 4; cbv))
  all_goals (first | ((with_reducible have hG : G48_0 _ _ _ _ _ _ _ := h); unfold G48_0 at hG; (with_reducible refine on_loop ?_); simp only [List.cons_append, List.nil_append]; refine W_norm [4, 5, 11, 12, 13] ?_ hG; (conv => lhs; cbv); (first | rfl | ((try simp (disch := omega) [hI, k64, en64, an64, k71, en71, an71, hq0, mapE_append, Ty.encs_append, encs1_I64, encs1_U8, encs1, mapE1, encs_setR, mapE_setR, Ty.nth_encs, tNode_enc, tNode_own]) <;> (first | rfl | omega | (simp; done))))) | ((with_reducible have hG : G48_0 _ _ _ _ _ _ _ := h); unfold G48_0 at hG; (with_reducible refine on_loop ?_); simp only [List.cons_append, List.nil_append]; refine W_normW [4, 5, 11, 12, 13] (by (conv => lhs; cbv) <;> rfl) ?_ ?_ ?_ hG <;> dsimp only <;> (first | rfl | (simp (disch := omega) [hI, k64, en64, an64, k71, en71, an71, hq0, mapE_append, Ty.encs_append, encs1_I64, encs1_U8, encs1, mapE1, encs_setR, mapE_setR, Ty.nth_encs, tNode_enc, tNode_own]; done) | exact SWk.refl | (refine SWk.row2 ?_ SWk.refl rfl; (try simp (disch := omega) [hI, k64, en64, an64, k71, en71, an71, hq0, mapE_append, Ty.encs_append, encs1_I64, encs1_U8, encs1, mapE1, encs_setR, mapE_setR, Ty.nth_encs, tNode_enc, tNode_own, encs_setR, mapE_setR, Ty.nth_encs, tNode_enc, tNode_own]); (first | exact Wk.refl | (refine Wk.set ?_; (repeat (first | exact NlP.nil | refine NlP.same ?_ | refine NlP.nl ?_)); done))))) | ((subst h); (with_reducible refine on_ret ?_); refine Ended_of rfl ?_; (conv => lhs; cbv); (try (first | rfl | ((try simp (disch := omega) [hI, k64, en64, an64, k71, en71, an71, hq0, mapE_append, Ty.encs_append, encs1_I64, encs1_U8, encs1, mapE1, encs_setR, mapE_setR, Ty.nth_encs, tNode_enc, tNode_own]) <;> (first | rfl | omega | (simp; done)))))))
def pushC (l : List NodeV) (i : Nat) : Prop := (nth l i).op = 2 ∧ (nth l (nth l i).a.toNat).op = 5 ∧ (readersL l (nth l i).a 0).length ≤ 1
instance (l : List NodeV) (i : Nat) : Decidable (pushC l i) := by unfold pushC; infer_instance
def pushL (l : List NodeV) (i : Nat) : List NodeV :=
  (l.set (nth l i).a.toNat ⟨(nth l i).op, (nth l (nth l i).a.toNat).a, (nth l i).b, (nth l i).col, (nth l i).test, (nth l i).value, (nth l i).cells⟩).set i ⟨5, (nth l i).a, 0, 0, 0, 0, []⟩
def pushLp : Nat → Nat → List NodeV → Int → List NodeV × Int
  | 0, _, l, d => (l, d)
  | k + 1, i, l, d => if pushC l i then pushLp k (i + 1) (pushL l i) (d + 1) else pushLp k (i + 1) l d
def pushF (plan : List NodeV) : List NodeV × Int := pushLp plan.length 0 plan 0
theorem pushL_len (l : List NodeV) (i : Nat) : (pushL l i).length = l.length := by simp [pushL]
theorem PlanI.push {l : List NodeV} (h : PlanI l) {i : Nat} (hi : i < l.length) (hc : pushC l i) : PlanI (pushL l i) := by
  obtain ⟨h1, h2, _⟩ := hc
  have ha := h.a i hi (by omega)
  have hx := h.a _ (show (nth l i).a.toNat < l.length by omega) (by omega)
  unfold pushL
  refine PlanI.set (x := ⟨5, (nth l i).a, 0, 0, 0, 0, []⟩) (h.set (x := ⟨(nth l i).op, (nth l (nth l i).a.toNat).a, (nth l i).b, (nth l i).col, (nth l i).test, (nth l i).value, (nth l i).cells⟩) (by omega) (fun _ => hx) (fun hb => ?_)) (by simp; omega) (fun _ => ha) (fun hb => ?_)
  · have hb : (nth l i).op = 4 ∨ (nth l i).op = 6 := hb
    omega
  · have hb : (5 : Int) = 4 ∨ (5 : Int) = 6 := hb
    omega
theorem pushLp_ok : ∀ (k i : Nat) (l : List NodeV) (d : Int), k + i = l.length → cellsOk l = true → (pushLp k i l d).1.length = l.length ∧ cellsOk (pushLp k i l d).1 = true
  | 0, i, l, d, _, h => ⟨rfl, h⟩
  | k + 1, i, l, d, hk, h => by
    unfold pushLp
    split
    · have h2 : cellsOk (pushL l i) = true := cellsOk_set (cellsOk_set h (cellsOk_nth h (by omega))) (by simp)
      have := pushLp_ok k (i + 1) (pushL l i) (d + 1) (by rw [pushL_len]; omega) h2
      rw [pushL_len] at this
      exact this
    · exact pushLp_ok k (i + 1) l d (by omega) h
theorem pushF_ok {plan : List NodeV} (hz : planF plan = 0) (h : cellsOk plan = true) : (pushF plan).1.length = plan.length ∧ cellsOk (pushF plan).1 = true := pushLp_ok _ 0 plan 0 rfl h
theorem pushLp_rw : ∀ (k i : Nat) (l : List NodeV) (d : Int), k + i = l.length → RwI l → RwI (pushLp k i l d).1
  | 0, i, l, d, _, h => h
  | k + 1, i, l, d, hk, h => by
    unfold pushLp
    split
    · rename_i q
      refine pushLp_rw k (i + 1) _ _ (by rw [pushL_len]; omega) ?_
      obtain ⟨hp, W, hw⟩ := h
      have hi : i < l.length := by omega
      refine ⟨hp.push hi q, W, ?_⟩
      obtain ⟨h1, h2, _⟩ := q
      have ha := hp.a i hi (by omega)
      have hx := (hw _ (show (nth l i).a.toNat < l.length by omega)).2 (Or.inr (Or.inl h2))
      have hy := (hw i hi).2 (Or.inl h1)
      unfold pushL
      refine RwI.set (x := ⟨5, (nth l i).a, 0, 0, 0, 0, []⟩) (RwI.set (x := ⟨(nth l i).op, (nth l (nth l i).a.toNat).a, (nth l i).b, (nth l i).col, (nth l i).test, (nth l i).value, (nth l i).cells⟩) hw (by omega) ⟨fun h3 => ?_, fun _ => hx⟩) (by simp; omega) ⟨fun h3 => ?_, fun _ => hy⟩
      · have h3 : (nth l i).op = 3 := h3; omega
      · have h3 : (5 : Int) = 3 := h3; omega
    · exact pushLp_rw k (i + 1) l d (by omega) h
theorem pushF_rw {plan : List NodeV} (h : RwI plan) : RwI (pushF plan).1 := pushLp_rw _ 0 plan 0 rfl h
theorem pushLp_did : ∀ (k i : Nat) (l : List NodeV) (d : Int), d ≤ (pushLp k i l d).2 ∧ (pushLp k i l d).2 ≤ d + k
  | 0, i, l, d => by simp [pushLp]
  | k + 1, i, l, d => by
    unfold pushLp
    split
    · have := pushLp_did k (i + 1) (pushL l i) (d + 1); omega
    · have := pushLp_did k (i + 1) l d; omega
theorem readers_pos : ∀ (l : List NodeV) (k : Int) (i j : Nat), j < l.length → k ∈ readsL (nth l j) → 1 ≤ (readersL l k i).length
  | [], k, i, j, h, _ => by simp at h
  | e :: r, k, i, j, h, hm => by
    unfold readersL
    split
    · simp
    · rename_i hn
      match j, h, hm with
      | 0, _, hm => exact absurd hm hn
      | j + 1, h, hm => exact readers_pos r k (i + 1) j (by simpa using h) hm
theorem lm_push {w : World} {Xs : Nat → Prop} (plan : List NodeV) (hl : plan.length ≤ 8) : ∀ (k i : Nat) (l : List NodeV) (d : Int), k + i = plan.length → l.length = plan.length → PlanI l → 0 ≤ d ∧ d ≤ i → G48_0 w Xs plan l d i (resPD (pushLp k i l d)) := by
  intro k
  induction k with
  | zero =>
    intro i l d hk hll hI hd
    apply st48_0
    rw [if_neg (by omega)]
    rfl
  | succ k ih =>
    intro i l d hk hll hI hd
    have hw : IntKind.i64.wrap (d + 1) = d + 1 := by rw [IntKind.wrap_i64]; omega
    apply st48_0
    rw [if_pos (by omega), wsucc (by omega), Int.toNat_natCast, pushLp, hw]
    refine ⟨by omega, if_go (fun h1 => ?_) (fun h1 => ?_)⟩
    · have ha := hI.a i (by omega) (by omega)
      refine ⟨by omega, if_go (fun h2 => ⟨by omega, if_go (fun h3 => ?_) (fun h3 => ?_)⟩) (fun h2 => ?_)⟩
      · rw [if_neg (fun h => by have := h.2.2; omega)]
        exact ih (i + 1) _ _ (by omega) hll hI (by omega)
      · have hc : pushC l i := ⟨h1, h2, by omega⟩
        rw [if_pos hc]
        exact ih (i + 1) _ _ (by omega) (by simpa [pushL] using hll) (hI.push (by omega) hc) (by omega)
      · rw [if_neg (fun h => h2 h.2.1)]
        exact ih (i + 1) _ _ (by omega) hll hI (by omega)
    · rw [if_neg (fun h => h1 h.1)]
      exact ih (i + 1) _ _ (by omega) hll hI (by omega)

def sh48 : Shp := fun I i b l s => .ok (.tp [(false, [.arr 0 0 (I.len (l 0))]), (false, [.pv (.sc (.int .i64 (i 0)))])], [(0, .row 7 (l 0))], 1)
noncomputable def an48 : An (List NodeV × Unit) where
  pre t := (rwI t.1) && decide (0 < t.1.length ∧ t.1.length ≤ 8) && (cellsOk t.1)
  i _ t := (pushF t.1).2
  l _ t := (tNode.encs ((pushF t.1).1))
noncomputable def en48 : En := mkE (parsC (pL tNode) pars0) an48
theorem ok48 (plan : List NodeV) (p0 : rwI plan = true) (p1 : 0 < plan.length ∧ plan.length ≤ 8) (p2 : cellsOk plan = true) : Ok0 Try.prog 48 [(pL tNode).enc plan] ((.tp [(false, [.arr 0 0 ((pushF plan).1).length]), (false, [.pv (.sc (.int .i64 ((pushF plan).2)))])], [(0, .row 7 (tNode.encs ((pushF plan).1)))], 1) : RES).1 ((.tp [(false, [.arr 0 0 ((pushF plan).1).length]), (false, [.pv (.sc (.int .i64 ((pushF plan).2)))])], [(0, .row 7 (tNode.encs ((pushF plan).1)))], 1) : RES).2.1 ((.tp [(false, [.arr 0 0 ((pushF plan).1).length]), (false, [.pv (.sc (.int .i64 ((pushF plan).2)))])], [(0, .row 7 (tNode.encs ((pushF plan).1)))], 1) : RES).2.2 := by
  have hI := rwI_iff.1 p0
  exact go48 plan fun w Xs => ⟨by omega, lm_push plan p1.2 plan.length 0 plan 0 rfl rfl hI.1 (by omega)⟩
theorem s48 {I : Ops} (hI : I = real) {e : En} (he : e = en48) : Sound Try.prog 48 (callE I e sh48) := by
  refine Sound.mkR ent48 hI ?_ he
  rintro ⟨plan, ⟨⟩⟩ hp r σ n e
  have hp : ((rwI plan) && decide (0 < plan.length ∧ plan.length ≤ 8) && (cellsOk plan)) = true := hp
  try simp only [Bool.and_eq_true, decide_eq_true_eq] at hp
  obtain ⟨⟨p0, p1⟩, p2⟩ := hp
  have e : (R.ok ((.tp [(false, [.arr 0 0 ((pushF plan).1).length]), (false, [.pv (.sc (.int .i64 ((pushF plan).2)))])], [(0, .row 7 (tNode.encs ((pushF plan).1)))], 1) : RES) : R RES).val = some (r, σ, n) := by
    rw [← e]
    simp [sh48, an48]
  cases e
  exact ok48 plan p0 p1 p2
theorem ent47 : Enters Try.prog 47 := ⟨Try.f47, Try.func47, by kernel_rfl, by kernel_rfl⟩
def G47_0 (w : World) (Xs : Nat → Prop) (r0 : List NodeV) (did : Int) (i : Int) (r : RES) : Prop := W Try.prog 47 Try.f47 (Ent0 w Xs) (Back (Ent0 w Xs) r.1 r.2.1 r.2.2) (place (bodyOf Try.f47) [1,1,1,0,1,0,0] [])
  ⟨[(4, .one (.arr 0 0 r0.length)), (5, .one (.pv (.sc (.int .i64 did)))), (6, .one (.pv (.sc (.int .i64 i))))], [(0, .row 7 (tNode.encs r0))], 1⟩
noncomputable def Y47 (I : Ops) (K : FuncId → En) : CallsA := (Tab.calls [(51, false, callIce I (callE I (K 51) sh51)), (70, false, callVw I (callE I (K 70) sh70))])
theorem tY47 {I : Ops} (hI : I = real) {K : FuncId → En} (k51 : K 51 = en51) (k70 : K 70 = en70) : CallsOk Try.prog (Y47 I K) := (TabOk.calls mixed ⟨EntryOk.own (s51 hI k51) hI, notQuiet, ⟨EntryOk.vw (s70 hI k70) hI, notQuiet, trivial⟩⟩)
theorem st47_0 {w : World} {Xs : Nat → Prop} (r0 : List NodeV) (did : Int) (i : Int) {r : RES} (h : (if i < (r0.length : Int) then ((0 ≤ i ∧ i < (r0.length : Int)) ∧ (if (nth r0 i.toNat).op = 2 then ((0 ≤ (nth r0 i.toNat).a ∧ (nth r0 i.toNat).a < (r0.length : Int)) ∧ (if (nth r0 (((nth r0 i.toNat).a).toNat)).op = 5 then ((r0.length ≤ 1048576) ∧ (if ((readersL r0 ((nth r0 i.toNat).a) 0).length : Int) = 1 then G47_0 w Xs ((r0.set (((nth r0 i.toNat).a).toNat) (NodeV.mk ((nth r0 i.toNat).op) ((nth r0 (((nth r0 i.toNat).a).toNat)).a) ((nth r0 i.toNat).b) ((nth r0 i.toNat).col) ((nth r0 i.toNat).test) ((nth r0 i.toNat).value) ((nth r0 i.toNat).cells))).set i.toNat (NodeV.mk 5 ((nth r0 i.toNat).a) 0 0 0 0 ([]))) (IntKind.i64.wrap (did + 1)) (IntKind.i64.wrap (i + 1)) r else G47_0 w Xs r0 did (IntKind.i64.wrap (i + 1)) r)) else G47_0 w Xs r0 did (IntKind.i64.wrap (i + 1)) r)) else G47_0 w Xs r0 did (IntKind.i64.wrap (i + 1)) r)) else r = (.tp [(false, [.arr 0 0 r0.length]), (false, [.pv (.sc (.int .i64 did))])], [(0, .row 7 (tNode.encs r0))], 1))) : G47_0 w Xs r0 did i r := by
  obtain ⟨I, hI⟩ : ∃ I, I = real := ⟨_, rfl⟩; obtain ⟨K, hK⟩ : ∃ K : FuncId → En, K = fun g => (lk g [(51, en51), (70, en70)]).getD default := ⟨_, rfl⟩; have k51 : K 51 = en51 := (by subst hK; rfl); have k70 : K 70 = en70 := (by subst hK; rfl); clear hK
  unfold G47_0
  obtain ⟨q0, hq0⟩ : ∃ q, q = (tNode.encs r0) := ⟨_, rfl⟩
  try rw [← hq0]
  obtain ⟨q1, hq1⟩ : ∃ q, q = r0.length := ⟨_, rfl⟩
  try rw [← hq1]
  refine W_go (Y := (Y47 I K)) xok (tY47 hI k51 k70) Try.func47 rfl 2000 _ hI ?_; (conv => arg 4; cbv)
  repeat' (first | (have hd := And.left h; replace h := And.right h) | ((with_reducible refine on_eqs ?_ ?_); (focus (with_reducible rfl)); conv => arg 4; cbv) | (with_reducible refine on_both ?_ ?_ <;> (conv => arg 4; cbv)) | (with_reducible refine on_true (by assumption) ?_; conv => arg 4; cbv) | (with_reducible refine on_false (by assumption) ?_; conv => arg 4; cbv) | (with_reducible refine on_ask (fun g => ?_) (fun g => ?_) <;> (have hc := g) <;> (try simp (disch := omega) [hI, k51, en51, an51, k70, en70, an70, hq0, hq1, -List.length_eq_zero_iff] at hc) <;> (try (exfalso; omega)) <;> (try (first | (revert h; (refine imp_l ?_ (fun h => ?_)); focus (first | exact hc | assumption | omega | (simpa using hc; done))) | (revert h; (refine imp_r ?_ (fun h => ?_)); focus (first | exact hc | assumption | omega | (simpa using hc; done))))) <;> (conv => arg 4; cbv)) | ((with_reducible refine on_must ?_ ?_); (focus ((simp (disch := omega) [hI, k51, en51, an51, k70, en70, an70, hq0, hq1]) <;> (first | omega | assumption | ((repeat' (refine And.intro ?_ ?_)) <;> (first | omega | assumption))))); conv => arg 4; cbv))
  all_goals (first | ((with_reducible have hG : G47_0 _ _ _ _ _ _ := h); unfold G47_0 at hG; (with_reducible refine on_loop ?_); simp only [List.cons_append, List.nil_append]; refine W_norm [4, 5, 6] ?_ hG; (conv => lhs; cbv); (first | rfl | ((try simp (disch := omega) [hI, k51, en51, an51, k70, en70, an70, hq0, hq1, mapE_append, Ty.encs_append, encs1_I64, encs1_U8, encs1, mapE1, encs_setR, mapE_setR, Ty.nth_encs, tNode_enc, tNode_own]) <;> (first | rfl | omega | (simp; done))))) | ((with_reducible have hG : G47_0 _ _ _ _ _ _ := h); unfold G47_0 at hG; (with_reducible refine on_loop ?_); simp only [List.cons_append, List.nil_append]; refine W_normW [4, 5, 6] (by (conv => lhs; cbv) <;> rfl) ?_ ?_ ?_ hG <;> dsimp only <;> (first | rfl | (simp (disch := omega) [hI, k51, en51, an51, k70, en70, an70, hq0, hq1, mapE_append, Ty.encs_append, encs1_I64, encs1_U8, encs1, mapE1, encs_setR, mapE_setR, Ty.nth_encs, tNode_enc, tNode_own]; done) | exact SWk.refl | (refine SWk.row2 ?_ SWk.refl rfl; (try simp (disch := omega) [hI, k51, en51, an51, k70, en70, an70, hq0, hq1, mapE_append, Ty.encs_append, encs1_I64, encs1_U8, encs1, mapE1, encs_setR, mapE_setR, Ty.nth_encs, tNode_enc, tNode_own, encs_setR, mapE_setR, Ty.nth_encs, tNode_enc, tNode_own]); (first | exact Wk.refl | (refine Wk.set ?_; (repeat (first | exact NlP.nil | refine NlP.same ?_ | refine NlP.nl ?_)); done))))) | ((subst h); (with_reducible refine on_ret ?_); refine Ended_of rfl ?_; (conv => lhs; cbv); (try (first | rfl | ((try simp (disch := omega) [hI, k51, en51, an51, k70, en70, an70, hq0, hq1, mapE_append, Ty.encs_append, encs1_I64, encs1_U8, encs1, mapE1, encs_setR, mapE_setR, Ty.nth_encs, tNode_enc, tNode_own]) <;> (first | rfl | omega | (simp; done)))))))
theorem go47 (plan : List NodeV) {r : RES} (h : ∀ (w : World) (Xs : Nat → Prop), ((plan.length ≤ 1048576) ∧ (((cellsOk plan) = true) ∧ G47_0 w Xs plan 0 0 r))) : Ok0 Try.prog 47 [(pL tNode).enc plan] r.1 r.2.1 r.2.2 := by
  obtain ⟨I, hI⟩ : ∃ I, I = real := ⟨_, rfl⟩; obtain ⟨K, hK⟩ : ∃ K : FuncId → En, K = fun g => (lk g [(51, en51), (70, en70)]).getD default := ⟨_, rfl⟩; have k51 : K 51 = en51 := (by subst hK; rfl); have k70 : K 70 = en70 := (by subst hK; rfl); clear hK
  show Ok0 Try.prog 47 [.one (.pv (.sl false 7 (tNode.encs plan)))] _ _ _
  obtain ⟨q0, hq0⟩ : ∃ q, q = (tNode.encs plan) := ⟨_, rfl⟩
  try rw [← hq0]
  refine Ok0_run (Y := (Y47 I K)) xok (tY47 hI k51 k70) Try.func47 rfl rfl rfl 2000 hI fun w Xs => ?_; (conv => arg 4; cbv)
  replace h := h w Xs
  repeat' (first | (have hd := And.left h; replace h := And.right h) | ((with_reducible refine on_eqs ?_ ?_); (focus (with_reducible rfl)); conv => arg 4; cbv) | (with_reducible refine on_both ?_ ?_ <;> (conv => arg 4; cbv)) | (with_reducible refine on_true (by assumption) ?_; conv => arg 4; cbv) | (with_reducible refine on_false (by assumption) ?_; conv => arg 4; cbv) | (with_reducible refine on_ask (fun g => ?_) (fun g => ?_) <;> (have hc := g) <;> (try simp (disch := omega) [hI, k51, en51, an51, k70, en70, an70, hq0, -List.length_eq_zero_iff] at hc) <;> (try (exfalso; omega)) <;> (try (first | (revert h; (refine imp_l ?_ (fun h => ?_)); focus (first | exact hc | assumption | omega | (simpa using hc; done))) | (revert h; (refine imp_r ?_ (fun h => ?_)); focus (first | exact hc | assumption | omega | (simpa using hc; done))))) <;> (conv => arg 4; cbv)) | ((with_reducible refine on_must ?_ ?_); (focus ((simp (disch := omega) [hI, k51, en51, an51, k70, en70, an70, hq0]) <;> (first | omega | assumption | ((repeat' (refine And.intro ?_ ?_)) <;> (first | omega | assumption))))); conv => arg 4; cbv))
  all_goals (first | ((with_reducible have hG : G47_0 _ _ _ _ _ _ := h); unfold G47_0 at hG; (with_reducible refine on_loop ?_); simp only [List.cons_append, List.nil_append]; refine W_norm [4, 5, 6] ?_ hG; (conv => lhs; cbv); (first | rfl | ((try simp (disch := omega) [hI, k51, en51, an51, k70, en70, an70, hq0, mapE_append, Ty.encs_append, encs1_I64, encs1_U8, encs1, mapE1, encs_setR, mapE_setR, Ty.nth_encs, tNode_enc, tNode_own]) <;> (first | rfl | omega | (simp; done))))) | ((with_reducible have hG : G47_0 _ _ _ _ _ _ := h); unfold G47_0 at hG; (with_reducible refine on_loop ?_); simp only [List.cons_append, List.nil_append]; refine W_normW [4, 5, 6] (by (conv => lhs; cbv) <;> rfl) ?_ ?_ ?_ hG <;> dsimp only <;> (first | rfl | (simp (disch := omega) [hI, k51, en51, an51, k70, en70, an70, hq0, mapE_append, Ty.encs_append, encs1_I64, encs1_U8, encs1, mapE1, encs_setR, mapE_setR, Ty.nth_encs, tNode_enc, tNode_own]; done) | exact SWk.refl | (refine SWk.row2 ?_ SWk.refl rfl; (try simp (disch := omega) [hI, k51, en51, an51, k70, en70, an70, hq0, mapE_append, Ty.encs_append, encs1_I64, encs1_U8, encs1, mapE1, encs_setR, mapE_setR, Ty.nth_encs, tNode_enc, tNode_own, encs_setR, mapE_setR, Ty.nth_encs, tNode_enc, tNode_own]); (first | exact Wk.refl | (refine Wk.set ?_; (repeat (first | exact NlP.nil | refine NlP.same ?_ | refine NlP.nl ?_)); done))))) | ((subst h); (with_reducible refine on_ret ?_); refine Ended_of rfl ?_; (conv => lhs; cbv); (try (first | rfl | ((try simp (disch := omega) [hI, k51, en51, an51, k70, en70, an70, hq0, mapE_append, Ty.encs_append, encs1_I64, encs1_U8, encs1, mapE1, encs_setR, mapE_setR, Ty.nth_encs, tNode_enc, tNode_own]) <;> (first | rfl | omega | (simp; done)))))))
theorem lm_spush {w : World} {Xs : Nat → Prop} (n : Nat) (hl : n ≤ 8) : ∀ (k i : Nat) (l : List NodeV) (d : Int), k + i = n → l.length = n → PlanI l → 0 ≤ d ∧ d ≤ i → G47_0 w Xs l d i (resPD (pushLp k i l d)) := by
  intro k
  induction k with
  | zero =>
    intro i l d hk hll hI hd
    apply st47_0
    rw [if_neg (by omega)]
    rfl
  | succ k ih =>
    intro i l d hk hll hI hd
    have hw : IntKind.i64.wrap (d + 1) = d + 1 := by rw [IntKind.wrap_i64]; omega
    apply st47_0
    rw [if_pos (by omega), wsucc (by omega), Int.toNat_natCast, pushLp, hw]
    refine ⟨by omega, if_go (fun h1 => ?_) (fun h1 => ?_)⟩
    · have ha := hI.a i (by omega) (by omega)
      have hp := readers_pos l (nth l i).a 0 i (by omega) (by unfold readsL; rw [if_neg (by omega), if_neg (by omega)]; simp)
      refine ⟨by omega, if_go (fun h2 => ⟨by omega, if_go (fun h3 => ?_) (fun h3 => ?_)⟩) (fun h2 => ?_)⟩
      · have hc : pushC l i := ⟨h1, h2, by omega⟩
        rw [if_pos hc]
        exact ih (i + 1) _ _ (by omega) (by simpa [pushL] using hll) (hI.push (by omega) hc) (by omega)
      · rw [if_neg (fun h => by have := h.2.2; omega)]
        exact ih (i + 1) _ _ (by omega) hll hI (by omega)
      · rw [if_neg (fun h => h2 h.2.1)]
        exact ih (i + 1) _ _ (by omega) hll hI (by omega)
    · rw [if_neg (fun h => h1 h.1)]
      exact ih (i + 1) _ _ (by omega) hll hI (by omega)

def sh47 : Shp := fun I i b l s => .ok (.tp [(false, [.arr 0 0 (I.len (l 0))]), (false, [.pv (.sc (.int .i64 (i 0)))])], [(0, .row 7 (l 0))], 1)
noncomputable def an47 : An (List NodeV × Unit) where
  pre t := (rwI t.1) && decide (0 < t.1.length ∧ t.1.length ≤ 8) && (cellsOk t.1)
  i _ t := (pushF t.1).2
  l _ t := (tNode.encs ((pushF t.1).1))
noncomputable def en47 : En := mkE (parsC (pL tNode) pars0) an47
theorem ok47 (plan : List NodeV) (p0 : rwI plan = true) (p1 : 0 < plan.length ∧ plan.length ≤ 8) (p2 : cellsOk plan = true) : Ok0 Try.prog 47 [(pL tNode).enc plan] ((.tp [(false, [.arr 0 0 ((pushF plan).1).length]), (false, [.pv (.sc (.int .i64 ((pushF plan).2)))])], [(0, .row 7 (tNode.encs ((pushF plan).1)))], 1) : RES).1 ((.tp [(false, [.arr 0 0 ((pushF plan).1).length]), (false, [.pv (.sc (.int .i64 ((pushF plan).2)))])], [(0, .row 7 (tNode.encs ((pushF plan).1)))], 1) : RES).2.1 ((.tp [(false, [.arr 0 0 ((pushF plan).1).length]), (false, [.pv (.sc (.int .i64 ((pushF plan).2)))])], [(0, .row 7 (tNode.encs ((pushF plan).1)))], 1) : RES).2.2 := by
  have hI := rwI_iff.1 p0
  exact go47 plan fun w Xs => ⟨by omega, p2, lm_spush plan.length p1.2 plan.length 0 plan 0 rfl rfl hI.1 (by omega)⟩
theorem s47 {I : Ops} (hI : I = real) {e : En} (he : e = en47) : Sound Try.prog 47 (callE I e sh47) := by
  refine Sound.mkR ent47 hI ?_ he
  rintro ⟨plan, ⟨⟩⟩ hp r σ n e
  have hp : ((rwI plan) && decide (0 < plan.length ∧ plan.length ≤ 8) && (cellsOk plan)) = true := hp
  try simp only [Bool.and_eq_true, decide_eq_true_eq] at hp
  obtain ⟨⟨p0, p1⟩, p2⟩ := hp
  have e : (R.ok ((.tp [(false, [.arr 0 0 ((pushF plan).1).length]), (false, [.pv (.sc (.int .i64 ((pushF plan).2)))])], [(0, .row 7 (tNode.encs ((pushF plan).1)))], 1) : RES) : R RES).val = some (r, σ, n) := by
    rw [← e]
    simp [sh47, an47]
  cases e
  exact ok47 plan p0 p1 p2
end Go.Proofs.Try
