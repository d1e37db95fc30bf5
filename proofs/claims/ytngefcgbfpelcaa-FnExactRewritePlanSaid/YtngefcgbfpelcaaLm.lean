/- Contracts. -/
import Derived.Test.YtngefcgbfpelcaaLl
set_option linter.unusedSimpArgs false
set_option linter.unusedVariables false
namespace Go.Proofs.Try
open Go Go.Aix
set_option maxRecDepth 100000
set_option maxHeartbeats 4000000
set_option linter.unusedSimpArgs false
set_option linter.unusedVariables false
def idxG : List Int → Int → Nat → Int
  | [], _, _ => -1
  | x :: r, v, i => if v = x then i else idxG r v (i + 1)
theorem idxG_iff : ∀ (l : List Int) (v : Int) (i : Nat), 0 ≤ idxG l v i ↔ v ∈ l
  | [], v, i => by simp [idxG]
  | x :: r, v, i => by
    unfold idxG
    split
    · rename_i h; subst h; simp
    · rename_i h; rw [idxG_iff r v (i + 1)]; simp [h]
def readersL : List NodeV → Int → Nat → List Int
  | [], _, _ => []
  | e :: r, k, i => if k ∈ readsL e then (i : Int) :: readersL r k (i + 1) else readersL r k (i + 1)
theorem readersL_len : ∀ (l : List NodeV) (k : Int) (i : Nat), (readersL l k i).length ≤ l.length
  | [], _, _ => Nat.le_refl _
  | e :: r, k, i => by
    unfold readersL
    have := readersL_len r k (i + 1)
    split <;> simp <;> omega

theorem ent92 : Enters Try.prog 92 := ⟨Try.f92, Try.func92, by kernel_rfl, by kernel_rfl⟩
def G92_0 (w : World) (Xs : Nat → Prop) (s : List Int) (v : Int) (x8 : Int) (r : RES) : Prop := W Try.prog 92 Try.f92 (Ent0 w Xs) (Back (Ent0 w Xs) r.1 r.2.1 r.2.2) (place (bodyOf Try.f92) [1,0,1,0,0] [])
  ⟨[(0, .one (.pv (.sl false 1 (tI64.encs s)))), (1, .one (.pv (.sc (.int .i64 v)))), (7, .one (.pv (.sc (.int .i64 (s.length : Int))))), (8, .one (.pv (.sc (.int .i64 x8))))], [], 0⟩
theorem st92_0 {w : World} {Xs : Nat → Prop} (s : List Int) (v : Int) (x8 : Int) {r : RES} (h : (if x8 < (s.length : Int) then ((0 ≤ x8 ∧ x8 < (s.length : Int)) ∧ (if v = (nth s x8.toNat) then r = (.one (.pv (.sc (.int .i64 x8))), [], 0) else G92_0 w Xs s v (IntKind.i64.wrap (x8 + 1)) r)) else r = (.one (.pv (.sc (.int .i64 (-1)))), [], 0))) : G92_0 w Xs s v x8 r := by
  obtain ⟨I, hI⟩ : ∃ I, I = real := ⟨_, rfl⟩
  unfold G92_0
  obtain ⟨q0, hq0⟩ : ∃ q, q = (s.length : Int) := ⟨_, rfl⟩
  try rw [← hq0]
  obtain ⟨q1, hq1⟩ : ∃ q, q = (tI64.encs s) := ⟨_, rfl⟩
  try rw [← hq1]
  refine W_go (Y := (Tab.calls [])) xok (TabOk.calls mixed trivial) Try.func92 rfl 2000 _ hI ?_; (conv => arg 4; cbv)
  repeat' (first | (have hd := And.left h; replace h := And.right h) | ((with_reducible refine on_eqs ?_ ?_); (focus (with_reducible rfl)); conv => arg 4; cbv) | (with_reducible refine on_both ?_ ?_ <;> (conv => arg 4; cbv)) | (with_reducible refine on_true (by assumption) ?_; conv => arg 4; cbv) | (with_reducible refine on_false (by assumption) ?_; conv => arg 4; cbv) | (with_reducible refine on_ask (fun g => ?_) (fun g => ?_) <;> (have hc := g) <;> (try simp (disch := omega) [hI, hq0, hq1, -List.length_eq_zero_iff] at hc) <;> (try (exfalso; omega)) <;> (try (first | (revert h; (refine imp_l ?_ (fun h => ?_)); focus (first | exact hc | assumption | omega | (simpa using hc; done))) | (revert h; (refine imp_r ?_ (fun h => ?_)); focus (first | exact hc | assumption | omega | (simpa using hc; done))))) <;> (conv => arg 4; cbv)) | ((with_reducible refine on_must ?_ ?_); (focus ((simp (disch := omega) [hI, hq0, hq1]) <;> (first | omega | assumption | ((repeat' (refine And.intro ?_ ?_)) <;> (first | omega | assumption))))); conv => arg 4; cbv))
  all_goals (first | ((with_reducible have hG : G92_0 _ _ _ _ _ _ := h); unfold G92_0 at hG; (with_reducible refine on_loop ?_); simp only [List.cons_append, List.nil_append]; refine W_norm [0, 1, 7, 8] ?_ hG) | ((subst h); (with_reducible refine on_ret ?_); refine Ended_of rfl ?_))
  all_goals ((conv => lhs; cbv); (try (first | rfl | ((try simp (disch := omega) [hI, hq0, hq1, mapE_append, Ty.encs_append, encs1_I64, encs1_U8, encs1, mapE1]) <;> (first | rfl | omega | (simp; done))))))
theorem go92 (s : List Int) (v : Int) {r : RES} (h : ∀ (w : World) (Xs : Nat → Prop), G92_0 w Xs s v 0 r) : Ok0 Try.prog 92 [(pL tI64).enc s, pI.enc v] r.1 r.2.1 r.2.2 := by
  obtain ⟨I, hI⟩ : ∃ I, I = real := ⟨_, rfl⟩
  show Ok0 Try.prog 92 [.one (.pv (.sl false 1 (tI64.encs s))), .one (.pv (.sc (.int .i64 v)))] _ _ _
  obtain ⟨q0, hq0⟩ : ∃ q, q = (tI64.encs s) := ⟨_, rfl⟩
  try rw [← hq0]
  refine Ok0_run (Y := (Tab.calls [])) xok (TabOk.calls mixed trivial) Try.func92 rfl rfl rfl 2000 hI fun w Xs => ?_; (conv => arg 4; cbv)
  replace h := h w Xs
  repeat' (first | (have hd := And.left h; replace h := And.right h) | ((with_reducible refine on_eqs ?_ ?_); (focus (with_reducible rfl)); conv => arg 4; cbv) | (with_reducible refine on_both ?_ ?_ <;> (conv => arg 4; cbv)) | (with_reducible refine on_true (by assumption) ?_; conv => arg 4; cbv) | (with_reducible refine on_false (by assumption) ?_; conv => arg 4; cbv) | (with_reducible refine on_ask (fun g => ?_) (fun g => ?_) <;> (have hc := g) <;> (try simp (disch := omega) [hI, hq0, -List.length_eq_zero_iff] at hc) <;> (try (exfalso; omega)) <;> (try (first | (revert h; (refine imp_l ?_ (fun h => ?_)); focus (first | exact hc | assumption | omega | (simpa using hc; done))) | (revert h; (refine imp_r ?_ (fun h => ?_)); focus (first | exact hc | assumption | omega | (simpa using hc; done))))) <;> (conv => arg 4; cbv)) | ((with_reducible refine on_must ?_ ?_); (focus ((simp (disch := omega) [hI, hq0]) <;> (first | omega | assumption | ((repeat' (refine And.intro ?_ ?_)) <;> (first | omega | assumption))))); conv => arg 4; cbv))
  all_goals (first | ((with_reducible have hG : G92_0 _ _ _ _ _ _ := h); unfold G92_0 at hG; (with_reducible refine on_loop ?_); simp only [List.cons_append, List.nil_append]; refine W_norm [0, 1, 7, 8] ?_ hG) | ((subst h); (with_reducible refine on_ret ?_); refine Ended_of rfl ?_))
  all_goals ((conv => lhs; cbv); (try (first | rfl | ((try simp (disch := omega) [hI, hq0, mapE_append, Ty.encs_append, encs1_I64, encs1_U8, encs1, mapE1]) <;> (first | rfl | omega | (simp; done))))))
theorem lm_index {w : World} {Xs : Nat → Prop} (s : List Int) (v : Int) (hl : s.length ≤ 1048576) : ∀ k i : Nat, k + i = s.length → G92_0 w Xs s v i (rI (idxG (s.drop i) v i)) := by
  intro k
  induction k with
  | zero =>
    intro i hk
    apply st92_0
    rw [if_neg (by omega), drop_nil (l := s) (by omega)]
    rfl
  | succ k ih =>
    intro i hk
    apply st92_0
    rw [if_pos (by omega), nth_drop (l := s) (i := i) (by omega), wsucc (by omega), Int.toNat_natCast, idxG]
    refine ⟨by omega, if_go (fun h => by rw [if_pos h]) (fun h => ?_)⟩
    rw [if_neg h]
    exact ih (i + 1) (by omega)

def sh92 : Shp := fun I i b l s => .ok (.one (.pv (.sc (.int .i64 (i 0)))), [], 0)
def an92 : An (List Int × Int × Unit) where
  pre t := decide (t.1.length ≤ 1048576)
  i _ t := idxG t.1 t.2.1 0
noncomputable def en92 : En := mkE (parsC (pL tI64) (parsC pI pars0)) an92
theorem ok92 (s : List Int) (v : Int) (p0 : s.length ≤ 1048576) : Ok0 Try.prog 92 [(pL tI64).enc s, pI.enc v] ((.one (.pv (.sc (.int .i64 (idxG s v 0)))), [], 0) : RES).1 ((.one (.pv (.sc (.int .i64 (idxG s v 0)))), [], 0) : RES).2.1 ((.one (.pv (.sc (.int .i64 (idxG s v 0)))), [], 0) : RES).2.2 := by
  exact go92 s v fun w Xs => lm_index s v p0 s.length 0 rfl
theorem s92 {I : Ops} (hI : I = real) {e : En} (he : e = en92) : Sound Try.prog 92 (callE I e sh92) := by
  refine Sound.mkE ent92 hI (fun _ => rfl) ?_ he
  rintro ⟨s, v, ⟨⟩⟩ hp
  have hp : (decide (s.length ≤ 1048576)) = true := hp
  try simp only [Bool.and_eq_true, decide_eq_true_eq] at hp
  have p0 := hp
  exact ok92 s v p0
theorem ent73 : Enters Try.prog 73 := ⟨Try.f73, Try.func73, by kernel_rfl, by kernel_rfl⟩
noncomputable def Y73 (I : Ops) (K : FuncId → En) : CallsA := (Tab.calls [(92, true, callRd I (callE I (K 92) sh92))])
theorem tY73 {I : Ops} (hI : I = real) {K : FuncId → En} (k92 : K 92 = en92) : CallsOk Try.prog (Y73 I K) := (TabOk.calls mixed ⟨EntryOk.rd (s92 hI k92) hI, fun _ => callRd_quiet _ _, trivial⟩)
theorem go73 (s : List Int) (v : Int) {r : RES} (h : ∀ (w : World) (Xs : Nat → Prop), ((s.length ≤ 1048576) ∧ r = (.one (.pv (.sc (.bool (decide (0 ≤ idxG s v 0))))), [], 0))) : Ok0 Try.prog 73 [(pL tI64).enc s, pI.enc v] r.1 r.2.1 r.2.2 := by
  obtain ⟨I, hI⟩ : ∃ I, I = real := ⟨_, rfl⟩; obtain ⟨K, hK⟩ : ∃ K : FuncId → En, K = fun g => (lk g [(92, en92)]).getD default := ⟨_, rfl⟩; have k92 : K 92 = en92 := (by subst hK; rfl); clear hK
  show Ok0 Try.prog 73 [.one (.pv (.sl false 1 (tI64.encs s))), .one (.pv (.sc (.int .i64 v)))] _ _ _
  obtain ⟨q0, hq0⟩ : ∃ q, q = (tI64.encs s) := ⟨_, rfl⟩
  try rw [← hq0]
  refine Ok0_run (Y := (Y73 I K)) xok (tY73 hI k92) Try.func73 rfl rfl rfl 2000 hI fun w Xs => ?_; (conv => arg 4; cbv)
  replace h := h w Xs
  repeat' (first | (have hd := And.left h; replace h := And.right h) | ((with_reducible refine on_eqs ?_ ?_); (focus (with_reducible rfl)); conv => arg 4; cbv) | (with_reducible refine on_both ?_ ?_ <;> (conv => arg 4; cbv)) | (with_reducible refine on_true (by assumption) ?_; conv => arg 4; cbv) | (with_reducible refine on_false (by assumption) ?_; conv => arg 4; cbv) | (with_reducible refine on_ask (fun g => ?_) (fun g => ?_) <;> (have hc := g) <;> (try simp (disch := omega) [hI, k92, en92, an92, hq0, -List.length_eq_zero_iff] at hc) <;> (try (exfalso; omega)) <;> (try (first | (revert h; (refine imp_l ?_ (fun h => ?_)); focus (first | exact hc | assumption | omega | (simpa using hc; done))) | (revert h; (refine imp_r ?_ (fun h => ?_)); focus (first | exact hc | assumption | omega | (simpa using hc; done))))) <;> (conv => arg 4; cbv)) | ((with_reducible refine on_must ?_ ?_); (focus ((simp (disch := omega) [hI, k92, en92, an92, hq0]) <;> (first | omega | assumption | ((repeat' (refine And.intro ?_ ?_)) <;> (first | omega | assumption))))); conv => arg 4; cbv))
  all_goals (first | ((subst h); (with_reducible refine on_ret ?_); refine Ended_of rfl ?_))
  all_goals ((conv => lhs; cbv); (try (first | rfl | ((try simp (disch := omega) [hI, k92, en92, an92, hq0, mapE_append, Ty.encs_append, encs1_I64, encs1_U8, encs1, mapE1]) <;> (first | rfl | omega | (simp; done))))))
def sh73 : Shp := fun I i b l s => .ok (.one (.pv (.sc (.bool (b 0)))), [], 0)
def an73 : An (List Int × Int × Unit) where
  pre t := decide (t.1.length ≤ 1048576)
  b _ t := decide (t.2.1 ∈ t.1)
noncomputable def en73 : En := mkE (parsC (pL tI64) (parsC pI pars0)) an73
theorem ok73 (s : List Int) (v : Int) (p0 : s.length ≤ 1048576) : Ok0 Try.prog 73 [(pL tI64).enc s, pI.enc v] ((.one (.pv (.sc (.bool (decide (v ∈ s))))), [], 0) : RES).1 ((.one (.pv (.sc (.bool (decide (v ∈ s))))), [], 0) : RES).2.1 ((.one (.pv (.sc (.bool (decide (v ∈ s))))), [], 0) : RES).2.2 := by
  have h := idxG_iff s v 0
  have e : decide (v ∈ s) = decide (0 ≤ idxG s v 0) := by rw [decide_eq_decide]; exact h.symm
  rw [e]
  exact go73 s v fun w Xs => ⟨p0, rfl⟩
theorem s73 {I : Ops} (hI : I = real) {e : En} (he : e = en73) : Sound Try.prog 73 (callE I e sh73) := by
  refine Sound.mkE ent73 hI (fun _ => rfl) ?_ he
  rintro ⟨s, v, ⟨⟩⟩ hp
  have hp : (decide (s.length ≤ 1048576)) = true := hp
  try simp only [Bool.and_eq_true, decide_eq_true_eq] at hp
  have p0 := hp
  exact ok73 s v p0
theorem ent71 : Enters Try.prog 71 := ⟨Try.f71, Try.func71, by kernel_rfl, by kernel_rfl⟩
def G71_0 (w : World) (Xs : Nat → Prop) (plan : List NodeV) (node : Int) (r0 : List Int) (x11 : Int) (r : RES) : Prop := W Try.prog 71 Try.f71 (Ent0 w Xs) (Back (Ent0 w Xs) r.1 r.2.1 r.2.2) (place (bodyOf Try.f71) [1,1,0,1,0,0] [])
  ⟨[(1, .one (.pv (.sc (.int .i64 node)))), (5, .one (.arr 0 0 r0.length)), (9, .one (.pv (.sl false 7 (tNode.encs plan)))), (10, .one (.pv (.sc (.int .i64 (plan.length : Int))))), (11, .one (.pv (.sc (.int .i64 x11))))], [(0, .row 1 (tI64.encs r0))], 1⟩
noncomputable def Y71 (I : Ops) (K : FuncId → En) : CallsA := (Tab.calls [(85, true, callPv (callE I (K 85) sh85)), (73, true, callRd I (callE I (K 73) sh73))])
theorem tY71 {I : Ops} (hI : I = real) {K : FuncId → En} (k85 : K 85 = en85) (k73 : K 73 = en73) : CallsOk Try.prog (Y71 I K) := (TabOk.calls mixed ⟨EntryOk.pv (s85 hI k85), fun _ => callPv_quiet _, ⟨EntryOk.rd (s73 hI k73) hI, fun _ => callRd_quiet _ _, trivial⟩⟩)
theorem st71_0 {w : World} {Xs : Nat → Prop} (plan : List NodeV) (node : Int) (r0 : List Int) (x11 : Int) {r : RES} (h : (if x11 < (plan.length : Int) then ((0 ≤ x11 ∧ x11 < (plan.length : Int)) ∧ (((readsL (nth plan x11.toNat)).length ≤ 1048576) ∧ (if (decide (node ∈ (readsL (nth plan x11.toNat)))) = true then (((r0.length + 1) ≤ 17592186044416) ∧ G71_0 w Xs plan node (r0 ++ [x11]) (IntKind.i64.wrap (x11 + 1)) r) else G71_0 w Xs plan node r0 (IntKind.i64.wrap (x11 + 1)) r))) else r = (.one (.arr 0 0 r0.length), [(0, .row 1 (tI64.encs r0))], 1))) : G71_0 w Xs plan node r0 x11 r := by
  obtain ⟨I, hI⟩ : ∃ I, I = real := ⟨_, rfl⟩; obtain ⟨K, hK⟩ : ∃ K : FuncId → En, K = fun g => (lk g [(85, en85), (73, en73)]).getD default := ⟨_, rfl⟩; have k85 : K 85 = en85 := (by subst hK; rfl); have k73 : K 73 = en73 := (by subst hK; rfl); clear hK
  unfold G71_0
  obtain ⟨q0, hq0⟩ : ∃ q, q = (plan.length : Int) := ⟨_, rfl⟩
  try rw [← hq0]
  obtain ⟨q1, hq1⟩ : ∃ q, q = (tNode.encs plan) := ⟨_, rfl⟩
  try rw [← hq1]
  obtain ⟨q2, hq2⟩ : ∃ q, q = (tI64.encs r0) := ⟨_, rfl⟩
  try rw [← hq2]
  obtain ⟨q3, hq3⟩ : ∃ q, q = r0.length := ⟨_, rfl⟩
  try rw [← hq3]
  refine W_go (Y := (Y71 I K)) xok (tY71 hI k85 k73) Try.func71 rfl 2000 _ hI ?_; (conv => arg 4; cbv)
  repeat' (first | (have hd := And.left h; replace h := And.right h) | ((with_reducible refine on_eqs ?_ ?_); (focus (with_reducible rfl)); conv => arg 4; cbv) | (with_reducible refine on_both ?_ ?_ <;> (conv => arg 4; cbv)) | (with_reducible refine on_true (by assumption) ?_; conv => arg 4; cbv) | (with_reducible refine on_false (by assumption) ?_; conv => arg 4; cbv) | (with_reducible refine on_ask (fun g => ?_) (fun g => ?_) <;> (have hc := g) <;> (try simp (disch := omega) [hI, k85, en85, an85, k73, en73, an73, hq0, hq1, hq2, hq3, -List.length_eq_zero_iff] at hc) <;> (try (exfalso; omega)) <;> (try (first | (revert h; (refine imp_l ?_ (fun h => ?_)); focus (first | exact hc | assumption | omega | (simpa using hc; done))) | (revert h; (refine imp_r ?_ (fun h => ?_)); focus (first | exact hc | assumption | omega | (simpa using hc; done))))) <;> (conv => arg 4; cbv)) | ((with_reducible refine on_must ?_ ?_); (focus ((simp (disch := omega) [hI, k85, en85, an85, k73, en73, an73, hq0, hq1, hq2, hq3]) <;> (first | omega | assumption | ((repeat' (refine And.intro ?_ ?_)) <;> (first | omega | assumption))))); conv => arg 4; cbv))
  all_goals (first | ((with_reducible have hG : G71_0 _ _ _ _ _ _ _ := h); unfold G71_0 at hG; (with_reducible refine on_loop ?_); simp only [List.cons_append, List.nil_append]; refine W_norm [1, 5, 9, 10, 11] ?_ hG) | ((subst h); (with_reducible refine on_ret ?_); refine Ended_of rfl ?_))
  all_goals ((conv => lhs; cbv); (try (first | rfl | ((try simp (disch := omega) [hI, k85, en85, an85, k73, en73, an73, hq0, hq1, hq2, hq3, mapE_append, Ty.encs_append, encs1_I64, encs1_U8, encs1, mapE1]) <;> (first | rfl | omega | (simp; done))))))
theorem go71 (plan : List NodeV) (node : Int) {r : RES} (h : ∀ (w : World) (Xs : Nat → Prop), G71_0 w Xs plan node ([]) 0 r) : Ok0 Try.prog 71 [(pL tNode).enc plan, pI.enc node] r.1 r.2.1 r.2.2 := by
  obtain ⟨I, hI⟩ : ∃ I, I = real := ⟨_, rfl⟩; obtain ⟨K, hK⟩ : ∃ K : FuncId → En, K = fun g => (lk g [(85, en85), (73, en73)]).getD default := ⟨_, rfl⟩; have k85 : K 85 = en85 := (by subst hK; rfl); have k73 : K 73 = en73 := (by subst hK; rfl); clear hK
  show Ok0 Try.prog 71 [.one (.pv (.sl false 7 (tNode.encs plan))), .one (.pv (.sc (.int .i64 node)))] _ _ _
  obtain ⟨q0, hq0⟩ : ∃ q, q = (tNode.encs plan) := ⟨_, rfl⟩
  try rw [← hq0]
  refine Ok0_run (Y := (Y71 I K)) xok (tY71 hI k85 k73) Try.func71 rfl rfl rfl 2000 hI fun w Xs => ?_; (conv => arg 4; cbv)
  replace h := h w Xs
  repeat' (first | (have hd := And.left h; replace h := And.right h) | ((with_reducible refine on_eqs ?_ ?_); (focus (with_reducible rfl)); conv => arg 4; cbv) | (with_reducible refine on_both ?_ ?_ <;> (conv => arg 4; cbv)) | (with_reducible refine on_true (by assumption) ?_; conv => arg 4; cbv) | (with_reducible refine on_false (by assumption) ?_; conv => arg 4; cbv) | (with_reducible refine on_ask (fun g => ?_) (fun g => ?_) <;> (have hc := g) <;> (try simp (disch := omega) [hI, k85, en85, an85, k73, en73, an73, hq0, -List.length_eq_zero_iff] at hc) <;> (try (exfalso; omega)) <;> (try (first | (revert h; (refine imp_l ?_ (fun h => ?_)); focus (first | exact hc | assumption | omega | (simpa using hc; done))) | (revert h; (refine imp_r ?_ (fun h => ?_)); focus (first | exact hc | assumption | omega | (simpa using hc; done))))) <;> (conv => arg 4; cbv)) | ((with_reducible refine on_must ?_ ?_); (focus ((simp (disch := omega) [hI, k85, en85, an85, k73, en73, an73, hq0]) <;> (first | omega | assumption | ((repeat' (refine And.intro ?_ ?_)) <;> (first | omega | assumption))))); conv => arg 4; cbv))
  all_goals (first | ((with_reducible have hG : G71_0 _ _ _ _ _ _ _ := h); unfold G71_0 at hG; (with_reducible refine on_loop ?_); simp only [List.cons_append, List.nil_append]; refine W_norm [1, 5, 9, 10, 11] ?_ hG) | ((subst h); (with_reducible refine on_ret ?_); refine Ended_of rfl ?_))
  all_goals ((conv => lhs; cbv); (try (first | rfl | ((try simp (disch := omega) [hI, k85, en85, an85, k73, en73, an73, hq0, mapE_append, Ty.encs_append, encs1_I64, encs1_U8, encs1, mapE1]) <;> (first | rfl | omega | (simp; done))))))
theorem lm_readers {w : World} {Xs : Nat → Prop} (plan : List NodeV) (node : Int) (hl : plan.length ≤ 1048576) : ∀ (k i : Nat) (acc : List Int), k + i = plan.length → acc.length ≤ i → G71_0 w Xs plan node acc i (.one (.arr 0 0 (acc ++ readersL (plan.drop i) node i).length), [(0, .row 1 (tI64.encs (acc ++ readersL (plan.drop i) node i)))], 1) := by
  intro k
  induction k with
  | zero =>
    intro i acc hk ha
    apply st71_0
    rw [if_neg (by omega), drop_nil (l := plan) (by omega)]
    simp [readersL]
  | succ k ih =>
    intro i acc hk ha
    have hr := readsL_len (nth plan i)
    apply st71_0
    rw [if_pos (by omega), wsucc (by omega), Int.toNat_natCast, nth_drop (l := plan) (i := i) (by omega), readersL]
    refine ⟨by omega, by omega, if_go (fun h => ?_) (fun h => ?_)⟩
    · have h : node ∈ readsL (nth plan i) := by simpa using h
      have := ih (i + 1) (acc ++ [(i : Int)]) (by omega) (by simp; omega)
      rw [if_pos h]
      refine ⟨by omega, ?_⟩
      simpa using this
    · have h : ¬ node ∈ readsL (nth plan i) := by simpa using h
      rw [if_neg h]
      exact ih (i + 1) acc (by omega) (by omega)

def sh71 : Shp := fun I i b l s => .ok (.one (.arr 0 0 (I.len (l 0))), [(0, .row 1 (l 0))], 1)
def an71 : An (List NodeV × Int × Unit) where
  pre t := decide (t.1.length ≤ 1048576)
  l _ t := (tI64.encs (readersL t.1 t.2.1 0))
noncomputable def en71 : En := mkE (parsC (pL tNode) (parsC pI pars0)) an71
theorem ok71 (plan : List NodeV) (node : Int) (p0 : plan.length ≤ 1048576) : Ok0 Try.prog 71 [(pL tNode).enc plan, pI.enc node] ((.one (.arr 0 0 (readersL plan node 0).length), [(0, .row 1 (tI64.encs (readersL plan node 0)))], 1) : RES).1 ((.one (.arr 0 0 (readersL plan node 0).length), [(0, .row 1 (tI64.encs (readersL plan node 0)))], 1) : RES).2.1 ((.one (.arr 0 0 (readersL plan node 0).length), [(0, .row 1 (tI64.encs (readersL plan node 0)))], 1) : RES).2.2 := by
  exact go71 plan node fun w Xs => by simpa using lm_readers (w := w) (Xs := Xs) plan node p0 plan.length 0 [] rfl (Nat.le_refl _)
theorem s71 {I : Ops} (hI : I = real) {e : En} (he : e = en71) : Sound Try.prog 71 (callE I e sh71) := by
  refine Sound.mkR ent71 hI ?_ he
  rintro ⟨plan, node, ⟨⟩⟩ hp r σ n e
  have hp : (decide (plan.length ≤ 1048576)) = true := hp
  try simp only [Bool.and_eq_true, decide_eq_true_eq] at hp
  have p0 := hp
  have e : (R.ok ((.one (.arr 0 0 (readersL plan node 0).length), [(0, .row 1 (tI64.encs (readersL plan node 0)))], 1) : RES) : R RES).val = some (r, σ, n) := by
    rw [← e]
    simp [sh71, an71]
  cases e
  exact ok71 plan node p0
theorem ent91 : Enters Try.prog 91 := ⟨Try.f91, Try.func91, by kernel_rfl, by kernel_rfl⟩
noncomputable def Y91 (I : Ops) (K : FuncId → En) : CallsA := (Tab.calls [(66, true, callRd I (callE I (K 66) sh66))])
theorem tY91 {I : Ops} (hI : I = real) {K : FuncId → En} (k66 : K 66 = en66) : CallsOk Try.prog (Y91 I K) := (TabOk.calls mixed ⟨EntryOk.rd (s66 hI k66) hI, fun _ => callRd_quiet _ _, trivial⟩)
theorem go91 (n : NodeV) (k : Int) {r : RES} (h : ∀ (w : World) (Xs : Nat → Prop), (if 0 < readsOf n.op then (if n.a = k then r = (.one (.pv (.sc (.bool true))), [], 0) else (if 1 < readsOf n.op then r = (.one (.pv (.sc (.bool (decide (n.b = k))))), [], 0) else r = (.one (.pv (.sc (.bool false))), [], 0))) else (if 1 < readsOf n.op then r = (.one (.pv (.sc (.bool (decide (n.b = k))))), [], 0) else r = (.one (.pv (.sc (.bool false))), [], 0)))) : Ok0 Try.prog 91 [(pS tNode).enc n, pI.enc k] r.1 r.2.1 r.2.2 := by
  obtain ⟨I, hI⟩ : ∃ I, I = real := ⟨_, rfl⟩; obtain ⟨K, hK⟩ : ∃ K : FuncId → En, K = fun g => (lk g [(66, en66)]).getD default := ⟨_, rfl⟩; have k66 : K 66 = en66 := (by subst hK; rfl); clear hK
  show Ok0 Try.prog 91 [.ag [.pv (.sc (.int .i64 n.op)), .pv (.sc (.int .i64 n.a)), .pv (.sc (.int .i64 n.b)), .pv (.sc (.int .i64 n.col)), .pv (.sc (.int .i64 n.test)), .pv (.sc (.int .i64 n.value)), .pv (.sl false 1 (tI64.encs n.cells))], .one (.pv (.sc (.int .i64 k)))] _ _ _
  obtain ⟨q0, hq0⟩ : ∃ q, q = (tI64.encs n.cells) := ⟨_, rfl⟩
  try rw [← hq0]
  obtain ⟨q1, hq1⟩ : ∃ q, q = n.value := ⟨_, rfl⟩
  try rw [← hq1]
  obtain ⟨q2, hq2⟩ : ∃ q, q = n.test := ⟨_, rfl⟩
  try rw [← hq2]
  obtain ⟨q3, hq3⟩ : ∃ q, q = n.col := ⟨_, rfl⟩
  try rw [← hq3]
  obtain ⟨q4, hq4⟩ : ∃ q, q = n.op := ⟨_, rfl⟩
  try rw [← hq4]
  obtain ⟨q5, hq5⟩ : ∃ q, q = n.a := ⟨_, rfl⟩
  try rw [← hq5]
  obtain ⟨q6, hq6⟩ : ∃ q, q = n.b := ⟨_, rfl⟩
  try rw [← hq6]
  refine Ok0_run (Y := (Y91 I K)) xok (tY91 hI k66) Try.func91 rfl rfl rfl 2000 hI fun w Xs => ?_; (conv => arg 4; cbv)
  replace h := h w Xs
  repeat' (first | (have hd := And.left h; replace h := And.right h) | ((with_reducible refine on_eqs ?_ ?_); (focus (with_reducible rfl)); conv => arg 4; cbv) | (with_reducible refine on_both ?_ ?_ <;> (conv => arg 4; cbv)) | (with_reducible refine on_true (by assumption) ?_; conv => arg 4; cbv) | (with_reducible refine on_false (by assumption) ?_; conv => arg 4; cbv) | (with_reducible refine on_ask (fun g => ?_) (fun g => ?_) <;> (have hc := g) <;> (try simp (disch := omega) [hI, k66, en66, an66, hq0, hq1, hq2, hq3, hq4, hq5, hq6, -List.length_eq_zero_iff] at hc) <;> (try (exfalso; omega)) <;> (try (first | (revert h; (refine imp_l ?_ (fun h => ?_)); focus (first | exact hc | assumption | omega | (simpa using hc; done))) | (revert h; (refine imp_r ?_ (fun h => ?_)); focus (first | exact hc | assumption | omega | (simpa using hc; done))))) <;> (conv => arg 4; cbv)) | ((with_reducible refine on_must ?_ ?_); (focus ((simp (disch := omega) [hI, k66, en66, an66, hq0, hq1, hq2, hq3, hq4, hq5, hq6]) <;> (first | omega | assumption | ((repeat' (refine And.intro ?_ ?_)) <;> (first | omega | assumption))))); conv => arg 4; cbv))
  all_goals (first | ((subst h); (with_reducible refine on_ret ?_); refine Ended_of rfl ?_))
  all_goals ((conv => lhs; cbv); (try (first | rfl | ((try simp (disch := omega) [hI, k66, en66, an66, hq0, hq1, hq2, hq3, hq4, hq5, hq6, mapE_append, Ty.encs_append, encs1_I64, encs1_U8, encs1, mapE1]) <;> (first | rfl | omega | (simp; done))))))
def sh91 : Shp := fun I i b l s => .ok (.one (.pv (.sc (.bool (b 0)))), [], 0)
def an91 : An (NodeV × Int × Unit) where
  b _ t := decide (t.2.1 ∈ readsL t.1)
noncomputable def en91 : En := mkE (parsC (pS tNode) (parsC pI pars0)) an91
theorem ok91 (n : NodeV) (k : Int)  : Ok0 Try.prog 91 [(pS tNode).enc n, pI.enc k] ((.one (.pv (.sc (.bool (decide (k ∈ readsL n))))), [], 0) : RES).1 ((.one (.pv (.sc (.bool (decide (k ∈ readsL n))))), [], 0) : RES).2.1 ((.one (.pv (.sc (.bool (decide (k ∈ readsL n))))), [], 0) : RES).2.2 := by
  refine go91 n k fun w Xs => ?_
  have hr := readsOf_cases n.op
  have e : (decide (k ∈ readsL n)) = decide ((0 < readsOf n.op ∧ n.a = k) ∨ (1 < readsOf n.op ∧ n.b = k)) := by
    rw [decide_eq_decide]
    unfold readsL
    rcases hr with ⟨h, e⟩ | ⟨h, e⟩ | ⟨h, e⟩
    · rw [if_pos h, e]; simp
    · rw [if_neg (by omega), if_pos h, e]; simp; omega
    · rw [if_neg (by omega), if_neg (by omega), e]; simp; omega
  rw [e]
  (repeat' (first | (refine And.intro ?_ ?_) | (refine if_go (fun q => ?_) (fun q => ?_))))
  all_goals (refine congrArg rB ?_; simp [*])
theorem s91 {I : Ops} (hI : I = real) {e : En} (he : e = en91) : Sound Try.prog 91 (callE I e sh91) := by
  refine Sound.mkE ent91 hI (fun _ => rfl) ?_ he
  rintro ⟨n, k, ⟨⟩⟩ hp
  exact ok91 n k 
theorem ent70 : Enters Try.prog 70 := ⟨Try.f70, Try.func70, by kernel_rfl, by kernel_rfl⟩
def G70_0 (w : World) (Xs : Nat → Prop) (plan : List NodeV) (node : Int) (r0 : List Int) (i : Int) (r : RES) : Prop := W Try.prog 70 Try.f70 (Ent0 w Xs) (Back (Ent0 w Xs) r.1 r.2.1 r.2.2) (place (bodyOf Try.f70) [1,1,0,1,0,0] [])
  ⟨[(0, .one (.pv (.sl false 7 (tNode.encs plan)))), (1, .one (.pv (.sc (.int .i64 node)))), (5, .one (.arr 0 0 r0.length)), (6, .one (.pv (.sc (.int .i64 i))))], [(0, .row 1 (tI64.encs r0))], 1⟩
noncomputable def Y70 (I : Ops) (K : FuncId → En) : CallsA := (Tab.calls [(91, true, callRd I (callE I (K 91) sh91))])
theorem tY70 {I : Ops} (hI : I = real) {K : FuncId → En} (k91 : K 91 = en91) : CallsOk Try.prog (Y70 I K) := (TabOk.calls mixed ⟨EntryOk.rd (s91 hI k91) hI, fun _ => callRd_quiet _ _, trivial⟩)
theorem st70_0 {w : World} {Xs : Nat → Prop} (plan : List NodeV) (node : Int) (r0 : List Int) (i : Int) {r : RES} (h : (if i < (plan.length : Int) then ((0 ≤ i ∧ i < (plan.length : Int)) ∧ (if (decide (node ∈ readsL (nth plan i.toNat))) = true then (((r0.length + 1) ≤ 17592186044416) ∧ G70_0 w Xs plan node (r0 ++ [i]) (IntKind.i64.wrap (i + 1)) r) else G70_0 w Xs plan node r0 (IntKind.i64.wrap (i + 1)) r)) else r = (.one (.arr 0 0 r0.length), [(0, .row 1 (tI64.encs r0))], 1))) : G70_0 w Xs plan node r0 i r := by
  obtain ⟨I, hI⟩ : ∃ I, I = real := ⟨_, rfl⟩; obtain ⟨K, hK⟩ : ∃ K : FuncId → En, K = fun g => (lk g [(91, en91)]).getD default := ⟨_, rfl⟩; have k91 : K 91 = en91 := (by subst hK; rfl); clear hK
  unfold G70_0
  obtain ⟨q0, hq0⟩ : ∃ q, q = (tNode.encs plan) := ⟨_, rfl⟩
  try rw [← hq0]
  obtain ⟨q1, hq1⟩ : ∃ q, q = (tI64.encs r0) := ⟨_, rfl⟩
  try rw [← hq1]
  obtain ⟨q2, hq2⟩ : ∃ q, q = r0.length := ⟨_, rfl⟩
  try rw [← hq2]
  refine W_go (Y := (Y70 I K)) xok (tY70 hI k91) Try.func70 rfl 2000 _ hI ?_; (conv => arg 4; cbv)
  repeat' (first | (have hd := And.left h; replace h := And.right h) | ((with_reducible refine on_eqs ?_ ?_); (focus (with_reducible rfl)); conv => arg 4; cbv) | (with_reducible refine on_both ?_ ?_ <;> (conv => arg 4; cbv)) | (with_reducible refine on_true (by assumption) ?_; conv => arg 4; cbv) | (with_reducible refine on_false (by assumption) ?_; conv => arg 4; cbv) | (with_reducible refine on_ask (fun g => ?_) (fun g => ?_) <;> (have hc := g) <;> (try simp (disch := omega) [hI, k91, en91, an91, hq0, hq1, hq2, -List.length_eq_zero_iff] at hc) <;> (try (exfalso; omega)) <;> (try (first | (revert h; (refine imp_l ?_ (fun h => ?_)); focus (first | exact hc | assumption | omega | (simpa using hc; done))) | (revert h; (refine imp_r ?_ (fun h => ?_)); focus (first | exact hc | assumption | omega | (simpa using hc; done))))) <;> (conv => arg 4; cbv)) | ((with_reducible refine on_must ?_ ?_); (focus ((simp (disch := omega) [hI, k91, en91, an91, hq0, hq1, hq2]) <;> (first | omega | assumption | ((repeat' (refine And.intro ?_ ?_)) <;> (first | omega | assumption))))); conv => arg 4; cbv))
  all_goals (first | ((with_reducible have hG : G70_0 _ _ _ _ _ _ _ := h); unfold G70_0 at hG; (with_reducible refine on_loop ?_); simp only [List.cons_append, List.nil_append]; refine W_norm [0, 1, 5, 6] ?_ hG) | ((subst h); (with_reducible refine on_ret ?_); refine Ended_of rfl ?_))
  all_goals ((conv => lhs; cbv); (try (first | rfl | ((try simp (disch := omega) [hI, k91, en91, an91, hq0, hq1, hq2, mapE_append, Ty.encs_append, encs1_I64, encs1_U8, encs1, mapE1]) <;> (first | rfl | omega | (simp; done))))))
theorem go70 (plan : List NodeV) (node : Int) {r : RES} (h : ∀ (w : World) (Xs : Nat → Prop), G70_0 w Xs plan node ([]) 0 r) : Ok0 Try.prog 70 [(pL tNode).enc plan, pI.enc node] r.1 r.2.1 r.2.2 := by
  obtain ⟨I, hI⟩ : ∃ I, I = real := ⟨_, rfl⟩; obtain ⟨K, hK⟩ : ∃ K : FuncId → En, K = fun g => (lk g [(91, en91)]).getD default := ⟨_, rfl⟩; have k91 : K 91 = en91 := (by subst hK; rfl); clear hK
  show Ok0 Try.prog 70 [.one (.pv (.sl false 7 (tNode.encs plan))), .one (.pv (.sc (.int .i64 node)))] _ _ _
  obtain ⟨q0, hq0⟩ : ∃ q, q = (tNode.encs plan) := ⟨_, rfl⟩
  try rw [← hq0]
  refine Ok0_run (Y := (Y70 I K)) xok (tY70 hI k91) Try.func70 rfl rfl rfl 2000 hI fun w Xs => ?_; (conv => arg 4; cbv)
  replace h := h w Xs
  repeat' (first | (have hd := And.left h; replace h := And.right h) | ((with_reducible refine on_eqs ?_ ?_); (focus (with_reducible rfl)); conv => arg 4; cbv) | (with_reducible refine on_both ?_ ?_ <;> (conv => arg 4; cbv)) | (with_reducible refine on_true (by assumption) ?_; conv => arg 4; cbv) | (with_reducible refine on_false (by assumption) ?_; conv => arg 4; cbv) | (with_reducible refine on_ask (fun g => ?_) (fun g => ?_) <;> (have hc := g) <;> (try simp (disch := omega) [hI, k91, en91, an91, hq0, -List.length_eq_zero_iff] at hc) <;> (try (exfalso; omega)) <;> (try (first | (revert h; (refine imp_l ?_ (fun h => ?_)); focus (first | exact hc | assumption | omega | (simpa using hc; done))) | (revert h; (refine imp_r ?_ (fun h => ?_)); focus (first | exact hc | assumption | omega | (simpa using hc; done))))) <;> (conv => arg 4; cbv)) | ((with_reducible refine on_must ?_ ?_); (focus ((simp (disch := omega) [hI, k91, en91, an91, hq0]) <;> (first | omega | assumption | ((repeat' (refine And.intro ?_ ?_)) <;> (first | omega | assumption))))); conv => arg 4; cbv))
  all_goals (first | ((with_reducible have hG : G70_0 _ _ _ _ _ _ _ := h); unfold G70_0 at hG; (with_reducible refine on_loop ?_); simp only [List.cons_append, List.nil_append]; refine W_norm [0, 1, 5, 6] ?_ hG) | ((subst h); (with_reducible refine on_ret ?_); refine Ended_of rfl ?_))
  all_goals ((conv => lhs; cbv); (try (first | rfl | ((try simp (disch := omega) [hI, k91, en91, an91, hq0, mapE_append, Ty.encs_append, encs1_I64, encs1_U8, encs1, mapE1]) <;> (first | rfl | omega | (simp; done))))))
theorem lm_sreaders {w : World} {Xs : Nat → Prop} (plan : List NodeV) (node : Int) (hl : plan.length ≤ 1048576) : ∀ (k i : Nat) (acc : List Int), k + i = plan.length → acc.length ≤ i → G70_0 w Xs plan node acc i (.one (.arr 0 0 (acc ++ readersL (plan.drop i) node i).length), [(0, .row 1 (tI64.encs (acc ++ readersL (plan.drop i) node i)))], 1) := by
  intro k
  induction k with
  | zero =>
    intro i acc hk ha
    apply st70_0
    rw [if_neg (by omega), drop_nil (l := plan) (by omega)]
    simp [readersL]
  | succ k ih =>
    intro i acc hk ha
    apply st70_0
    rw [if_pos (by omega), wsucc (by omega), Int.toNat_natCast, nth_drop (l := plan) (i := i) (by omega), readersL]
    refine ⟨by omega, if_go (fun h => ?_) (fun h => ?_)⟩
    · have h : node ∈ readsL (nth plan i) := by simpa using h
      have := ih (i + 1) (acc ++ [(i : Int)]) (by omega) (by simp; omega)
      rw [if_pos h]
      refine ⟨by omega, ?_⟩
      simpa using this
    · have h : ¬ node ∈ readsL (nth plan i) := by simpa using h
      rw [if_neg h]
      exact ih (i + 1) acc (by omega) (by omega)

def sh70 : Shp := fun I i b l s => .ok (.one (.arr 0 0 (I.len (l 0))), [(0, .row 1 (l 0))], 1)
def an70 : An (List NodeV × Int × Unit) where
  pre t := decide (t.1.length ≤ 1048576)
  l _ t := (tI64.encs (readersL t.1 t.2.1 0))
noncomputable def en70 : En := mkE (parsC (pL tNode) (parsC pI pars0)) an70
theorem ok70 (plan : List NodeV) (node : Int) (p0 : plan.length ≤ 1048576) : Ok0 Try.prog 70 [(pL tNode).enc plan, pI.enc node] ((.one (.arr 0 0 (readersL plan node 0).length), [(0, .row 1 (tI64.encs (readersL plan node 0)))], 1) : RES).1 ((.one (.arr 0 0 (readersL plan node 0).length), [(0, .row 1 (tI64.encs (readersL plan node 0)))], 1) : RES).2.1 ((.one (.arr 0 0 (readersL plan node 0).length), [(0, .row 1 (tI64.encs (readersL plan node 0)))], 1) : RES).2.2 := by
  exact go70 plan node fun w Xs => by simpa using lm_sreaders (w := w) (Xs := Xs) plan node p0 plan.length 0 [] rfl (Nat.le_refl _)
theorem s70 {I : Ops} (hI : I = real) {e : En} (he : e = en70) : Sound Try.prog 70 (callE I e sh70) := by
  refine Sound.mkR ent70 hI ?_ he
  rintro ⟨plan, node, ⟨⟩⟩ hp r σ n e
  have hp : (decide (plan.length ≤ 1048576)) = true := hp
  try simp only [Bool.and_eq_true, decide_eq_true_eq] at hp
  have p0 := hp
  have e : (R.ok ((.one (.arr 0 0 (readersL plan node 0).length), [(0, .row 1 (tI64.encs (readersL plan node 0)))], 1) : RES) : R RES).val = some (r, σ, n) := by
    rw [← e]
    simp [sh70, an70]
  cases e
  exact ok70 plan node p0
end Go.Proofs.Try
