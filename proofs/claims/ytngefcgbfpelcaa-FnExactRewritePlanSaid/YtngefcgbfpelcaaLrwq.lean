/- Contracts. -/
import Derived.Test.YtngefcgbfpelcaaLrwp
set_option linter.unusedSimpArgs false
set_option linter.unusedVariables false
namespace Go.Proofs.Try
open Go Go.Aix
set_option maxRecDepth 100000
set_option maxHeartbeats 4000000
set_option linter.unusedSimpArgs false
set_option linter.unusedVariables false
theorem ent52 : Enters Try.prog 52 := ⟨Try.f52, Try.func52, by kernel_rfl, by kernel_rfl⟩
def FUNS : List (List PV) := [[.sc (.func (.func 48) #[] #[])], [.sc (.func (.func 46) #[] #[])], [.sc (.func (.func 43) #[] #[])], [.sc (.func (.func 50) #[] #[])]]
def G52_0 (w : World) (Xs : Nat → Prop) (plan : List NodeV) (all k : Int) (r : RES) : Prop := W Try.prog 52 Try.f52 (Ent0 w Xs) (Back (Ent0 w Xs) r.1 r.2.1 r.2.2) (place (bodyOf Try.f52) [1,1,0,1,0,0] [])
  ⟨[(0, .one (.pv (.sl false 7 (tNode.encs plan)))), (4, .one (.pv (.sc (.int .i64 all)))), (10, .one (.pv (.sc (.int .i64 k))))], [], 0⟩
def G52_1 (w : World) (Xs : Nat → Prop) (plan : List NodeV) (all did k i : Int) (r : RES) : Prop := W Try.prog 52 Try.f52 (Ent0 w Xs) (Back (Ent0 w Xs) r.1 r.2.1 r.2.2) (place (bodyOf Try.f52) [1,1,0,1,0,0,1,1,0,0,1,0,1,0,0] [])
  ⟨[(0, .one (.pv (.sl false 7 (tNode.encs plan)))), (4, .one (.pv (.sc (.int .i64 all)))), (5, .one (.pv (.sc (.int .i64 did)))), (10, .one (.pv (.sc (.int .i64 k)))), (12, .one (.arr 0 0 4)), (13, .one (.pv (.sc (.int .i64 4)))), (14, .one (.pv (.sc (.int .i64 i))))], [(0, .row 1 FUNS)], 1⟩
def resSV (x : List NodeV × Int) : RES := (.tp [(false, [.pv (.sl false 7 (tNode.encs x.1))]), (false, [.pv (.sc (.int .i64 x.2))])], [], 0)
noncomputable def Y52 (I : Ops) (K : FuncId → En) : CallsA := (Tab.calls [(48, false, callIce I (callE I (K 48) sh48)), (46, false, callIce I (callE I (K 46) sh46)), (43, false, callIce I (callE I (K 43) sh43)), (50, false, callIce I (callE I (K 50) sh50))])
theorem tY52 {I : Ops} (hI : I = real) {K : FuncId → En} (k48 : K 48 = en48) (k46 : K 46 = en46) (k43 : K 43 = en43) (k50 : K 50 = en50) : CallsOk Try.prog (Y52 I K) := (TabOk.calls mixed ⟨EntryOk.own (s48 hI k48) hI, notQuiet, ⟨EntryOk.own (s46 hI k46) hI, notQuiet, ⟨EntryOk.own (s43 hI k43) hI, notQuiet, ⟨EntryOk.own (s50 hI k50) hI, notQuiet, trivial⟩⟩⟩⟩)
theorem st52_0 {w : World} {Xs : Nat → Prop} (plan : List NodeV) (all k : Int) {r : RES} (h : if k < 20 then G52_1 w Xs plan all 0 k 0 r else r = (.tp [(false, [.pv (.sl false 7 (tNode.encs plan))]), (false, [.pv (.sc (.int .i64 all))])], [], 0)) : G52_0 w Xs plan all k r := by
  obtain ⟨I, hI⟩ : ∃ I, I = real := ⟨_, rfl⟩; obtain ⟨K, hK⟩ : ∃ K : FuncId → En, K = fun g => (lk g [(48, en48), (46, en46), (43, en43), (50, en50)]).getD default := ⟨_, rfl⟩; have k48 : K 48 = en48 := (by subst hK; rfl); have k46 : K 46 = en46 := (by subst hK; rfl); have k43 : K 43 = en43 := (by subst hK; rfl); have k50 : K 50 = en50 := (by subst hK; rfl); clear hK
  unfold G52_0
  obtain ⟨q0, hq0⟩ : ∃ q, q = (tNode.encs plan) := ⟨_, rfl⟩
  try rw [← hq0]
  refine W_go (Y := (Y52 I K)) xok (tY52 hI k48 k46 k43 k50) Try.func52 rfl 2000 _ hI ?_; (conv => arg 4; cbv)
  repeat' (first | (have hd := And.left h; replace h := And.right h) | ((with_reducible refine on_eqs ?_ ?_); (focus (with_reducible rfl)); conv => arg 4; cbv) | (with_reducible refine on_both ?_ ?_ <;> (conv => arg 4; cbv)) | (with_reducible refine on_true (by assumption) ?_; conv => arg 4; cbv) | (with_reducible refine on_false (by assumption) ?_; conv => arg 4; cbv) | (with_reducible refine on_ask (fun g => ?_) (fun g => ?_) <;> (have hc := g) <;> (try simp (disch := omega) [hI, k48, en48, an48, k46, en46, an46, k43, en43, an43, k50, en50, an50, hq0, -List.length_eq_zero_iff] at hc) <;> (try (exfalso; omega)) <;> (try (first | (revert h; (refine imp_l ?_ (fun h => ?_)); focus (first | exact hc | assumption | omega | (simpa using hc; done))) | (revert h; (refine imp_r ?_ (fun h => ?_)); focus (first | exact hc | assumption | omega | (simpa using hc; done))))) <;> (conv => arg 4; cbv)) | ((with_reducible refine on_must ?_ ?_); (focus ((simp (disch := omega) [hI, k48, en48, an48, k46, en46, an46, k43, en43, an43, k50, en50, an50, hq0]) <;> (first | omega | assumption | ((repeat' (refine And.intro ?_ ?_)) <;> (first | omega | assumption))))); conv => arg 4; cbv))
  all_goals (first | ((with_reducible have hG : G52_0 _ _ _ _ _ _ := h); unfold G52_0 at hG; (with_reducible refine on_loop ?_); simp only [List.cons_append, List.nil_append]; refine W_norm [0, 4, 10] ?_ hG) | ((with_reducible have hG : G52_1 _ _ _ _ _ _ _ _ := h); unfold G52_1 at hG; (with_reducible refine on_loop ?_); simp only [List.cons_append, List.nil_append]; refine W_norm [0, 4, 5, 10, 12, 13, 14] ?_ hG) | ((subst h); (with_reducible refine on_ret ?_); refine Ended_of rfl ?_))
  all_goals ((conv => lhs; cbv); (try (first | rfl | ((try simp (disch := omega) [hI, k48, en48, an48, k46, en46, an46, k43, en43, an43, k50, en50, an50, hq0, mapE_append, Ty.encs_append, encs1_I64, encs1_U8, encs1, mapE1]) <;> (first | rfl | omega | (simp; done))))))
theorem sx52 {w : World} {Xs : Nat → Prop} (plan : List NodeV) (all did k : Int) {r : RES} (h : if did = 0 then r = (.tp [(false, [.pv (.sl false 7 (tNode.encs plan))]), (false, [.pv (.sc (.int .i64 (IntKind.i64.wrap (all + did))))])], [], 0) else G52_0 w Xs plan (IntKind.i64.wrap (all + did)) (IntKind.i64.wrap (k + 1)) r) : G52_1 w Xs plan all did k 4 r := by
  obtain ⟨I, hI⟩ : ∃ I, I = real := ⟨_, rfl⟩; obtain ⟨K, hK⟩ : ∃ K : FuncId → En, K = fun g => (lk g [(48, en48), (46, en46), (43, en43), (50, en50)]).getD default := ⟨_, rfl⟩; have k48 : K 48 = en48 := (by subst hK; rfl); have k46 : K 46 = en46 := (by subst hK; rfl); have k43 : K 43 = en43 := (by subst hK; rfl); have k50 : K 50 = en50 := (by subst hK; rfl); clear hK
  unfold G52_1
  obtain ⟨q0, hq0⟩ : ∃ q, q = (tNode.encs plan) := ⟨_, rfl⟩
  try rw [← hq0]
  obtain ⟨fs, hfs⟩ : ∃ q, q = FUNS := ⟨_, rfl⟩
  try rw [← hfs]
  refine W_go (Y := (Y52 I K)) xok (tY52 hI k48 k46 k43 k50) Try.func52 rfl 2000 _ hI ?_; (conv => arg 4; cbv)
  repeat' (first | (have hd := And.left h; replace h := And.right h) | ((with_reducible refine on_eqs ?_ ?_); (focus (with_reducible rfl)); conv => arg 4; cbv) | (with_reducible refine on_both ?_ ?_ <;> (conv => arg 4; cbv)) | (with_reducible refine on_true (by assumption) ?_; conv => arg 4; cbv) | (with_reducible refine on_false (by assumption) ?_; conv => arg 4; cbv) | (with_reducible refine on_ask (fun g => ?_) (fun g => ?_) <;> (have hc := g) <;> (try simp (disch := omega) [hI, k48, en48, an48, k46, en46, an46, k43, en43, an43, k50, en50, an50, hq0, -List.length_eq_zero_iff] at hc) <;> (try (exfalso; omega)) <;> (try (first | (revert h; (refine imp_l ?_ (fun h => ?_)); focus (first | exact hc | assumption | omega | (simpa using hc; done))) | (revert h; (refine imp_r ?_ (fun h => ?_)); focus (first | exact hc | assumption | omega | (simpa using hc; done))))) <;> (conv => arg 4; cbv)) | ((with_reducible refine on_must ?_ ?_); (focus ((simp (disch := omega) [hI, k48, en48, an48, k46, en46, an46, k43, en43, an43, k50, en50, an50, hq0]) <;> (first | omega | assumption | ((repeat' (refine And.intro ?_ ?_)) <;> (first | omega | assumption))))); conv => arg 4; cbv))
  all_goals (first | ((with_reducible have hG : G52_0 _ _ _ _ _ _ := h); unfold G52_0 at hG; (with_reducible refine on_loop ?_); simp only [List.cons_append, List.nil_append]; refine W_norm [0, 4, 10] ?_ hG) | ((with_reducible have hG : G52_1 _ _ _ _ _ _ _ _ := h); unfold G52_1 at hG; (with_reducible refine on_loop ?_); simp only [List.cons_append, List.nil_append]; refine W_norm [0, 4, 5, 10, 12, 13, 14] ?_ hG) | ((subst h); (with_reducible refine on_ret ?_); refine Ended_of rfl ?_))
  all_goals ((conv => lhs; cbv); (try (first | rfl | ((try simp (disch := omega) [hI, k48, en48, an48, k46, en46, an46, k43, en43, an43, k50, en50, an50, hq0, mapE_append, Ty.encs_append, encs1_I64, encs1_U8, encs1, mapE1]) <;> (first | rfl | omega | (simp; done))))))
theorem si52_0 {w : World} {Xs : Nat → Prop} (plan : List NodeV) (all did k : Int) {r : RES} (p0 : rwI plan = true) (p1 : 0 < plan.length ∧ plan.length ≤ 8) (p2 : cellsOk plan = true) (hG : G52_1 w Xs (pushF plan).1 all (IntKind.i64.wrap (did + (pushF plan).2)) k 1 r) : G52_1 w Xs plan all did k 0 r := by
  obtain ⟨I, hI⟩ : ∃ I, I = real := ⟨_, rfl⟩; obtain ⟨K, hK⟩ : ∃ K : FuncId → En, K = fun g => (lk g [(48, en48), (46, en46), (43, en43), (50, en50)]).getD default := ⟨_, rfl⟩; have k48 : K 48 = en48 := (by subst hK; rfl); have k46 : K 46 = en46 := (by subst hK; rfl); have k43 : K 43 = en43 := (by subst hK; rfl); have k50 : K 50 = en50 := (by subst hK; rfl); clear hK
  unfold G52_1
  obtain ⟨q0, hq0⟩ : ∃ q, q = (tNode.encs plan) := ⟨_, rfl⟩
  try rw [← hq0]
  obtain ⟨fs, hfs⟩ : ∃ q, q = FUNS := ⟨_, rfl⟩
  rw [← hfs]
  refine W_go (Y := (Y52 I K)) xok (tY52 hI k48 k46 k43 k50) Try.func52 rfl 2000 _ hI ?_; (conv => arg 4; cbv)
  repeat' (first | ((with_reducible refine on_eqs ?_ ?_); (focus (with_reducible rfl)); conv => arg 4; cbv) | (with_reducible refine on_both ?_ ?_ <;> (conv => arg 4; cbv)) | (with_reducible refine on_true (by assumption) ?_; conv => arg 4; cbv) | (with_reducible refine on_false (by assumption) ?_; conv => arg 4; cbv) | (with_reducible refine on_ask (fun g => ?_) (fun g => ?_) <;> (have h := g) <;> (try simp (disch := omega) [hI, k48, en48, an48, k46, en46, an46, k43, en43, an43, k50, en50, an50, hq0, hfs, -List.length_eq_zero_iff] at h) <;> (try (exfalso; omega)) <;> (conv => arg 4; cbv)) | ((with_reducible refine on_must ?_ ?_); (focus ((simp (disch := omega) [hI, k48, en48, an48, k46, en46, an46, k43, en43, an43, k50, en50, an50, hq0, hfs]) <;> (first | omega | assumption | ((repeat' (refine And.intro ?_ ?_)) <;> (first | omega | assumption))))); conv => arg 4; cbv))
  (with_reducible refine on_must ?_ ?_)
  · rw [hI, hfs]; rfl
  (conv => arg 4; cbv)
  (with_reducible refine on_any ?_)
  refine W_fn hI (t := 7) (g := 48) rfl (by rw [hI, hfs]; rfl) ?_
  refine W_go (Y := (Y52 I K)) xok (tY52 hI k48 k46 k43 k50) Try.func52 rfl 2000 _ hI ?_; (conv => arg 4; cbv)
  repeat' (first | ((with_reducible refine on_eqs ?_ ?_); (focus (with_reducible rfl)); conv => arg 4; cbv) | (with_reducible refine on_both ?_ ?_ <;> (conv => arg 4; cbv)) | (with_reducible refine on_true (by assumption) ?_; conv => arg 4; cbv) | (with_reducible refine on_false (by assumption) ?_; conv => arg 4; cbv) | (with_reducible refine on_ask (fun g => ?_) (fun g => ?_) <;> (have h := g) <;> (try simp (disch := omega) [hI, k48, en48, an48, k46, en46, an46, k43, en43, an43, k50, en50, an50, hq0, hfs, -List.length_eq_zero_iff] at h) <;> (try (exfalso; omega)) <;> (conv => arg 4; cbv)) | ((with_reducible refine on_must ?_ ?_); (focus ((simp (disch := omega) [hI, k48, en48, an48, k46, en46, an46, k43, en43, an43, k50, en50, an50, hq0, hfs]) <;> (first | omega | assumption | ((repeat' (refine And.intro ?_ ?_)) <;> (first | omega | assumption))))); conv => arg 4; cbv))
  (with_reducible refine on_loop ?_)
  simp only [List.cons_append, List.nil_append]
  refine W_ice hI (c := 1) rfl ?_
  refine W_norm [0, 4, 5, 10, 12, 13, 14] ?_ hG
  (conv => lhs; cbv)
  (try (first | rfl | (simp (disch := omega) [hI, k48, en48, an48, k46, en46, an46, k43, en43, an43, k50, en50, an50, hq0, hfs, mapE_append, Ty.encs_append, encs1_I64, encs1_U8, encs1, mapE1]; done) | ((try simp (disch := omega) [hI, k48, en48, an48, k46, en46, an46, k43, en43, an43, k50, en50, an50, hq0, hfs, mapE_append, Ty.encs_append, encs1_I64, encs1_U8, encs1, mapE1]); first | rfl | omega | (simp; done))))

theorem si52_1 {w : World} {Xs : Nat → Prop} (plan : List NodeV) (all did k : Int) {r : RES} (p0 : rwI plan = true) (p1 : 0 < plan.length ∧ plan.length ≤ 8) (p2 : cellsOk plan = true) (hG : G52_1 w Xs (dblF plan).1 all (IntKind.i64.wrap (did + (dblF plan).2)) k 2 r) : G52_1 w Xs plan all did k 1 r := by
  obtain ⟨I, hI⟩ : ∃ I, I = real := ⟨_, rfl⟩; obtain ⟨K, hK⟩ : ∃ K : FuncId → En, K = fun g => (lk g [(48, en48), (46, en46), (43, en43), (50, en50)]).getD default := ⟨_, rfl⟩; have k48 : K 48 = en48 := (by subst hK; rfl); have k46 : K 46 = en46 := (by subst hK; rfl); have k43 : K 43 = en43 := (by subst hK; rfl); have k50 : K 50 = en50 := (by subst hK; rfl); clear hK
  unfold G52_1
  obtain ⟨q0, hq0⟩ : ∃ q, q = (tNode.encs plan) := ⟨_, rfl⟩
  try rw [← hq0]
  obtain ⟨fs, hfs⟩ : ∃ q, q = FUNS := ⟨_, rfl⟩
  rw [← hfs]
  refine W_go (Y := (Y52 I K)) xok (tY52 hI k48 k46 k43 k50) Try.func52 rfl 2000 _ hI ?_; (conv => arg 4; cbv)
  repeat' (first | ((with_reducible refine on_eqs ?_ ?_); (focus (with_reducible rfl)); conv => arg 4; cbv) | (with_reducible refine on_both ?_ ?_ <;> (conv => arg 4; cbv)) | (with_reducible refine on_true (by assumption) ?_; conv => arg 4; cbv) | (with_reducible refine on_false (by assumption) ?_; conv => arg 4; cbv) | (with_reducible refine on_ask (fun g => ?_) (fun g => ?_) <;> (have h := g) <;> (try simp (disch := omega) [hI, k48, en48, an48, k46, en46, an46, k43, en43, an43, k50, en50, an50, hq0, hfs, -List.length_eq_zero_iff] at h) <;> (try (exfalso; omega)) <;> (conv => arg 4; cbv)) | ((with_reducible refine on_must ?_ ?_); (focus ((simp (disch := omega) [hI, k48, en48, an48, k46, en46, an46, k43, en43, an43, k50, en50, an50, hq0, hfs]) <;> (first | omega | assumption | ((repeat' (refine And.intro ?_ ?_)) <;> (first | omega | assumption))))); conv => arg 4; cbv))
  (with_reducible refine on_must ?_ ?_)
  · rw [hI, hfs]; rfl
  (conv => arg 4; cbv)
  (with_reducible refine on_any ?_)
  refine W_fn hI (t := 7) (g := 46) rfl (by rw [hI, hfs]; rfl) ?_
  refine W_go (Y := (Y52 I K)) xok (tY52 hI k48 k46 k43 k50) Try.func52 rfl 2000 _ hI ?_; (conv => arg 4; cbv)
  repeat' (first | ((with_reducible refine on_eqs ?_ ?_); (focus (with_reducible rfl)); conv => arg 4; cbv) | (with_reducible refine on_both ?_ ?_ <;> (conv => arg 4; cbv)) | (with_reducible refine on_true (by assumption) ?_; conv => arg 4; cbv) | (with_reducible refine on_false (by assumption) ?_; conv => arg 4; cbv) | (with_reducible refine on_ask (fun g => ?_) (fun g => ?_) <;> (have h := g) <;> (try simp (disch := omega) [hI, k48, en48, an48, k46, en46, an46, k43, en43, an43, k50, en50, an50, hq0, hfs, -List.length_eq_zero_iff] at h) <;> (try (exfalso; omega)) <;> (conv => arg 4; cbv)) | ((with_reducible refine on_must ?_ ?_); (focus ((simp (disch := omega) [hI, k48, en48, an48, k46, en46, an46, k43, en43, an43, k50, en50, an50, hq0, hfs]) <;> (first | omega | assumption | ((repeat' (refine And.intro ?_ ?_)) <;> (first | omega | assumption))))); conv => arg 4; cbv))
  (with_reducible refine on_loop ?_)
  simp only [List.cons_append, List.nil_append]
  refine W_ice hI (c := 1) rfl ?_
  refine W_norm [0, 4, 5, 10, 12, 13, 14] ?_ hG
  (conv => lhs; cbv)
  (try (first | rfl | (simp (disch := omega) [hI, k48, en48, an48, k46, en46, an46, k43, en43, an43, k50, en50, an50, hq0, hfs, mapE_append, Ty.encs_append, encs1_I64, encs1_U8, encs1, mapE1]; done) | ((try simp (disch := omega) [hI, k48, en48, an48, k46, en46, an46, k43, en43, an43, k50, en50, an50, hq0, hfs, mapE_append, Ty.encs_append, encs1_I64, encs1_U8, encs1, mapE1]); first | rfl | omega | (simp; done))))

theorem si52_2 {w : World} {Xs : Nat → Prop} (plan : List NodeV) (all did k : Int) {r : RES} (p0 : rwI plan = true) (p1 : 0 < plan.length ∧ plan.length ≤ 8) (p2 : cellsOk plan = true) (hG : G52_1 w Xs (foldF plan).1 all (IntKind.i64.wrap (did + (foldF plan).2)) k 3 r) : G52_1 w Xs plan all did k 2 r := by
  obtain ⟨I, hI⟩ : ∃ I, I = real := ⟨_, rfl⟩; obtain ⟨K, hK⟩ : ∃ K : FuncId → En, K = fun g => (lk g [(48, en48), (46, en46), (43, en43), (50, en50)]).getD default := ⟨_, rfl⟩; have k48 : K 48 = en48 := (by subst hK; rfl); have k46 : K 46 = en46 := (by subst hK; rfl); have k43 : K 43 = en43 := (by subst hK; rfl); have k50 : K 50 = en50 := (by subst hK; rfl); clear hK
  unfold G52_1
  obtain ⟨q0, hq0⟩ : ∃ q, q = (tNode.encs plan) := ⟨_, rfl⟩
  try rw [← hq0]
  obtain ⟨fs, hfs⟩ : ∃ q, q = FUNS := ⟨_, rfl⟩
  rw [← hfs]
  refine W_go (Y := (Y52 I K)) xok (tY52 hI k48 k46 k43 k50) Try.func52 rfl 2000 _ hI ?_; (conv => arg 4; cbv)
  repeat' (first | ((with_reducible refine on_eqs ?_ ?_); (focus (with_reducible rfl)); conv => arg 4; cbv) | (with_reducible refine on_both ?_ ?_ <;> (conv => arg 4; cbv)) | (with_reducible refine on_true (by assumption) ?_; conv => arg 4; cbv) | (with_reducible refine on_false (by assumption) ?_; conv => arg 4; cbv) | (with_reducible refine on_ask (fun g => ?_) (fun g => ?_) <;> (have h := g) <;> (try simp (disch := omega) [hI, k48, en48, an48, k46, en46, an46, k43, en43, an43, k50, en50, an50, hq0, hfs, -List.length_eq_zero_iff] at h) <;> (try (exfalso; omega)) <;> (conv => arg 4; cbv)) | ((with_reducible refine on_must ?_ ?_); (focus ((simp (disch := omega) [hI, k48, en48, an48, k46, en46, an46, k43, en43, an43, k50, en50, an50, hq0, hfs]) <;> (first | omega | assumption | ((repeat' (refine And.intro ?_ ?_)) <;> (first | omega | assumption))))); conv => arg 4; cbv))
  (with_reducible refine on_must ?_ ?_)
  · rw [hI, hfs]; rfl
  (conv => arg 4; cbv)
  (with_reducible refine on_any ?_)
  refine W_fn hI (t := 7) (g := 43) rfl (by rw [hI, hfs]; rfl) ?_
  refine W_go (Y := (Y52 I K)) xok (tY52 hI k48 k46 k43 k50) Try.func52 rfl 2000 _ hI ?_; (conv => arg 4; cbv)
  repeat' (first | ((with_reducible refine on_eqs ?_ ?_); (focus (with_reducible rfl)); conv => arg 4; cbv) | (with_reducible refine on_both ?_ ?_ <;> (conv => arg 4; cbv)) | (with_reducible refine on_true (by assumption) ?_; conv => arg 4; cbv) | (with_reducible refine on_false (by assumption) ?_; conv => arg 4; cbv) | (with_reducible refine on_ask (fun g => ?_) (fun g => ?_) <;> (have h := g) <;> (try simp (disch := omega) [hI, k48, en48, an48, k46, en46, an46, k43, en43, an43, k50, en50, an50, hq0, hfs, -List.length_eq_zero_iff] at h) <;> (try (exfalso; omega)) <;> (conv => arg 4; cbv)) | ((with_reducible refine on_must ?_ ?_); (focus ((simp (disch := omega) [hI, k48, en48, an48, k46, en46, an46, k43, en43, an43, k50, en50, an50, hq0, hfs]) <;> (first | omega | assumption | ((repeat' (refine And.intro ?_ ?_)) <;> (first | omega | assumption))))); conv => arg 4; cbv))
  (with_reducible refine on_loop ?_)
  simp only [List.cons_append, List.nil_append]
  refine W_ice hI (c := 1) rfl ?_
  refine W_norm [0, 4, 5, 10, 12, 13, 14] ?_ hG
  (conv => lhs; cbv)
  (try (first | rfl | (simp (disch := omega) [hI, k48, en48, an48, k46, en46, an46, k43, en43, an43, k50, en50, an50, hq0, hfs, mapE_append, Ty.encs_append, encs1_I64, encs1_U8, encs1, mapE1]; done) | ((try simp (disch := omega) [hI, k48, en48, an48, k46, en46, an46, k43, en43, an43, k50, en50, an50, hq0, hfs, mapE_append, Ty.encs_append, encs1_I64, encs1_U8, encs1, mapE1]); first | rfl | omega | (simp; done))))

theorem si52_3 {w : World} {Xs : Nat → Prop} (plan : List NodeV) (all did k : Int) {r : RES} (p0 : rwI plan = true) (p1 : 0 < plan.length ∧ plan.length ≤ 8) (p2 : cellsOk plan = true) (hG : G52_1 w Xs (pruneF plan).1 all (IntKind.i64.wrap (did + (pruneF plan).2)) k 4 r) : G52_1 w Xs plan all did k 3 r := by
  obtain ⟨I, hI⟩ : ∃ I, I = real := ⟨_, rfl⟩; obtain ⟨K, hK⟩ : ∃ K : FuncId → En, K = fun g => (lk g [(48, en48), (46, en46), (43, en43), (50, en50)]).getD default := ⟨_, rfl⟩; have k48 : K 48 = en48 := (by subst hK; rfl); have k46 : K 46 = en46 := (by subst hK; rfl); have k43 : K 43 = en43 := (by subst hK; rfl); have k50 : K 50 = en50 := (by subst hK; rfl); clear hK
  unfold G52_1
  obtain ⟨q0, hq0⟩ : ∃ q, q = (tNode.encs plan) := ⟨_, rfl⟩
  try rw [← hq0]
  obtain ⟨fs, hfs⟩ : ∃ q, q = FUNS := ⟨_, rfl⟩
  rw [← hfs]
  refine W_go (Y := (Y52 I K)) xok (tY52 hI k48 k46 k43 k50) Try.func52 rfl 2000 _ hI ?_; (conv => arg 4; cbv)
  repeat' (first | ((with_reducible refine on_eqs ?_ ?_); (focus (with_reducible rfl)); conv => arg 4; cbv) | (with_reducible refine on_both ?_ ?_ <;> (conv => arg 4; cbv)) | (with_reducible refine on_true (by assumption) ?_; conv => arg 4; cbv) | (with_reducible refine on_false (by assumption) ?_; conv => arg 4; cbv) | (with_reducible refine on_ask (fun g => ?_) (fun g => ?_) <;> (have h := g) <;> (try simp (disch := omega) [hI, k48, en48, an48, k46, en46, an46, k43, en43, an43, k50, en50, an50, hq0, hfs, -List.length_eq_zero_iff] at h) <;> (try (exfalso; omega)) <;> (conv => arg 4; cbv)) | ((with_reducible refine on_must ?_ ?_); (focus ((simp (disch := omega) [hI, k48, en48, an48, k46, en46, an46, k43, en43, an43, k50, en50, an50, hq0, hfs]) <;> (first | omega | assumption | ((repeat' (refine And.intro ?_ ?_)) <;> (first | omega | assumption))))); conv => arg 4; cbv))
  (with_reducible refine on_must ?_ ?_)
  · rw [hI, hfs]; rfl
  (conv => arg 4; cbv)
  (with_reducible refine on_any ?_)
  refine W_fn hI (t := 7) (g := 50) rfl (by rw [hI, hfs]; rfl) ?_
  refine W_go (Y := (Y52 I K)) xok (tY52 hI k48 k46 k43 k50) Try.func52 rfl 2000 _ hI ?_; (conv => arg 4; cbv)
  repeat' (first | ((with_reducible refine on_eqs ?_ ?_); (focus (with_reducible rfl)); conv => arg 4; cbv) | (with_reducible refine on_both ?_ ?_ <;> (conv => arg 4; cbv)) | (with_reducible refine on_true (by assumption) ?_; conv => arg 4; cbv) | (with_reducible refine on_false (by assumption) ?_; conv => arg 4; cbv) | (with_reducible refine on_ask (fun g => ?_) (fun g => ?_) <;> (have h := g) <;> (try simp (disch := omega) [hI, k48, en48, an48, k46, en46, an46, k43, en43, an43, k50, en50, an50, hq0, hfs, -List.length_eq_zero_iff] at h) <;> (try (exfalso; omega)) <;> (conv => arg 4; cbv)) | ((with_reducible refine on_must ?_ ?_); (focus ((simp (disch := omega) [hI, k48, en48, an48, k46, en46, an46, k43, en43, an43, k50, en50, an50, hq0, hfs]) <;> (first | omega | assumption | ((repeat' (refine And.intro ?_ ?_)) <;> (first | omega | assumption))))); conv => arg 4; cbv))
  (with_reducible refine on_loop ?_)
  simp only [List.cons_append, List.nil_append]
  refine W_ice hI (c := 1) rfl ?_
  refine W_norm [0, 4, 5, 10, 12, 13, 14] ?_ hG
  (conv => lhs; cbv)
  (try (first | rfl | (simp (disch := omega) [hI, k48, en48, an48, k46, en46, an46, k43, en43, an43, k50, en50, an50, hq0, hfs, mapE_append, Ty.encs_append, encs1_I64, encs1_U8, encs1, mapE1]; done) | ((try simp (disch := omega) [hI, k48, en48, an48, k46, en46, an46, k43, en43, an43, k50, en50, an50, hq0, hfs, mapE_append, Ty.encs_append, encs1_I64, encs1_U8, encs1, mapE1]); first | rfl | omega | (simp; done))))

theorem go52 (plan : List NodeV) {r : RES} (h : ∀ (w : World) (Xs : Nat → Prop), G52_0 w Xs plan 0 0 r) : Ok0 Try.prog 52 [(pL tNode).enc plan] r.1 r.2.1 r.2.2 := by
  obtain ⟨I, hI⟩ : ∃ I, I = real := ⟨_, rfl⟩; obtain ⟨K, hK⟩ : ∃ K : FuncId → En, K = fun g => (lk g [(48, en48), (46, en46), (43, en43), (50, en50)]).getD default := ⟨_, rfl⟩; have k48 : K 48 = en48 := (by subst hK; rfl); have k46 : K 46 = en46 := (by subst hK; rfl); have k43 : K 43 = en43 := (by subst hK; rfl); have k50 : K 50 = en50 := (by subst hK; rfl); clear hK
  show Ok0 Try.prog 52 [.one (.pv (.sl false 7 (tNode.encs plan)))] _ _ _
  obtain ⟨q0, hq0⟩ : ∃ q, q = (tNode.encs plan) := ⟨_, rfl⟩
  try rw [← hq0]
  refine Ok0_run (Y := (Y52 I K)) xok (tY52 hI k48 k46 k43 k50) Try.func52 rfl rfl rfl 2000 hI fun w Xs => ?_; (conv => arg 4; cbv)
  replace h := h w Xs
  repeat' (first | (have hd := And.left h; replace h := And.right h) | ((with_reducible refine on_eqs ?_ ?_); (focus (with_reducible rfl)); conv => arg 4; cbv) | (with_reducible refine on_both ?_ ?_ <;> (conv => arg 4; cbv)) | (with_reducible refine on_true (by assumption) ?_; conv => arg 4; cbv) | (with_reducible refine on_false (by assumption) ?_; conv => arg 4; cbv) | (with_reducible refine on_ask (fun g => ?_) (fun g => ?_) <;> (have hc := g) <;> (try simp (disch := omega) [hI, k48, en48, an48, k46, en46, an46, k43, en43, an43, k50, en50, an50, hq0, -List.length_eq_zero_iff] at hc) <;> (try (exfalso; omega)) <;> (try (first | (revert h; (refine imp_l ?_ (fun h => ?_)); focus (first | exact hc | assumption | omega | (simpa using hc; done))) | (revert h; (refine imp_r ?_ (fun h => ?_)); focus (first | exact hc | assumption | omega | (simpa using hc; done))))) <;> (conv => arg 4; cbv)) | ((with_reducible refine on_must ?_ ?_); (focus ((simp (disch := omega) [hI, k48, en48, an48, k46, en46, an46, k43, en43, an43, k50, en50, an50, hq0]) <;> (first | omega | assumption | ((repeat' (refine And.intro ?_ ?_)) <;> (first | omega | assumption))))); conv => arg 4; cbv))
  all_goals (first | ((with_reducible have hG : G52_0 _ _ _ _ _ _ := h); unfold G52_0 at hG; (with_reducible refine on_loop ?_); simp only [List.cons_append, List.nil_append]; refine W_norm [0, 4, 10] ?_ hG) | ((with_reducible have hG : G52_1 _ _ _ _ _ _ _ _ := h); unfold G52_1 at hG; (with_reducible refine on_loop ?_); simp only [List.cons_append, List.nil_append]; refine W_norm [0, 4, 5, 10, 12, 13, 14] ?_ hG) | ((subst h); (with_reducible refine on_ret ?_); refine Ended_of rfl ?_))
  all_goals ((conv => lhs; cbv); (try (first | rfl | ((try simp (disch := omega) [hI, k48, en48, an48, k46, en46, an46, k43, en43, an43, k50, en50, an50, hq0, mapE_append, Ty.encs_append, encs1_I64, encs1_U8, encs1, mapE1]) <;> (first | rfl | omega | (simp; done))))))
end Go.Proofs.Try
