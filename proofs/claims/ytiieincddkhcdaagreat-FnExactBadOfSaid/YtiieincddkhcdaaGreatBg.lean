/- Contracts. -/
import Derived.Test.YtiieincddkhcdaaGreatBf
set_option linter.unusedSimpArgs false
set_option linter.unusedVariables false
namespace Go.Proofs.Tryz
open Go Go.Aix
set_option maxRecDepth 100000
set_option maxHeartbeats 4000000
theorem ent52 : Enters Tryz.prog 52 := ⟨Tryz.f52, Tryz.func52, by kernel_rfl, by kernel_rfl⟩
abbrev G52_0 (w : World) (Xs : Nat → Prop) (a : List LinkV) (b : List LinkV) (i : Int) (r : RES) : Prop := WL [0, 1, 5] Tryz.prog 52 Tryz.f52 (Ent0 w Xs) (Back (Ent0 w Xs) r.1 r.2.1 r.2.2) (place (bodyOf Tryz.f52) [1,1,0,1,0,0] [])
  ⟨[(0, .one (.pv (.sl false 1 (tLink.encs a)))), (1, .one (.pv (.sl false 1 (tLink.encs b)))), (5, .one (.pv (.sc (.int .i64 i))))], [], 0⟩
noncomputable def Y52 (I : Ops) (K : FuncId → En) : CallsA := (Tab.calls [(89, true, callRd I (callE I (K 89) sh89))])
theorem tY52 {I : Ops} (hI : I = real) {K : FuncId → En} (k89 : K 89 = en89) : CallsOk Tryz.prog (Y52 I K) := (TabOk.calls mixed ⟨EntryOk.rd (s89 hI k89) hI, fun _ => callRd_quiet _ _, trivial⟩)
theorem st52_0 {w : World} {Xs : Nat → Prop} (a : List LinkV) (b : List LinkV) (i : Int) {r : RES} (h : (if i < (a.length : Int) then ((0 ≤ i ∧ i < (a.length : Int)) ∧ ((0 ≤ i ∧ i < (b.length : Int)) ∧ (((bFrameS ((nth a i.toNat).frames)) = true) ∧ (if (decide (((nth a i.toNat).frames) = ((nth b i.toNat).frames))) = true then G52_0 w Xs a b (IntKind.i64.wrap (i + 1)) r else r = (.one (.pv (.sc (.bool false))), [], 0))))) else r = (.one (.pv (.sc (.bool true))), [], 0))) : G52_0 w Xs a b i r := by
  obtain ⟨I, hI⟩ : ∃ I, I = real := ⟨_, rfl⟩; obtain ⟨K, k89⟩ : ∃ K : FuncId → En, K 89 = en89 := ⟨fun g => (lk g [(89, en89)]).getD default, rfl⟩
  unfold G52_0 WL
  obtain ⟨q0, hq0⟩ := eqv (tLink.encs a)
  try rw [← hq0]
  obtain ⟨q1, hq1⟩ := eqv (tLink.encs b)
  try rw [← hq1]
  have hS := And.intro hI (And.intro k89 (And.intro hq0 hq1))
  refine W_go (Y := (Y52 I K)) xok (tY52 hI k89) Tryz.func52 rfl 2000 _ hI ?_; (conv => arg 4; cbv)
  exact fin
theorem go52 (a : List LinkV) (b : List LinkV) {r : RES} (h : ∀ (w : World) (Xs : Nat → Prop), (if (a.length : Int) = (b.length : Int) then G52_0 w Xs a b 0 r else r = (.one (.pv (.sc (.bool false))), [], 0))) : Ok0 Tryz.prog 52 [(pL tLink).enc a, (pL tLink).enc b] r.1 r.2.1 r.2.2 := by
  obtain ⟨I, hI⟩ : ∃ I, I = real := ⟨_, rfl⟩; obtain ⟨K, k89⟩ : ∃ K : FuncId → En, K 89 = en89 := ⟨fun g => (lk g [(89, en89)]).getD default, rfl⟩
  show Ok0 Tryz.prog 52 [.one (.pv (.sl false 1 (tLink.encs a))), .one (.pv (.sl false 1 (tLink.encs b)))] _ _ _
  obtain ⟨q0, hq0⟩ := eqv (tLink.encs a)
  try rw [← hq0]
  obtain ⟨q1, hq1⟩ := eqv (tLink.encs b)
  try rw [← hq1]
  have hS := And.intro hI (And.intro k89 (And.intro hq0 hq1))
  refine Ok0_run (Y := (Y52 I K)) xok (tY52 hI k89) Tryz.func52 rfl rfl rfl 2000 hI fun w Xs => ?_; (conv => arg 4; cbv)
  replace h := h w Xs
  exact fin
theorem lm52 {w : World} {Xs : Nat → Prop} (a b : List LinkV) (ha : bLinkS a = true) (he : a.length = b.length) : ∀ k i : Nat, k + i = a.length → G52_0 w Xs a b i (rB (decide (a.drop i = b.drop i))) := by
  have hl := bLinkS_len ha
  intro k
  induction k with
  | zero =>
    intro i hk
    apply st52_0
    rw [if_neg (by omega), drop_nil (l := a) (by omega), drop_nil (l := b) (by omega)]
    simp
  | succ k ih =>
    intro i hk
    have hx := bLinkS_nth ha (i := i) (by omega)
    have x0 := bLink_p hx
    have hd : a.drop i = nth a i :: a.drop (i + 1) := nth_drop (by omega)
    have hd' : b.drop i = nth b i :: b.drop (i + 1) := nth_drop (by omega)
    have no : nth a i ≠ nth b i → rB (decide (a.drop i = b.drop i)) = rB false := fun e => by rw [hd, hd']; simp [e]
    have yes : nth a i = nth b i → G52_0 w Xs a b ((i + 1 : Nat) : Int) (rB (decide (a.drop i = b.drop i))) := fun e => by
      have := ih (i + 1) (by omega)
      rw [hd, hd']
      simpa [e] using this
    apply st52_0
    rw [if_pos (by omega), wsucc (by omega)]
    simp only [Int.toNat_natCast]
    clear ih hd hd'
    (repeat' (first | (refine And.intro ?_ ?_) | (refine if_go (fun q => ?_) (fun q => ?_))))
    all_goals first
      | omega
      | assumption
      | exact yes (extLink (by first | assumption | exact of_decide_eq_true (by assumption)))
      | exact no (fun e => q (by rw [e]))
      | exact no (fun e => q (decide_eq_true (by rw [e])))
def sh52 : Shp := fun I i b l s => .ok (.one (.pv (.sc (.bool (b 0)))), [], 0)
def an52 : An (List LinkV × List LinkV × Unit) where
  pre t := (bLinkS t.1)
  b _ t := decide (t.1 = t.2.1)
noncomputable def en52 : En := mkE (parsC (pL tLink) (parsC (pL tLink) pars0)) an52
attribute [simp] en52 an52
theorem ok52 (a : List LinkV) (b : List LinkV) (p0 : bLinkS a = true) : Ok0 Tryz.prog 52 [(pL tLink).enc a, (pL tLink).enc b] ((.one (.pv (.sc (.bool (decide (a = b))))), [], 0) : RES).1 ((.one (.pv (.sc (.bool (decide (a = b))))), [], 0) : RES).2.1 ((.one (.pv (.sc (.bool (decide (a = b))))), [], 0) : RES).2.2 := by
  refine go52 a b fun w Xs => ?_
  refine if_go (fun h => ?_) (fun h => ?_)
  · exact lm52 a b p0 (by omega) a.length 0 rfl
  · have : a ≠ b := by intro e; subst e; exact h rfl
    simp [this]
theorem s52 {I : Ops} (hI : I = real) {e : En} (he : e = en52) : Sound Tryz.prog 52 (callE I e sh52) := by
  refine Sound.mkE ent52 hI (fun _ => rfl) ?_ he
  rintro ⟨a, b, ⟨⟩⟩ hp
  have hp : ((bLinkS a)) = true := hp
  try simp only [Bool.and_eq_true, decide_eq_true_eq] at hp
  have p0 := hp
  exact ok52 a b p0
def szLinkf (e : LinkV) (m : Int) : Int := if szA szFramef e.frames m < 0 then -1 else szA szFramef e.frames m
theorem ent40 : Enters Tryz.prog 40 := ⟨Tryz.f40, Tryz.func40, by kernel_rfl, by kernel_rfl⟩
abbrev G40_0 (w : World) (Xs : Nat → Prop) (a : List LinkV) (left' : Int) (i : Int) (r : RES) : Prop := WL [0, 1, 5] Tryz.prog 40 Tryz.f40 (Ent0 w Xs) (Back (Ent0 w Xs) r.1 r.2.1 r.2.2) (place (bodyOf Tryz.f40) [1,1,1,0,1,0,0] [])
  ⟨[(0, .one (.pv (.sl false 1 (tLink.encs a)))), (1, .one (.pv (.sc (.int .i64 left')))), (5, .one (.pv (.sc (.int .i64 i))))], [], 0⟩
noncomputable def Y40 (I : Ops) (K : FuncId → En) : CallsA := (Tab.calls [(74, true, callRd I (callE I (K 74) sh74))])
theorem tY40 {I : Ops} (hI : I = real) {K : FuncId → En} (k74 : K 74 = en74) : CallsOk Tryz.prog (Y40 I K) := (TabOk.calls mixed ⟨EntryOk.rd (s74 hI k74) hI, fun _ => callRd_quiet _ _, trivial⟩)
theorem st40_0 {w : World} {Xs : Nat → Prop} (a : List LinkV) (left' : Int) (i : Int) {r : RES} (h : (if i < (a.length : Int) then ((0 ≤ i ∧ i < (a.length : Int)) ∧ (((zFrameS ((nth a i.toNat).frames)) = true) ∧ (if szA szFramef ((nth a i.toNat).frames) left' < 0 then r = (.one (.pv (.sc (.int .i64 (-1)))), [], 0) else G40_0 w Xs a (szA szFramef ((nth a i.toNat).frames) left') (IntKind.i64.wrap (i + 1)) r))) else r = (.one (.pv (.sc (.int .i64 left'))), [], 0))) : G40_0 w Xs a left' i r := by
  obtain ⟨I, hI⟩ : ∃ I, I = real := ⟨_, rfl⟩; obtain ⟨K, k74⟩ : ∃ K : FuncId → En, K 74 = en74 := ⟨fun g => (lk g [(74, en74)]).getD default, rfl⟩
  unfold G40_0 WL
  obtain ⟨q0, hq0⟩ := eqv (tLink.encs a)
  try rw [← hq0]
  have hS := And.intro hI (And.intro k74 hq0)
  refine W_go (Y := (Y40 I K)) xok (tY40 hI k74) Tryz.func40 rfl 2000 _ hI ?_; (conv => arg 4; cbv)
  exact fin
theorem go40 (a : List LinkV) (left : Int) {r : RES} (h : ∀ (w : World) (Xs : Nat → Prop), (if (IntKind.i64.wrap (left - (a.length : Int))) < 0 then r = (.one (.pv (.sc (.int .i64 (-1)))), [], 0) else G40_0 w Xs a (IntKind.i64.wrap (left - (a.length : Int))) 0 r)) : Ok0 Tryz.prog 40 [(pL tLink).enc a, pI.enc left] r.1 r.2.1 r.2.2 := by
  obtain ⟨I, hI⟩ : ∃ I, I = real := ⟨_, rfl⟩; obtain ⟨K, k74⟩ : ∃ K : FuncId → En, K 74 = en74 := ⟨fun g => (lk g [(74, en74)]).getD default, rfl⟩
  show Ok0 Tryz.prog 40 [.one (.pv (.sl false 1 (tLink.encs a))), .one (.pv (.sc (.int .i64 left)))] _ _ _
  obtain ⟨q0, hq0⟩ := eqv (tLink.encs a)
  try rw [← hq0]
  have hS := And.intro hI (And.intro k74 hq0)
  refine Ok0_run (Y := (Y40 I K)) xok (tY40 hI k74) Tryz.func40 rfl rfl rfl 2000 hI fun w Xs => ?_; (conv => arg 4; cbv)
  replace h := h w Xs
  exact fin
theorem lm40 {w : World} {Xs : Nat → Prop} (a : List LinkV) (ha : zLinkS a = true) : ∀ (k i : Nat) (m : Int), k + i = a.length → G40_0 w Xs a m i (rI (szS szLinkf (a.drop i) m)) := by
  have hl := zLinkS_len ha
  intro k
  induction k with
  | zero =>
    intro i m hk
    apply st40_0
    rw [if_neg (by omega), drop_nil (l := a) (by omega)]
    rfl
  | succ k ih =>
    intro i m hk
    have hx := zLinkS_nth ha (i := i) (by omega)
    have x0 := zLink_p hx
    have hd : a.drop i = nth a i :: a.drop (i + 1) := nth_drop (by omega)
    have no : szLinkf (nth a i) m < 0 → rI (szS szLinkf (a.drop i) m) = rI (-1) := fun e => by rw [hd, szS, if_pos e]
    have yes : ∀ m', szLinkf (nth a i) m = m' → ¬ m' < 0 → G40_0 w Xs a m' ((i + 1 : Nat) : Int) (rI (szS szLinkf (a.drop i) m)) := fun m' e e2 => by
      have := ih (i + 1) m' (by omega)
      rw [hd, szS, e, if_neg e2]
      exact this
    apply st40_0
    rw [if_pos (by omega), wsucc (by omega)]
    simp only [Int.toNat_natCast]
    clear ih hd
    (repeat' (first | (refine And.intro ?_ ?_) | (refine if_go (fun q => ?_) (fun q => ?_))))
    all_goals first
      | omega
      | assumption
      | exact zI_len (by assumption)
      | (refine yes _ ?_ ?_ <;> (unfold szLinkf; (try unfold szL); (repeat' split) <;> first | rfl | omega))
      | (refine yes _ ?_ ?_ <;> (first | omega | (unfold szLinkf; (try unfold szL); (repeat' split) <;> first | rfl | omega)))
      | (refine no ?_; unfold szLinkf; (try unfold szL); (repeat' split) <;> omega)
def sh40 : Shp := fun I i b l s => .ok (.one (.pv (.sc (.int .i64 (i 0)))), [], 0)
def an40 : An (List LinkV × Int × Unit) where
  pre t := (zLinkS t.1)
  i _ t := szA szLinkf t.1 t.2.1
noncomputable def en40 : En := mkE (parsC (pL tLink) (parsC pI pars0)) an40
attribute [simp] en40 an40
theorem ok40 (a : List LinkV) (left : Int) (p0 : zLinkS a = true) : Ok0 Tryz.prog 40 [(pL tLink).enc a, pI.enc left] ((.one (.pv (.sc (.int .i64 (szA szLinkf a left)))), [], 0) : RES).1 ((.one (.pv (.sc (.int .i64 (szA szLinkf a left)))), [], 0) : RES).2.1 ((.one (.pv (.sc (.int .i64 (szA szLinkf a left)))), [], 0) : RES).2.2 := by
  refine go40 a left fun w Xs => ?_
  have hl := zLinkS_len p0
  unfold szA
  (repeat' (first | (refine And.intro ?_ ?_) | (refine if_go (fun q => ?_) (fun q => ?_))))
  all_goals first
    | omega
    | (rw [if_pos (by omega)])
    | (rw [if_neg (by omega)]; exact lm40 a p0 a.length 0 _ rfl)
theorem s40 {I : Ops} (hI : I = real) {e : En} (he : e = en40) : Sound Tryz.prog 40 (callE I e sh40) := by
  refine Sound.mkE ent40 hI (fun _ => rfl) ?_ he
  rintro ⟨a, left, ⟨⟩⟩ hp
  have hp : ((zLinkS a)) = true := hp
  try simp only [Bool.and_eq_true, decide_eq_true_eq] at hp
  have p0 := hp
  exact ok40 a left p0
theorem ent88 : Enters Tryz.prog 88 := ⟨Tryz.f88, Tryz.func88, by kernel_rfl, by kernel_rfl⟩
noncomputable def Y88 (I : Ops) (K : FuncId → En) : CallsA := (Tab.calls [(89, true, callRd I (callE I (K 89) sh89)), (128, true, callRd I (callE I (K 128) sh128)), (129, true, callRd I (callE I (K 129) sh129)), (130, true, callRd I (callE I (K 130) sh130))])
theorem tY88 {I : Ops} (hI : I = real) {K : FuncId → En} (k89 : K 89 = en89) (k128 : K 128 = en128) (k129 : K 129 = en129) (k130 : K 130 = en130) : CallsOk Tryz.prog (Y88 I K) := (TabOk.calls mixed ⟨EntryOk.rd (s89 hI k89) hI, fun _ => callRd_quiet _ _, ⟨EntryOk.rd (s128 hI k128) hI, fun _ => callRd_quiet _ _, ⟨EntryOk.rd (s129 hI k129) hI, fun _ => callRd_quiet _ _, ⟨EntryOk.rd (s130 hI k130) hI, fun _ => callRd_quiet _ _, trivial⟩⟩⟩⟩)
theorem s88 {I : Ops} (hI : I = real) {K : FuncId → En} (k89 : K 89 = en89) (k128 : K 128 = en128) (k129 : K 129 = en129) (k130 : K 130 = en130) : Sound Tryz.prog 88 (inl X I (Y88 I K) Tryz.f88) :=
  Sound.inl (Y := (Y88 I K)) xok (tY88 hI k89 k128 k129 k130) ent88 Tryz.func88 rfl rfl hI
theorem ent51 : Enters Tryz.prog 51 := ⟨Tryz.f51, Tryz.func51, by kernel_rfl, by kernel_rfl⟩
abbrev G51_0 (w : World) (Xs : Nat → Prop) (a : List WorkerV) (b : List WorkerV) (i : Int) (r : RES) : Prop := WL [0, 1, 5] Tryz.prog 51 Tryz.f51 (Ent0 w Xs) (Back (Ent0 w Xs) r.1 r.2.1 r.2.2) (place (bodyOf Tryz.f51) [1,1,0,1,0,0] [])
  ⟨[(0, .one (.pv (.sl false 7 (tWorker.encs a)))), (1, .one (.pv (.sl false 7 (tWorker.encs b)))), (5, .one (.pv (.sc (.int .i64 i))))], [], 0⟩
noncomputable def Y51 (I : Ops) (K : FuncId → En) : CallsA := (Tab.calls [(88, true, callRd I (inl X I (Y88 I K) Tryz.f88))])
theorem tY51 {I : Ops} (hI : I = real) {K : FuncId → En} (k89 : K 89 = en89) (k128 : K 128 = en128) (k129 : K 129 = en129) (k130 : K 130 = en130) : CallsOk Tryz.prog (Y51 I K) := (TabOk.calls mixed ⟨EntryOk.rd (s88 hI k89 k128 k129 k130) hI, fun _ => callRd_quiet _ _, trivial⟩)
theorem st51_0 {w : World} {Xs : Nat → Prop} (a : List WorkerV) (b : List WorkerV) (i : Int) {r : RES} (h : (if i < (a.length : Int) then ((0 ≤ i ∧ i < (a.length : Int)) ∧ ((0 ≤ i ∧ i < (b.length : Int)) ∧ (((bFrameS ((nth a i.toNat).inbox)) = true) ∧ (if (decide (((nth a i.toNat).inbox) = ((nth b i.toNat).inbox))) = true then (((bCountS ((nth a i.toNat).counts)) = true) ∧ (if (decide (((nth a i.toNat).counts) = ((nth b i.toNat).counts))) = true then (((bHeldS ((nth a i.toNat).nodes)) = true) ∧ (if (decide (((nth a i.toNat).nodes) = ((nth b i.toNat).nodes))) = true then (if (nth a i.toNat).epoch = (nth b i.toNat).epoch then (if (nth a i.toNat).top = (nth b i.toNat).top then (((bReleaseS ((nth a i.toNat).outs)) = true) ∧ (if (decide (((nth a i.toNat).outs) = ((nth b i.toNat).outs))) = true then (if ((nth a i.toNat).bad) = ((nth b i.toNat).bad) then G51_0 w Xs a b (IntKind.i64.wrap (i + 1)) r else r = (.one (.pv (.sc (.bool false))), [], 0)) else r = (.one (.pv (.sc (.bool false))), [], 0))) else r = (.one (.pv (.sc (.bool false))), [], 0)) else r = (.one (.pv (.sc (.bool false))), [], 0)) else r = (.one (.pv (.sc (.bool false))), [], 0))) else r = (.one (.pv (.sc (.bool false))), [], 0))) else r = (.one (.pv (.sc (.bool false))), [], 0))))) else r = (.one (.pv (.sc (.bool true))), [], 0))) : G51_0 w Xs a b i r := by
  obtain ⟨I, hI⟩ : ∃ I, I = real := ⟨_, rfl⟩; obtain ⟨K, k89, k128, k129, k130⟩ : ∃ K : FuncId → En, K 89 = en89 ∧ K 128 = en128 ∧ K 129 = en129 ∧ K 130 = en130 := ⟨fun g => (lk g [(89, en89), (128, en128), (129, en129), (130, en130)]).getD default, rfl, rfl, rfl, rfl⟩
  unfold G51_0 WL
  obtain ⟨q0, hq0⟩ := eqv (tWorker.encs a)
  try rw [← hq0]
  obtain ⟨q1, hq1⟩ := eqv (tWorker.encs b)
  try rw [← hq1]
  have hS := And.intro hI (And.intro k89 (And.intro k128 (And.intro k129 (And.intro k130 (And.intro hq0 hq1)))))
  refine W_go (Y := (Y51 I K)) xok (tY51 hI k89 k128 k129 k130) Tryz.func51 rfl 2000 _ hI ?_; (conv => arg 4; cbv)
  exact fin
theorem go51 (a : List WorkerV) (b : List WorkerV) {r : RES} (h : ∀ (w : World) (Xs : Nat → Prop), (if (a.length : Int) = (b.length : Int) then G51_0 w Xs a b 0 r else r = (.one (.pv (.sc (.bool false))), [], 0))) : Ok0 Tryz.prog 51 [(pL tWorker).enc a, (pL tWorker).enc b] r.1 r.2.1 r.2.2 := by
  obtain ⟨I, hI⟩ : ∃ I, I = real := ⟨_, rfl⟩; obtain ⟨K, k89, k128, k129, k130⟩ : ∃ K : FuncId → En, K 89 = en89 ∧ K 128 = en128 ∧ K 129 = en129 ∧ K 130 = en130 := ⟨fun g => (lk g [(89, en89), (128, en128), (129, en129), (130, en130)]).getD default, rfl, rfl, rfl, rfl⟩
  show Ok0 Tryz.prog 51 [.one (.pv (.sl false 7 (tWorker.encs a))), .one (.pv (.sl false 7 (tWorker.encs b)))] _ _ _
  obtain ⟨q0, hq0⟩ := eqv (tWorker.encs a)
  try rw [← hq0]
  obtain ⟨q1, hq1⟩ := eqv (tWorker.encs b)
  try rw [← hq1]
  have hS := And.intro hI (And.intro k89 (And.intro k128 (And.intro k129 (And.intro k130 (And.intro hq0 hq1)))))
  refine Ok0_run (Y := (Y51 I K)) xok (tY51 hI k89 k128 k129 k130) Tryz.func51 rfl rfl rfl 2000 hI fun w Xs => ?_; (conv => arg 4; cbv)
  replace h := h w Xs
  exact fin
theorem lm51 {w : World} {Xs : Nat → Prop} (a b : List WorkerV) (ha : bWorkerS a = true) (he : a.length = b.length) : ∀ k i : Nat, k + i = a.length → G51_0 w Xs a b i (rB (decide (a.drop i = b.drop i))) := by
  have hl := bWorkerS_len ha
  intro k
  induction k with
  | zero =>
    intro i hk
    apply st51_0
    rw [if_neg (by omega), drop_nil (l := a) (by omega), drop_nil (l := b) (by omega)]
    simp
  | succ k ih =>
    intro i hk
    have hx := bWorkerS_nth ha (i := i) (by omega)
    obtain ⟨x0, x1, x2, x3⟩ := bWorker_p hx
    have hd : a.drop i = nth a i :: a.drop (i + 1) := nth_drop (by omega)
    have hd' : b.drop i = nth b i :: b.drop (i + 1) := nth_drop (by omega)
    have no : nth a i ≠ nth b i → rB (decide (a.drop i = b.drop i)) = rB false := fun e => by rw [hd, hd']; simp [e]
    have yes : nth a i = nth b i → G51_0 w Xs a b ((i + 1 : Nat) : Int) (rB (decide (a.drop i = b.drop i))) := fun e => by
      have := ih (i + 1) (by omega)
      rw [hd, hd']
      simpa [e] using this
    apply st51_0
    rw [if_pos (by omega), wsucc (by omega)]
    simp only [Int.toNat_natCast]
    clear ih hd hd'
    (repeat' (first | (refine And.intro ?_ ?_) | (refine if_go (fun q => ?_) (fun q => ?_))))
    all_goals first
      | omega
      | assumption
      | exact yes (extWorker (by first | assumption | exact of_decide_eq_true (by assumption)) (by first | assumption | exact of_decide_eq_true (by assumption)) (by first | assumption | exact of_decide_eq_true (by assumption)) (by first | assumption | exact of_decide_eq_true (by assumption)) (by first | assumption | exact of_decide_eq_true (by assumption)) (by first | assumption | exact of_decide_eq_true (by assumption)) (by first | assumption | exact of_decide_eq_true (by assumption)))
      | exact no (fun e => q (by rw [e]))
      | exact no (fun e => q (decide_eq_true (by rw [e])))
def sh51 : Shp := fun I i b l s => .ok (.one (.pv (.sc (.bool (b 0)))), [], 0)
def an51 : An (List WorkerV × List WorkerV × Unit) where
  pre t := (bWorkerS t.1)
  b _ t := decide (t.1 = t.2.1)
noncomputable def en51 : En := mkE (parsC (pL tWorker) (parsC (pL tWorker) pars0)) an51
attribute [simp] en51 an51
theorem ok51 (a : List WorkerV) (b : List WorkerV) (p0 : bWorkerS a = true) : Ok0 Tryz.prog 51 [(pL tWorker).enc a, (pL tWorker).enc b] ((.one (.pv (.sc (.bool (decide (a = b))))), [], 0) : RES).1 ((.one (.pv (.sc (.bool (decide (a = b))))), [], 0) : RES).2.1 ((.one (.pv (.sc (.bool (decide (a = b))))), [], 0) : RES).2.2 := by
  refine go51 a b fun w Xs => ?_
  refine if_go (fun h => ?_) (fun h => ?_)
  · exact lm51 a b p0 (by omega) a.length 0 rfl
  · have : a ≠ b := by intro e; subst e; exact h rfl
    simp [this]
theorem s51 {I : Ops} (hI : I = real) {e : En} (he : e = en51) : Sound Tryz.prog 51 (callE I e sh51) := by
  refine Sound.mkE ent51 hI (fun _ => rfl) ?_ he
  rintro ⟨a, b, ⟨⟩⟩ hp
  have hp : ((bWorkerS a)) = true := hp
  try simp only [Bool.and_eq_true, decide_eq_true_eq] at hp
  have p0 := hp
  exact ok51 a b p0
theorem ent73 : Enters Tryz.prog 73 := ⟨Tryz.f73, Tryz.func73, by kernel_rfl, by kernel_rfl⟩
noncomputable def Y73 (I : Ops) (K : FuncId → En) : CallsA := (Tab.calls [(74, true, callRd I (callE I (K 74) sh74)), (103, true, callRd I (inl X I (Tab.calls []) Tryz.f103)), (104, true, callRd I (callE I (K 104) sh104)), (105, true, callRd I (callE I (K 105) sh105))])
theorem tY73 {I : Ops} (hI : I = real) {K : FuncId → En} (k74 : K 74 = en74) (k104 : K 104 = en104) (k105 : K 105 = en105) : CallsOk Tryz.prog (Y73 I K) := (TabOk.calls mixed ⟨EntryOk.rd (s74 hI k74) hI, fun _ => callRd_quiet _ _, ⟨EntryOk.rd (s103 hI) hI, fun _ => callRd_quiet _ _, ⟨EntryOk.rd (s104 hI k104) hI, fun _ => callRd_quiet _ _, ⟨EntryOk.rd (s105 hI k105) hI, fun _ => callRd_quiet _ _, trivial⟩⟩⟩⟩)
theorem s73 {I : Ops} (hI : I = real) {K : FuncId → En} (k74 : K 74 = en74) (k104 : K 104 = en104) (k105 : K 105 = en105) : Sound Tryz.prog 73 (inl X I (Y73 I K) Tryz.f73) :=
  Sound.inl (Y := (Y73 I K)) xok (tY73 hI k74 k104 k105) ent73 Tryz.func73 rfl rfl hI
def szWorkerf (e : WorkerV) (m : Int) : Int := if szA szFramef e.inbox m < 0 then -1 else if szL e.counts.length (szA szFramef e.inbox m) < 0 then -1 else if szA szHeldf e.nodes (szL e.counts.length (szA szFramef e.inbox m)) < 0 then -1 else if szA szReleasef e.outs (szA szHeldf e.nodes (szL e.counts.length (szA szFramef e.inbox m))) < 0 then -1 else szA szReleasef e.outs (szA szHeldf e.nodes (szL e.counts.length (szA szFramef e.inbox m)))
theorem ent39 : Enters Tryz.prog 39 := ⟨Tryz.f39, Tryz.func39, by kernel_rfl, by kernel_rfl⟩
abbrev G39_0 (w : World) (Xs : Nat → Prop) (a : List WorkerV) (left' : Int) (i : Int) (r : RES) : Prop := WL [0, 1, 5] Tryz.prog 39 Tryz.f39 (Ent0 w Xs) (Back (Ent0 w Xs) r.1 r.2.1 r.2.2) (place (bodyOf Tryz.f39) [1,1,1,0,1,0,0] [])
  ⟨[(0, .one (.pv (.sl false 7 (tWorker.encs a)))), (1, .one (.pv (.sc (.int .i64 left')))), (5, .one (.pv (.sc (.int .i64 i))))], [], 0⟩
noncomputable def Y39 (I : Ops) (K : FuncId → En) : CallsA := (Tab.calls [(73, true, callRd I (inl X I (Y73 I K) Tryz.f73))])
theorem tY39 {I : Ops} (hI : I = real) {K : FuncId → En} (k74 : K 74 = en74) (k104 : K 104 = en104) (k105 : K 105 = en105) : CallsOk Tryz.prog (Y39 I K) := (TabOk.calls mixed ⟨EntryOk.rd (s73 hI k74 k104 k105) hI, fun _ => callRd_quiet _ _, trivial⟩)
theorem st39_0 {w : World} {Xs : Nat → Prop} (a : List WorkerV) (left' : Int) (i : Int) {r : RES} (h : (if i < (a.length : Int) then ((0 ≤ i ∧ i < (a.length : Int)) ∧ (((zFrameS ((nth a i.toNat).inbox)) = true) ∧ (if szA szFramef ((nth a i.toNat).inbox) left' < 0 then r = (.one (.pv (.sc (.int .i64 (-1)))), [], 0) else (if (IntKind.i64.wrap (szA szFramef ((nth a i.toNat).inbox) left' - (((nth a i.toNat).counts).length : Int))) < 0 then r = (.one (.pv (.sc (.int .i64 (-1)))), [], 0) else (((zHeldS ((nth a i.toNat).nodes)) = true) ∧ (if szA szHeldf ((nth a i.toNat).nodes) (IntKind.i64.wrap (szA szFramef ((nth a i.toNat).inbox) left' - (((nth a i.toNat).counts).length : Int))) < 0 then r = (.one (.pv (.sc (.int .i64 (-1)))), [], 0) else (((zReleaseS ((nth a i.toNat).outs)) = true) ∧ (if szA szReleasef ((nth a i.toNat).outs) (szA szHeldf ((nth a i.toNat).nodes) (IntKind.i64.wrap (szA szFramef ((nth a i.toNat).inbox) left' - (((nth a i.toNat).counts).length : Int)))) < 0 then r = (.one (.pv (.sc (.int .i64 (-1)))), [], 0) else G39_0 w Xs a (szA szReleasef ((nth a i.toNat).outs) (szA szHeldf ((nth a i.toNat).nodes) (IntKind.i64.wrap (szA szFramef ((nth a i.toNat).inbox) left' - (((nth a i.toNat).counts).length : Int))))) (IntKind.i64.wrap (i + 1)) r)))))))) else r = (.one (.pv (.sc (.int .i64 left'))), [], 0))) : G39_0 w Xs a left' i r := by
  obtain ⟨I, hI⟩ : ∃ I, I = real := ⟨_, rfl⟩; obtain ⟨K, k74, k104, k105⟩ : ∃ K : FuncId → En, K 74 = en74 ∧ K 104 = en104 ∧ K 105 = en105 := ⟨fun g => (lk g [(74, en74), (104, en104), (105, en105)]).getD default, rfl, rfl, rfl⟩
  unfold G39_0 WL
  obtain ⟨q0, hq0⟩ := eqv (tWorker.encs a)
  try rw [← hq0]
  have hS := And.intro hI (And.intro k74 (And.intro k104 (And.intro k105 hq0)))
  refine W_go (Y := (Y39 I K)) xok (tY39 hI k74 k104 k105) Tryz.func39 rfl 2000 _ hI ?_; (conv => arg 4; cbv)
  exact fin
theorem go39 (a : List WorkerV) (left : Int) {r : RES} (h : ∀ (w : World) (Xs : Nat → Prop), (if (IntKind.i64.wrap (left - (a.length : Int))) < 0 then r = (.one (.pv (.sc (.int .i64 (-1)))), [], 0) else G39_0 w Xs a (IntKind.i64.wrap (left - (a.length : Int))) 0 r)) : Ok0 Tryz.prog 39 [(pL tWorker).enc a, pI.enc left] r.1 r.2.1 r.2.2 := by
  obtain ⟨I, hI⟩ : ∃ I, I = real := ⟨_, rfl⟩; obtain ⟨K, k74, k104, k105⟩ : ∃ K : FuncId → En, K 74 = en74 ∧ K 104 = en104 ∧ K 105 = en105 := ⟨fun g => (lk g [(74, en74), (104, en104), (105, en105)]).getD default, rfl, rfl, rfl⟩
  show Ok0 Tryz.prog 39 [.one (.pv (.sl false 7 (tWorker.encs a))), .one (.pv (.sc (.int .i64 left)))] _ _ _
  obtain ⟨q0, hq0⟩ := eqv (tWorker.encs a)
  try rw [← hq0]
  have hS := And.intro hI (And.intro k74 (And.intro k104 (And.intro k105 hq0)))
  refine Ok0_run (Y := (Y39 I K)) xok (tY39 hI k74 k104 k105) Tryz.func39 rfl rfl rfl 2000 hI fun w Xs => ?_; (conv => arg 4; cbv)
  replace h := h w Xs
  exact fin
theorem lm39 {w : World} {Xs : Nat → Prop} (a : List WorkerV) (ha : zWorkerS a = true) : ∀ (k i : Nat) (m : Int), k + i = a.length → G39_0 w Xs a m i (rI (szS szWorkerf (a.drop i) m)) := by
  have hl := zWorkerS_len ha
  intro k
  induction k with
  | zero =>
    intro i m hk
    apply st39_0
    rw [if_neg (by omega), drop_nil (l := a) (by omega)]
    rfl
  | succ k ih =>
    intro i m hk
    have hx := zWorkerS_nth ha (i := i) (by omega)
    obtain ⟨x0, x1, x2, x3⟩ := zWorker_p hx
    have hd : a.drop i = nth a i :: a.drop (i + 1) := nth_drop (by omega)
    have no : szWorkerf (nth a i) m < 0 → rI (szS szWorkerf (a.drop i) m) = rI (-1) := fun e => by rw [hd, szS, if_pos e]
    have yes : ∀ m', szWorkerf (nth a i) m = m' → ¬ m' < 0 → G39_0 w Xs a m' ((i + 1 : Nat) : Int) (rI (szS szWorkerf (a.drop i) m)) := fun m' e e2 => by
      have := ih (i + 1) m' (by omega)
      rw [hd, szS, e, if_neg e2]
      exact this
    apply st39_0
    rw [if_pos (by omega), wsucc (by omega)]
    simp only [Int.toNat_natCast]
    clear ih hd
    (repeat' (first | (refine And.intro ?_ ?_) | (refine if_go (fun q => ?_) (fun q => ?_))))
    all_goals first
      | omega
      | assumption
      | exact zI_len (by assumption)
      | (refine yes _ ?_ ?_ <;> (unfold szWorkerf; (try unfold szL); (repeat' split) <;> first | rfl | omega))
      | (refine yes _ ?_ ?_ <;> (first | omega | (unfold szWorkerf; (try unfold szL); (repeat' split) <;> first | rfl | omega)))
      | (refine no ?_; unfold szWorkerf; (try unfold szL); (repeat' split) <;> omega)
def sh39 : Shp := fun I i b l s => .ok (.one (.pv (.sc (.int .i64 (i 0)))), [], 0)
def an39 : An (List WorkerV × Int × Unit) where
  pre t := (zWorkerS t.1)
  i _ t := szA szWorkerf t.1 t.2.1
noncomputable def en39 : En := mkE (parsC (pL tWorker) (parsC pI pars0)) an39
attribute [simp] en39 an39
theorem ok39 (a : List WorkerV) (left : Int) (p0 : zWorkerS a = true) : Ok0 Tryz.prog 39 [(pL tWorker).enc a, pI.enc left] ((.one (.pv (.sc (.int .i64 (szA szWorkerf a left)))), [], 0) : RES).1 ((.one (.pv (.sc (.int .i64 (szA szWorkerf a left)))), [], 0) : RES).2.1 ((.one (.pv (.sc (.int .i64 (szA szWorkerf a left)))), [], 0) : RES).2.2 := by
  refine go39 a left fun w Xs => ?_
  have hl := zWorkerS_len p0
  unfold szA
  (repeat' (first | (refine And.intro ?_ ?_) | (refine if_go (fun q => ?_) (fun q => ?_))))
  all_goals first
    | omega
    | (rw [if_pos (by omega)])
    | (rw [if_neg (by omega)]; exact lm39 a p0 a.length 0 _ rfl)
theorem s39 {I : Ops} (hI : I = real) {e : En} (he : e = en39) : Sound Tryz.prog 39 (callE I e sh39) := by
  refine Sound.mkE ent39 hI (fun _ => rfl) ?_ he
  rintro ⟨a, left, ⟨⟩⟩ hp
  have hp : ((zWorkerS a)) = true := hp
  try simp only [Bool.and_eq_true, decide_eq_true_eq] at hp
  have p0 := hp
  exact ok39 a left p0
end Go.Proofs.Tryz
