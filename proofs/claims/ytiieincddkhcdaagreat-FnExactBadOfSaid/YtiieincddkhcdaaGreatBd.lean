/- Contracts. -/
import Derived.Test.YtiieincddkhcdaaGreatBc
set_option linter.unusedSimpArgs false
set_option linter.unusedVariables false
namespace Go.Proofs.Tryz
open Go Go.Aix
set_option maxRecDepth 100000
set_option maxHeartbeats 4000000
theorem ent87 : Enters Tryz.prog 87 := ⟨Tryz.f87, Tryz.func87, by kernel_rfl, by kernel_rfl⟩
noncomputable def Y87 (I : Ops) (K : FuncId → En) : CallsA := (Tab.calls [(60, true, callRd I (callE I (K 60) sh60))])
theorem tY87 {I : Ops} (hI : I = real) {K : FuncId → En} (k60 : K 60 = en60) : CallsOk Tryz.prog (Y87 I K) := (TabOk.calls mixed ⟨EntryOk.rd (s60 hI k60) hI, fun _ => callRd_quiet _ _, trivial⟩)
theorem s87 {I : Ops} (hI : I = real) {K : FuncId → En} (k60 : K 60 = en60) : Sound Tryz.prog 87 (inl X I (Y87 I K) Tryz.f87) :=
  Sound.inl (Y := (Y87 I K)) xok (tY87 hI k60) ent87 Tryz.func87 rfl rfl hI
theorem ent50 : Enters Tryz.prog 50 := ⟨Tryz.f50, Tryz.func50, by kernel_rfl, by kernel_rfl⟩
abbrev G50_0 (w : World) (Xs : Nat → Prop) (a : List NodeV) (b : List NodeV) (i : Int) (r : RES) : Prop := WL [0, 1, 5] Tryz.prog 50 Tryz.f50 (Ent0 w Xs) (Back (Ent0 w Xs) r.1 r.2.1 r.2.2) (place (bodyOf Tryz.f50) [1,1,0,1,0,0] [])
  ⟨[(0, .one (.pv (.sl false 7 (tNode.encs a)))), (1, .one (.pv (.sl false 7 (tNode.encs b)))), (5, .one (.pv (.sc (.int .i64 i))))], [], 0⟩
noncomputable def Y50 (I : Ops) (K : FuncId → En) : CallsA := (Tab.calls [(87, true, callRd I (inl X I (Y87 I K) Tryz.f87))])
theorem tY50 {I : Ops} (hI : I = real) {K : FuncId → En} (k60 : K 60 = en60) : CallsOk Tryz.prog (Y50 I K) := (TabOk.calls mixed ⟨EntryOk.rd (s87 hI k60) hI, fun _ => callRd_quiet _ _, trivial⟩)
theorem st50_0 {w : World} {Xs : Nat → Prop} (a : List NodeV) (b : List NodeV) (i : Int) {r : RES} (h : (if i < (a.length : Int) then ((0 ≤ i ∧ i < (a.length : Int)) ∧ ((0 ≤ i ∧ i < (b.length : Int)) ∧ (if (nth a i.toNat).op = (nth b i.toNat).op then (if (nth a i.toNat).a = (nth b i.toNat).a then (if (nth a i.toNat).b = (nth b i.toNat).b then (if (nth a i.toNat).col = (nth b i.toNat).col then (if (nth a i.toNat).test = (nth b i.toNat).test then (if (nth a i.toNat).value = (nth b i.toNat).value then (((bI ((nth a i.toNat).cells)) = true) ∧ (if (decide (((nth a i.toNat).cells) = ((nth b i.toNat).cells))) = true then G50_0 w Xs a b (IntKind.i64.wrap (i + 1)) r else r = (.one (.pv (.sc (.bool false))), [], 0))) else r = (.one (.pv (.sc (.bool false))), [], 0)) else r = (.one (.pv (.sc (.bool false))), [], 0)) else r = (.one (.pv (.sc (.bool false))), [], 0)) else r = (.one (.pv (.sc (.bool false))), [], 0)) else r = (.one (.pv (.sc (.bool false))), [], 0)) else r = (.one (.pv (.sc (.bool false))), [], 0)))) else r = (.one (.pv (.sc (.bool true))), [], 0))) : G50_0 w Xs a b i r := by
  obtain ⟨I, hI⟩ : ∃ I, I = real := ⟨_, rfl⟩; obtain ⟨K, k60⟩ : ∃ K : FuncId → En, K 60 = en60 := ⟨fun g => (lk g [(60, en60)]).getD default, rfl⟩
  unfold G50_0 WL
  obtain ⟨q0, hq0⟩ := eqv (tNode.encs a)
  try rw [← hq0]
  obtain ⟨q1, hq1⟩ := eqv (tNode.encs b)
  try rw [← hq1]
  have hS := And.intro hI (And.intro k60 (And.intro hq0 hq1))
  refine W_go (Y := (Y50 I K)) xok (tY50 hI k60) Tryz.func50 rfl 2000 _ hI ?_; (conv => arg 4; cbv)
  exact fin
theorem go50 (a : List NodeV) (b : List NodeV) {r : RES} (h : ∀ (w : World) (Xs : Nat → Prop), (if (a.length : Int) = (b.length : Int) then G50_0 w Xs a b 0 r else r = (.one (.pv (.sc (.bool false))), [], 0))) : Ok0 Tryz.prog 50 [(pL tNode).enc a, (pL tNode).enc b] r.1 r.2.1 r.2.2 := by
  obtain ⟨I, hI⟩ : ∃ I, I = real := ⟨_, rfl⟩; obtain ⟨K, k60⟩ : ∃ K : FuncId → En, K 60 = en60 := ⟨fun g => (lk g [(60, en60)]).getD default, rfl⟩
  show Ok0 Tryz.prog 50 [.one (.pv (.sl false 7 (tNode.encs a))), .one (.pv (.sl false 7 (tNode.encs b)))] _ _ _
  obtain ⟨q0, hq0⟩ := eqv (tNode.encs a)
  try rw [← hq0]
  obtain ⟨q1, hq1⟩ := eqv (tNode.encs b)
  try rw [← hq1]
  have hS := And.intro hI (And.intro k60 (And.intro hq0 hq1))
  refine Ok0_run (Y := (Y50 I K)) xok (tY50 hI k60) Tryz.func50 rfl rfl rfl 2000 hI fun w Xs => ?_; (conv => arg 4; cbv)
  replace h := h w Xs
  exact fin
theorem lm50 {w : World} {Xs : Nat → Prop} (a b : List NodeV) (ha : bNodeS a = true) (he : a.length = b.length) : ∀ k i : Nat, k + i = a.length → G50_0 w Xs a b i (rB (decide (a.drop i = b.drop i))) := by
  have hl := bNodeS_len ha
  intro k
  induction k with
  | zero =>
    intro i hk
    apply st50_0
    rw [if_neg (by omega), drop_nil (l := a) (by omega), drop_nil (l := b) (by omega)]
    simp
  | succ k ih =>
    intro i hk
    have hx := bNodeS_nth ha (i := i) (by omega)
    have x0 := bNode_p hx
    have hd : a.drop i = nth a i :: a.drop (i + 1) := nth_drop (by omega)
    have hd' : b.drop i = nth b i :: b.drop (i + 1) := nth_drop (by omega)
    have no : nth a i ≠ nth b i → rB (decide (a.drop i = b.drop i)) = rB false := fun e => by rw [hd, hd']; simp [e]
    have yes : nth a i = nth b i → G50_0 w Xs a b ((i + 1 : Nat) : Int) (rB (decide (a.drop i = b.drop i))) := fun e => by
      have := ih (i + 1) (by omega)
      rw [hd, hd']
      simpa [e] using this
    apply st50_0
    rw [if_pos (by omega), wsucc (by omega)]
    simp only [Int.toNat_natCast]
    clear ih hd hd'
    (repeat' (first | (refine And.intro ?_ ?_) | (refine if_go (fun q => ?_) (fun q => ?_))))
    all_goals first
      | omega
      | assumption
      | exact yes (extNode (by first | assumption | exact of_decide_eq_true (by assumption)) (by first | assumption | exact of_decide_eq_true (by assumption)) (by first | assumption | exact of_decide_eq_true (by assumption)) (by first | assumption | exact of_decide_eq_true (by assumption)) (by first | assumption | exact of_decide_eq_true (by assumption)) (by first | assumption | exact of_decide_eq_true (by assumption)) (by first | assumption | exact of_decide_eq_true (by assumption)))
      | exact no (fun e => q (by rw [e]))
      | exact no (fun e => q (decide_eq_true (by rw [e])))
def sh50 : Shp := fun I i b l s => .ok (.one (.pv (.sc (.bool (b 0)))), [], 0)
def an50 : An (List NodeV × List NodeV × Unit) where
  pre t := (bNodeS t.1)
  b _ t := decide (t.1 = t.2.1)
noncomputable def en50 : En := mkE (parsC (pL tNode) (parsC (pL tNode) pars0)) an50
attribute [simp] en50 an50
theorem ok50 (a : List NodeV) (b : List NodeV) (p0 : bNodeS a = true) : Ok0 Tryz.prog 50 [(pL tNode).enc a, (pL tNode).enc b] ((.one (.pv (.sc (.bool (decide (a = b))))), [], 0) : RES).1 ((.one (.pv (.sc (.bool (decide (a = b))))), [], 0) : RES).2.1 ((.one (.pv (.sc (.bool (decide (a = b))))), [], 0) : RES).2.2 := by
  refine go50 a b fun w Xs => ?_
  refine if_go (fun h => ?_) (fun h => ?_)
  · exact lm50 a b p0 (by omega) a.length 0 rfl
  · have : a ≠ b := by intro e; subst e; exact h rfl
    simp [this]
theorem s50 {I : Ops} (hI : I = real) {e : En} (he : e = en50) : Sound Tryz.prog 50 (callE I e sh50) := by
  refine Sound.mkE ent50 hI (fun _ => rfl) ?_ he
  rintro ⟨a, b, ⟨⟩⟩ hp
  have hp : ((bNodeS a)) = true := hp
  try simp only [Bool.and_eq_true, decide_eq_true_eq] at hp
  have p0 := hp
  exact ok50 a b p0
theorem ent72 : Enters Tryz.prog 72 := ⟨Tryz.f72, Tryz.func72, by kernel_rfl, by kernel_rfl⟩
noncomputable def Y72 (I : Ops) : CallsA := (Tab.calls [(102, true, callRd I (inl X I (Tab.calls []) Tryz.f102))])
theorem tY72 {I : Ops} (hI : I = real)  : CallsOk Tryz.prog (Y72 I) := (TabOk.calls mixed ⟨EntryOk.rd (s102 hI) hI, fun _ => callRd_quiet _ _, trivial⟩)
theorem s72 {I : Ops} (hI : I = real)  : Sound Tryz.prog 72 (inl X I (Y72 I) Tryz.f72) :=
  Sound.inl (Y := (Y72 I)) xok (tY72 hI) ent72 Tryz.func72 rfl rfl hI
def szNodef (e : NodeV) (m : Int) : Int := if szL e.cells.length m < 0 then -1 else szL e.cells.length m
theorem ent38 : Enters Tryz.prog 38 := ⟨Tryz.f38, Tryz.func38, by kernel_rfl, by kernel_rfl⟩
abbrev G38_0 (w : World) (Xs : Nat → Prop) (a : List NodeV) (left' : Int) (i : Int) (r : RES) : Prop := WL [0, 1, 5] Tryz.prog 38 Tryz.f38 (Ent0 w Xs) (Back (Ent0 w Xs) r.1 r.2.1 r.2.2) (place (bodyOf Tryz.f38) [1,1,1,0,1,0,0] [])
  ⟨[(0, .one (.pv (.sl false 7 (tNode.encs a)))), (1, .one (.pv (.sc (.int .i64 left')))), (5, .one (.pv (.sc (.int .i64 i))))], [], 0⟩
noncomputable def Y38 (I : Ops) : CallsA := (Tab.calls [(72, true, callRd I (inl X I (Y72 I) Tryz.f72))])
theorem tY38 {I : Ops} (hI : I = real)  : CallsOk Tryz.prog (Y38 I) := (TabOk.calls mixed ⟨EntryOk.rd (s72 hI) hI, fun _ => callRd_quiet _ _, trivial⟩)
theorem st38_0 {w : World} {Xs : Nat → Prop} (a : List NodeV) (left' : Int) (i : Int) {r : RES} (h : (if i < (a.length : Int) then ((0 ≤ i ∧ i < (a.length : Int)) ∧ (if (IntKind.i64.wrap (left' - (((nth a i.toNat).cells).length : Int))) < 0 then r = (.one (.pv (.sc (.int .i64 (-1)))), [], 0) else G38_0 w Xs a (IntKind.i64.wrap (left' - (((nth a i.toNat).cells).length : Int))) (IntKind.i64.wrap (i + 1)) r)) else r = (.one (.pv (.sc (.int .i64 left'))), [], 0))) : G38_0 w Xs a left' i r := by
  obtain ⟨I, hI⟩ : ∃ I, I = real := ⟨_, rfl⟩
  unfold G38_0 WL
  obtain ⟨q0, hq0⟩ := eqv (tNode.encs a)
  try rw [← hq0]
  have hS := And.intro hI hq0
  refine W_go (Y := (Y38 I)) xok (tY38 hI) Tryz.func38 rfl 2000 _ hI ?_; (conv => arg 4; cbv)
  exact fin
theorem go38 (a : List NodeV) (left : Int) {r : RES} (h : ∀ (w : World) (Xs : Nat → Prop), (if (IntKind.i64.wrap (left - (a.length : Int))) < 0 then r = (.one (.pv (.sc (.int .i64 (-1)))), [], 0) else G38_0 w Xs a (IntKind.i64.wrap (left - (a.length : Int))) 0 r)) : Ok0 Tryz.prog 38 [(pL tNode).enc a, pI.enc left] r.1 r.2.1 r.2.2 := by
  obtain ⟨I, hI⟩ : ∃ I, I = real := ⟨_, rfl⟩
  show Ok0 Tryz.prog 38 [.one (.pv (.sl false 7 (tNode.encs a))), .one (.pv (.sc (.int .i64 left)))] _ _ _
  obtain ⟨q0, hq0⟩ := eqv (tNode.encs a)
  try rw [← hq0]
  have hS := And.intro hI hq0
  refine Ok0_run (Y := (Y38 I)) xok (tY38 hI) Tryz.func38 rfl rfl rfl 2000 hI fun w Xs => ?_; (conv => arg 4; cbv)
  replace h := h w Xs
  exact fin
theorem lm38 {w : World} {Xs : Nat → Prop} (a : List NodeV) (ha : zNodeS a = true) : ∀ (k i : Nat) (m : Int), k + i = a.length → G38_0 w Xs a m i (rI (szS szNodef (a.drop i) m)) := by
  have hl := zNodeS_len ha
  intro k
  induction k with
  | zero =>
    intro i m hk
    apply st38_0
    rw [if_neg (by omega), drop_nil (l := a) (by omega)]
    rfl
  | succ k ih =>
    intro i m hk
    have hx := zNodeS_nth ha (i := i) (by omega)
    have x0 := zNode_p hx
    have hd : a.drop i = nth a i :: a.drop (i + 1) := nth_drop (by omega)
    have no : szNodef (nth a i) m < 0 → rI (szS szNodef (a.drop i) m) = rI (-1) := fun e => by rw [hd, szS, if_pos e]
    have yes : ∀ m', szNodef (nth a i) m = m' → ¬ m' < 0 → G38_0 w Xs a m' ((i + 1 : Nat) : Int) (rI (szS szNodef (a.drop i) m)) := fun m' e e2 => by
      have := ih (i + 1) m' (by omega)
      rw [hd, szS, e, if_neg e2]
      exact this
    apply st38_0
    rw [if_pos (by omega), wsucc (by omega)]
    simp only [Int.toNat_natCast]
    clear ih hd
    (repeat' (first | (refine And.intro ?_ ?_) | (refine if_go (fun q => ?_) (fun q => ?_))))
    all_goals first
      | omega
      | assumption
      | exact zI_len (by assumption)
      | (refine yes _ ?_ ?_ <;> (unfold szNodef; (try unfold szL); (repeat' split) <;> first | rfl | omega))
      | (refine yes _ ?_ ?_ <;> (first | omega | (unfold szNodef; (try unfold szL); (repeat' split) <;> first | rfl | omega)))
      | (refine no ?_; unfold szNodef; (try unfold szL); (repeat' split) <;> omega)
def sh38 : Shp := fun I i b l s => .ok (.one (.pv (.sc (.int .i64 (i 0)))), [], 0)
def an38 : An (List NodeV × Int × Unit) where
  pre t := (zNodeS t.1)
  i _ t := szA szNodef t.1 t.2.1
noncomputable def en38 : En := mkE (parsC (pL tNode) (parsC pI pars0)) an38
attribute [simp] en38 an38
theorem ok38 (a : List NodeV) (left : Int) (p0 : zNodeS a = true) : Ok0 Tryz.prog 38 [(pL tNode).enc a, pI.enc left] ((.one (.pv (.sc (.int .i64 (szA szNodef a left)))), [], 0) : RES).1 ((.one (.pv (.sc (.int .i64 (szA szNodef a left)))), [], 0) : RES).2.1 ((.one (.pv (.sc (.int .i64 (szA szNodef a left)))), [], 0) : RES).2.2 := by
  refine go38 a left fun w Xs => ?_
  have hl := zNodeS_len p0
  unfold szA
  (repeat' (first | (refine And.intro ?_ ?_) | (refine if_go (fun q => ?_) (fun q => ?_))))
  all_goals first
    | omega
    | (rw [if_pos (by omega)])
    | (rw [if_neg (by omega)]; exact lm38 a p0 a.length 0 _ rfl)
theorem s38 {I : Ops} (hI : I = real) {e : En} (he : e = en38) : Sound Tryz.prog 38 (callE I e sh38) := by
  refine Sound.mkE ent38 hI (fun _ => rfl) ?_ he
  rintro ⟨a, left, ⟨⟩⟩ hp
  have hp : ((zNodeS a)) = true := hp
  try simp only [Bool.and_eq_true, decide_eq_true_eq] at hp
  have p0 := hp
  exact ok38 a left p0
theorem ent159 : Enters Tryz.prog 159 := ⟨Tryz.f159, Tryz.func159, by kernel_rfl, by kernel_rfl⟩
theorem s159 {I : Ops} (hI : I = real)  : Sound Tryz.prog 159 (inl X I (Tab.calls []) Tryz.f159) :=
  Sound.inl (Y := (Tab.calls [])) xok (TabOk.calls mixed trivial) ent159 Tryz.func159 rfl rfl hI
theorem ent128 : Enters Tryz.prog 128 := ⟨Tryz.f128, Tryz.func128, by kernel_rfl, by kernel_rfl⟩
abbrev G128_0 (w : World) (Xs : Nat → Prop) (a : List CountV) (b : List CountV) (i : Int) (r : RES) : Prop := WL [0, 1, 5] Tryz.prog 128 Tryz.f128 (Ent0 w Xs) (Back (Ent0 w Xs) r.1 r.2.1 r.2.2) (place (bodyOf Tryz.f128) [1,1,0,1,0,0] [])
  ⟨[(0, .one (.pv (.sl false 3 (tCount.encs a)))), (1, .one (.pv (.sl false 3 (tCount.encs b)))), (5, .one (.pv (.sc (.int .i64 i))))], [], 0⟩
noncomputable def Y128 (I : Ops) : CallsA := (Tab.calls [(159, true, callRd I (inl X I (Tab.calls []) Tryz.f159))])
theorem tY128 {I : Ops} (hI : I = real)  : CallsOk Tryz.prog (Y128 I) := (TabOk.calls mixed ⟨EntryOk.rd (s159 hI) hI, fun _ => callRd_quiet _ _, trivial⟩)
theorem st128_0 {w : World} {Xs : Nat → Prop} (a : List CountV) (b : List CountV) (i : Int) {r : RES} (h : (if i < (a.length : Int) then ((0 ≤ i ∧ i < (a.length : Int)) ∧ ((0 ≤ i ∧ i < (b.length : Int)) ∧ (if (nth a i.toNat).place = (nth b i.toNat).place then (if (nth a i.toNat).epoch = (nth b i.toNat).epoch then (if (nth a i.toNat).n = (nth b i.toNat).n then G128_0 w Xs a b (IntKind.i64.wrap (i + 1)) r else r = (.one (.pv (.sc (.bool false))), [], 0)) else r = (.one (.pv (.sc (.bool false))), [], 0)) else r = (.one (.pv (.sc (.bool false))), [], 0)))) else r = (.one (.pv (.sc (.bool true))), [], 0))) : G128_0 w Xs a b i r := by
  obtain ⟨I, hI⟩ : ∃ I, I = real := ⟨_, rfl⟩
  unfold G128_0 WL
  obtain ⟨q0, hq0⟩ := eqv (tCount.encs a)
  try rw [← hq0]
  obtain ⟨q1, hq1⟩ := eqv (tCount.encs b)
  try rw [← hq1]
  have hS := And.intro hI (And.intro hq0 hq1)
  refine W_go (Y := (Y128 I)) xok (tY128 hI) Tryz.func128 rfl 2000 _ hI ?_; (conv => arg 4; cbv)
  exact fin
theorem go128 (a : List CountV) (b : List CountV) {r : RES} (h : ∀ (w : World) (Xs : Nat → Prop), (if (a.length : Int) = (b.length : Int) then G128_0 w Xs a b 0 r else r = (.one (.pv (.sc (.bool false))), [], 0))) : Ok0 Tryz.prog 128 [(pL tCount).enc a, (pL tCount).enc b] r.1 r.2.1 r.2.2 := by
  obtain ⟨I, hI⟩ : ∃ I, I = real := ⟨_, rfl⟩
  show Ok0 Tryz.prog 128 [.one (.pv (.sl false 3 (tCount.encs a))), .one (.pv (.sl false 3 (tCount.encs b)))] _ _ _
  obtain ⟨q0, hq0⟩ := eqv (tCount.encs a)
  try rw [← hq0]
  obtain ⟨q1, hq1⟩ := eqv (tCount.encs b)
  try rw [← hq1]
  have hS := And.intro hI (And.intro hq0 hq1)
  refine Ok0_run (Y := (Y128 I)) xok (tY128 hI) Tryz.func128 rfl rfl rfl 2000 hI fun w Xs => ?_; (conv => arg 4; cbv)
  replace h := h w Xs
  exact fin
theorem lm128 {w : World} {Xs : Nat → Prop} (a b : List CountV) (ha : bCountS a = true) (he : a.length = b.length) : ∀ k i : Nat, k + i = a.length → G128_0 w Xs a b i (rB (decide (a.drop i = b.drop i))) := by
  have hl := bCountS_len ha
  intro k
  induction k with
  | zero =>
    intro i hk
    apply st128_0
    rw [if_neg (by omega), drop_nil (l := a) (by omega), drop_nil (l := b) (by omega)]
    simp
  | succ k ih =>
    intro i hk
    have hx := bCountS_nth ha (i := i) (by omega)
    have hd : a.drop i = nth a i :: a.drop (i + 1) := nth_drop (by omega)
    have hd' : b.drop i = nth b i :: b.drop (i + 1) := nth_drop (by omega)
    have no : nth a i ≠ nth b i → rB (decide (a.drop i = b.drop i)) = rB false := fun e => by rw [hd, hd']; simp [e]
    have yes : nth a i = nth b i → G128_0 w Xs a b ((i + 1 : Nat) : Int) (rB (decide (a.drop i = b.drop i))) := fun e => by
      have := ih (i + 1) (by omega)
      rw [hd, hd']
      simpa [e] using this
    apply st128_0
    rw [if_pos (by omega), wsucc (by omega)]
    simp only [Int.toNat_natCast]
    clear ih hd hd'
    (repeat' (first | (refine And.intro ?_ ?_) | (refine if_go (fun q => ?_) (fun q => ?_))))
    all_goals first
      | omega
      | assumption
      | exact yes (extCount (by first | assumption | exact of_decide_eq_true (by assumption)) (by first | assumption | exact of_decide_eq_true (by assumption)) (by first | assumption | exact of_decide_eq_true (by assumption)))
      | exact no (fun e => q (by rw [e]))
      | exact no (fun e => q (decide_eq_true (by rw [e])))
def sh128 : Shp := fun I i b l s => .ok (.one (.pv (.sc (.bool (b 0)))), [], 0)
def an128 : An (List CountV × List CountV × Unit) where
  pre t := (bCountS t.1)
  b _ t := decide (t.1 = t.2.1)
noncomputable def en128 : En := mkE (parsC (pL tCount) (parsC (pL tCount) pars0)) an128
attribute [simp] en128 an128
theorem ok128 (a : List CountV) (b : List CountV) (p0 : bCountS a = true) : Ok0 Tryz.prog 128 [(pL tCount).enc a, (pL tCount).enc b] ((.one (.pv (.sc (.bool (decide (a = b))))), [], 0) : RES).1 ((.one (.pv (.sc (.bool (decide (a = b))))), [], 0) : RES).2.1 ((.one (.pv (.sc (.bool (decide (a = b))))), [], 0) : RES).2.2 := by
  refine go128 a b fun w Xs => ?_
  refine if_go (fun h => ?_) (fun h => ?_)
  · exact lm128 a b p0 (by omega) a.length 0 rfl
  · have : a ≠ b := by intro e; subst e; exact h rfl
    simp [this]
theorem s128 {I : Ops} (hI : I = real) {e : En} (he : e = en128) : Sound Tryz.prog 128 (callE I e sh128) := by
  refine Sound.mkE ent128 hI (fun _ => rfl) ?_ he
  rintro ⟨a, b, ⟨⟩⟩ hp
  have hp : ((bCountS a)) = true := hp
  try simp only [Bool.and_eq_true, decide_eq_true_eq] at hp
  have p0 := hp
  exact ok128 a b p0
theorem ent103 : Enters Tryz.prog 103 := ⟨Tryz.f103, Tryz.func103, by kernel_rfl, by kernel_rfl⟩
theorem s103 {I : Ops} (hI : I = real)  : Sound Tryz.prog 103 (inl X I (Tab.calls []) Tryz.f103) :=
  Sound.inl (Y := (Tab.calls [])) xok (TabOk.calls mixed trivial) ent103 Tryz.func103 rfl rfl hI
theorem ent183 : Enters Tryz.prog 183 := ⟨Tryz.f183, Tryz.func183, by kernel_rfl, by kernel_rfl⟩
noncomputable def Y183 (I : Ops) (K : FuncId → En) : CallsA := (Tab.calls [(69, true, callRd I (callE I (K 69) sh69))])
theorem tY183 {I : Ops} (hI : I = real) {K : FuncId → En} (k69 : K 69 = en69) : CallsOk Tryz.prog (Y183 I K) := (TabOk.calls mixed ⟨EntryOk.rd (s69 hI k69) hI, fun _ => callRd_quiet _ _, trivial⟩)
theorem s183 {I : Ops} (hI : I = real) {K : FuncId → En} (k69 : K 69 = en69) : Sound Tryz.prog 183 (inl X I (Y183 I K) Tryz.f183) :=
  Sound.inl (Y := (Y183 I K)) xok (tY183 hI k69) ent183 Tryz.func183 rfl rfl hI
theorem ent177 : Enters Tryz.prog 177 := ⟨Tryz.f177, Tryz.func177, by kernel_rfl, by kernel_rfl⟩
abbrev G177_0 (w : World) (Xs : Nat → Prop) (a : List BatchV) (b : List BatchV) (i : Int) (r : RES) : Prop := WL [0, 1, 5] Tryz.prog 177 Tryz.f177 (Ent0 w Xs) (Back (Ent0 w Xs) r.1 r.2.1 r.2.2) (place (bodyOf Tryz.f177) [1,1,0,1,0,0] [])
  ⟨[(0, .one (.pv (.sl false 3 (tBatch.encs a)))), (1, .one (.pv (.sl false 3 (tBatch.encs b)))), (5, .one (.pv (.sc (.int .i64 i))))], [], 0⟩
noncomputable def Y177 (I : Ops) (K : FuncId → En) : CallsA := (Tab.calls [(183, true, callRd I (inl X I (Y183 I K) Tryz.f183))])
theorem tY177 {I : Ops} (hI : I = real) {K : FuncId → En} (k69 : K 69 = en69) : CallsOk Tryz.prog (Y177 I K) := (TabOk.calls mixed ⟨EntryOk.rd (s183 hI k69) hI, fun _ => callRd_quiet _ _, trivial⟩)
theorem st177_0 {w : World} {Xs : Nat → Prop} (a : List BatchV) (b : List BatchV) (i : Int) {r : RES} (h : (if i < (a.length : Int) then ((0 ≤ i ∧ i < (a.length : Int)) ∧ ((0 ≤ i ∧ i < (b.length : Int)) ∧ (if (nth a i.toNat).side = (nth b i.toNat).side then (if (nth a i.toNat).epoch = (nth b i.toNat).epoch then (((bEntryS ((nth a i.toNat).set)) = true) ∧ (if (decide (((nth a i.toNat).set) = ((nth b i.toNat).set))) = true then G177_0 w Xs a b (IntKind.i64.wrap (i + 1)) r else r = (.one (.pv (.sc (.bool false))), [], 0))) else r = (.one (.pv (.sc (.bool false))), [], 0)) else r = (.one (.pv (.sc (.bool false))), [], 0)))) else r = (.one (.pv (.sc (.bool true))), [], 0))) : G177_0 w Xs a b i r := by
  obtain ⟨I, hI⟩ : ∃ I, I = real := ⟨_, rfl⟩; obtain ⟨K, k69⟩ : ∃ K : FuncId → En, K 69 = en69 := ⟨fun g => (lk g [(69, en69)]).getD default, rfl⟩
  unfold G177_0 WL
  obtain ⟨q0, hq0⟩ := eqv (tBatch.encs a)
  try rw [← hq0]
  obtain ⟨q1, hq1⟩ := eqv (tBatch.encs b)
  try rw [← hq1]
  have hS := And.intro hI (And.intro k69 (And.intro hq0 hq1))
  refine W_go (Y := (Y177 I K)) xok (tY177 hI k69) Tryz.func177 rfl 2000 _ hI ?_; (conv => arg 4; cbv)
  exact fin
theorem go177 (a : List BatchV) (b : List BatchV) {r : RES} (h : ∀ (w : World) (Xs : Nat → Prop), (if (a.length : Int) = (b.length : Int) then G177_0 w Xs a b 0 r else r = (.one (.pv (.sc (.bool false))), [], 0))) : Ok0 Tryz.prog 177 [(pL tBatch).enc a, (pL tBatch).enc b] r.1 r.2.1 r.2.2 := by
  obtain ⟨I, hI⟩ : ∃ I, I = real := ⟨_, rfl⟩; obtain ⟨K, k69⟩ : ∃ K : FuncId → En, K 69 = en69 := ⟨fun g => (lk g [(69, en69)]).getD default, rfl⟩
  show Ok0 Tryz.prog 177 [.one (.pv (.sl false 3 (tBatch.encs a))), .one (.pv (.sl false 3 (tBatch.encs b)))] _ _ _
  obtain ⟨q0, hq0⟩ := eqv (tBatch.encs a)
  try rw [← hq0]
  obtain ⟨q1, hq1⟩ := eqv (tBatch.encs b)
  try rw [← hq1]
  have hS := And.intro hI (And.intro k69 (And.intro hq0 hq1))
  refine Ok0_run (Y := (Y177 I K)) xok (tY177 hI k69) Tryz.func177 rfl rfl rfl 2000 hI fun w Xs => ?_; (conv => arg 4; cbv)
  replace h := h w Xs
  exact fin
theorem lm177 {w : World} {Xs : Nat → Prop} (a b : List BatchV) (ha : bBatchS a = true) (he : a.length = b.length) : ∀ k i : Nat, k + i = a.length → G177_0 w Xs a b i (rB (decide (a.drop i = b.drop i))) := by
  have hl := bBatchS_len ha
  intro k
  induction k with
  | zero =>
    intro i hk
    apply st177_0
    rw [if_neg (by omega), drop_nil (l := a) (by omega), drop_nil (l := b) (by omega)]
    simp
  | succ k ih =>
    intro i hk
    have hx := bBatchS_nth ha (i := i) (by omega)
    have x0 := bBatch_p hx
    have hd : a.drop i = nth a i :: a.drop (i + 1) := nth_drop (by omega)
    have hd' : b.drop i = nth b i :: b.drop (i + 1) := nth_drop (by omega)
    have no : nth a i ≠ nth b i → rB (decide (a.drop i = b.drop i)) = rB false := fun e => by rw [hd, hd']; simp [e]
    have yes : nth a i = nth b i → G177_0 w Xs a b ((i + 1 : Nat) : Int) (rB (decide (a.drop i = b.drop i))) := fun e => by
      have := ih (i + 1) (by omega)
      rw [hd, hd']
      simpa [e] using this
    apply st177_0
    rw [if_pos (by omega), wsucc (by omega)]
    simp only [Int.toNat_natCast]
    clear ih hd hd'
    (repeat' (first | (refine And.intro ?_ ?_) | (refine if_go (fun q => ?_) (fun q => ?_))))
    all_goals first
      | omega
      | assumption
      | exact yes (extBatch (by first | assumption | exact of_decide_eq_true (by assumption)) (by first | assumption | exact of_decide_eq_true (by assumption)) (by first | assumption | exact of_decide_eq_true (by assumption)))
      | exact no (fun e => q (by rw [e]))
      | exact no (fun e => q (decide_eq_true (by rw [e])))
def sh177 : Shp := fun I i b l s => .ok (.one (.pv (.sc (.bool (b 0)))), [], 0)
def an177 : An (List BatchV × List BatchV × Unit) where
  pre t := (bBatchS t.1)
  b _ t := decide (t.1 = t.2.1)
noncomputable def en177 : En := mkE (parsC (pL tBatch) (parsC (pL tBatch) pars0)) an177
attribute [simp] en177 an177
theorem ok177 (a : List BatchV) (b : List BatchV) (p0 : bBatchS a = true) : Ok0 Tryz.prog 177 [(pL tBatch).enc a, (pL tBatch).enc b] ((.one (.pv (.sc (.bool (decide (a = b))))), [], 0) : RES).1 ((.one (.pv (.sc (.bool (decide (a = b))))), [], 0) : RES).2.1 ((.one (.pv (.sc (.bool (decide (a = b))))), [], 0) : RES).2.2 := by
  refine go177 a b fun w Xs => ?_
  refine if_go (fun h => ?_) (fun h => ?_)
  · exact lm177 a b p0 (by omega) a.length 0 rfl
  · have : a ≠ b := by intro e; subst e; exact h rfl
    simp [this]
theorem s177 {I : Ops} (hI : I = real) {e : En} (he : e = en177) : Sound Tryz.prog 177 (callE I e sh177) := by
  refine Sound.mkE ent177 hI (fun _ => rfl) ?_ he
  rintro ⟨a, b, ⟨⟩⟩ hp
  have hp : ((bBatchS a)) = true := hp
  try simp only [Bool.and_eq_true, decide_eq_true_eq] at hp
  have p0 := hp
  exact ok177 a b p0
theorem ent178 : Enters Tryz.prog 178 := ⟨Tryz.f178, Tryz.func178, by kernel_rfl, by kernel_rfl⟩
noncomputable def Y178 (I : Ops) (K : FuncId → En) : CallsA := (Tab.calls [(135, true, callRd I (callE I (K 135) sh135))])
theorem tY178 {I : Ops} (hI : I = real) {K : FuncId → En} (k135 : K 135 = en135) : CallsOk Tryz.prog (Y178 I K) := (TabOk.calls mixed ⟨EntryOk.rd (s135 hI k135) hI, fun _ => callRd_quiet _ _, trivial⟩)
theorem s178 {I : Ops} (hI : I = real) {K : FuncId → En} (k135 : K 135 = en135) : Sound Tryz.prog 178 (inl X I (Y178 I K) Tryz.f178) :=
  Sound.inl (Y := (Y178 I K)) xok (tY178 hI k135) ent178 Tryz.func178 rfl rfl hI
def szBatchf (e : BatchV) (m : Int) : Int := if szA szEntryf e.set m < 0 then -1 else szA szEntryf e.set m
theorem ent162 : Enters Tryz.prog 162 := ⟨Tryz.f162, Tryz.func162, by kernel_rfl, by kernel_rfl⟩
abbrev G162_0 (w : World) (Xs : Nat → Prop) (a : List BatchV) (left' : Int) (i : Int) (r : RES) : Prop := WL [0, 1, 5] Tryz.prog 162 Tryz.f162 (Ent0 w Xs) (Back (Ent0 w Xs) r.1 r.2.1 r.2.2) (place (bodyOf Tryz.f162) [1,1,1,0,1,0,0] [])
  ⟨[(0, .one (.pv (.sl false 3 (tBatch.encs a)))), (1, .one (.pv (.sc (.int .i64 left')))), (5, .one (.pv (.sc (.int .i64 i))))], [], 0⟩
noncomputable def Y162 (I : Ops) (K : FuncId → En) : CallsA := (Tab.calls [(178, true, callRd I (inl X I (Y178 I K) Tryz.f178))])
theorem tY162 {I : Ops} (hI : I = real) {K : FuncId → En} (k135 : K 135 = en135) : CallsOk Tryz.prog (Y162 I K) := (TabOk.calls mixed ⟨EntryOk.rd (s178 hI k135) hI, fun _ => callRd_quiet _ _, trivial⟩)
theorem st162_0 {w : World} {Xs : Nat → Prop} (a : List BatchV) (left' : Int) (i : Int) {r : RES} (h : (if i < (a.length : Int) then ((0 ≤ i ∧ i < (a.length : Int)) ∧ (((zEntryS ((nth a i.toNat).set)) = true) ∧ (if szA szEntryf ((nth a i.toNat).set) left' < 0 then r = (.one (.pv (.sc (.int .i64 (-1)))), [], 0) else G162_0 w Xs a (szA szEntryf ((nth a i.toNat).set) left') (IntKind.i64.wrap (i + 1)) r))) else r = (.one (.pv (.sc (.int .i64 left'))), [], 0))) : G162_0 w Xs a left' i r := by
  obtain ⟨I, hI⟩ : ∃ I, I = real := ⟨_, rfl⟩; obtain ⟨K, k135⟩ : ∃ K : FuncId → En, K 135 = en135 := ⟨fun g => (lk g [(135, en135)]).getD default, rfl⟩
  unfold G162_0 WL
  obtain ⟨q0, hq0⟩ := eqv (tBatch.encs a)
  try rw [← hq0]
  have hS := And.intro hI (And.intro k135 hq0)
  refine W_go (Y := (Y162 I K)) xok (tY162 hI k135) Tryz.func162 rfl 2000 _ hI ?_; (conv => arg 4; cbv)
  exact fin
theorem go162 (a : List BatchV) (left : Int) {r : RES} (h : ∀ (w : World) (Xs : Nat → Prop), (if (IntKind.i64.wrap (left - (a.length : Int))) < 0 then r = (.one (.pv (.sc (.int .i64 (-1)))), [], 0) else G162_0 w Xs a (IntKind.i64.wrap (left - (a.length : Int))) 0 r)) : Ok0 Tryz.prog 162 [(pL tBatch).enc a, pI.enc left] r.1 r.2.1 r.2.2 := by
  obtain ⟨I, hI⟩ : ∃ I, I = real := ⟨_, rfl⟩; obtain ⟨K, k135⟩ : ∃ K : FuncId → En, K 135 = en135 := ⟨fun g => (lk g [(135, en135)]).getD default, rfl⟩
  show Ok0 Tryz.prog 162 [.one (.pv (.sl false 3 (tBatch.encs a))), .one (.pv (.sc (.int .i64 left)))] _ _ _
  obtain ⟨q0, hq0⟩ := eqv (tBatch.encs a)
  try rw [← hq0]
  have hS := And.intro hI (And.intro k135 hq0)
  refine Ok0_run (Y := (Y162 I K)) xok (tY162 hI k135) Tryz.func162 rfl rfl rfl 2000 hI fun w Xs => ?_; (conv => arg 4; cbv)
  replace h := h w Xs
  exact fin
theorem lm162 {w : World} {Xs : Nat → Prop} (a : List BatchV) (ha : zBatchS a = true) : ∀ (k i : Nat) (m : Int), k + i = a.length → G162_0 w Xs a m i (rI (szS szBatchf (a.drop i) m)) := by
  have hl := zBatchS_len ha
  intro k
  induction k with
  | zero =>
    intro i m hk
    apply st162_0
    rw [if_neg (by omega), drop_nil (l := a) (by omega)]
    rfl
  | succ k ih =>
    intro i m hk
    have hx := zBatchS_nth ha (i := i) (by omega)
    have x0 := zBatch_p hx
    have hd : a.drop i = nth a i :: a.drop (i + 1) := nth_drop (by omega)
    have no : szBatchf (nth a i) m < 0 → rI (szS szBatchf (a.drop i) m) = rI (-1) := fun e => by rw [hd, szS, if_pos e]
    have yes : ∀ m', szBatchf (nth a i) m = m' → ¬ m' < 0 → G162_0 w Xs a m' ((i + 1 : Nat) : Int) (rI (szS szBatchf (a.drop i) m)) := fun m' e e2 => by
      have := ih (i + 1) m' (by omega)
      rw [hd, szS, e, if_neg e2]
      exact this
    apply st162_0
    rw [if_pos (by omega), wsucc (by omega)]
    simp only [Int.toNat_natCast]
    clear ih hd
    (repeat' (first | (refine And.intro ?_ ?_) | (refine if_go (fun q => ?_) (fun q => ?_))))
    all_goals first
      | omega
      | assumption
      | exact zI_len (by assumption)
      | (refine yes _ ?_ ?_ <;> (unfold szBatchf; (try unfold szL); (repeat' split) <;> first | rfl | omega))
      | (refine yes _ ?_ ?_ <;> (first | omega | (unfold szBatchf; (try unfold szL); (repeat' split) <;> first | rfl | omega)))
      | (refine no ?_; unfold szBatchf; (try unfold szL); (repeat' split) <;> omega)
def sh162 : Shp := fun I i b l s => .ok (.one (.pv (.sc (.int .i64 (i 0)))), [], 0)
def an162 : An (List BatchV × Int × Unit) where
  pre t := (zBatchS t.1)
  i _ t := szA szBatchf t.1 t.2.1
noncomputable def en162 : En := mkE (parsC (pL tBatch) (parsC pI pars0)) an162
attribute [simp] en162 an162
theorem ok162 (a : List BatchV) (left : Int) (p0 : zBatchS a = true) : Ok0 Tryz.prog 162 [(pL tBatch).enc a, pI.enc left] ((.one (.pv (.sc (.int .i64 (szA szBatchf a left)))), [], 0) : RES).1 ((.one (.pv (.sc (.int .i64 (szA szBatchf a left)))), [], 0) : RES).2.1 ((.one (.pv (.sc (.int .i64 (szA szBatchf a left)))), [], 0) : RES).2.2 := by
  refine go162 a left fun w Xs => ?_
  have hl := zBatchS_len p0
  unfold szA
  (repeat' (first | (refine And.intro ?_ ?_) | (refine if_go (fun q => ?_) (fun q => ?_))))
  all_goals first
    | omega
    | (rw [if_pos (by omega)])
    | (rw [if_neg (by omega)]; exact lm162 a p0 a.length 0 _ rfl)
theorem s162 {I : Ops} (hI : I = real) {e : En} (he : e = en162) : Sound Tryz.prog 162 (callE I e sh162) := by
  refine Sound.mkE ent162 hI (fun _ => rfl) ?_ he
  rintro ⟨a, left, ⟨⟩⟩ hp
  have hp : ((zBatchS a)) = true := hp
  try simp only [Bool.and_eq_true, decide_eq_true_eq] at hp
  have p0 := hp
  exact ok162 a left p0
end Go.Proofs.Tryz
