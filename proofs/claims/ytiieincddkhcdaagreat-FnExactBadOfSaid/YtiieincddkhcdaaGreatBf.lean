/- Contracts. -/
import Derived.Test.YtiieincddkhcdaaGreatBe
set_option linter.unusedSimpArgs false
set_option linter.unusedVariables false
namespace Go.Proofs.Tryz
open Go Go.Aix
set_option maxRecDepth 100000
set_option maxHeartbeats 4000000
theorem ent131 : Enters Tryz.prog 131 := ⟨Tryz.f131, Tryz.func131, by kernel_rfl, by kernel_rfl⟩
noncomputable def Y131 (I : Ops) (K : FuncId → En) : CallsA := (Tab.calls [(69, true, callRd I (callE I (K 69) sh69)), (128, true, callRd I (callE I (K 128) sh128))])
theorem tY131 {I : Ops} (hI : I = real) {K : FuncId → En} (k69 : K 69 = en69) (k128 : K 128 = en128) : CallsOk Tryz.prog (Y131 I K) := (TabOk.calls mixed ⟨EntryOk.rd (s69 hI k69) hI, fun _ => callRd_quiet _ _, ⟨EntryOk.rd (s128 hI k128) hI, fun _ => callRd_quiet _ _, trivial⟩⟩)
theorem s131 {I : Ops} (hI : I = real) {K : FuncId → En} (k69 : K 69 = en69) (k128 : K 128 = en128) : Sound Tryz.prog 131 (inl X I (Y131 I K) Tryz.f131) :=
  Sound.inl (Y := (Y131 I K)) xok (tY131 hI k69 k128) ent131 Tryz.func131 rfl rfl hI
theorem ent89 : Enters Tryz.prog 89 := ⟨Tryz.f89, Tryz.func89, by kernel_rfl, by kernel_rfl⟩
abbrev G89_0 (w : World) (Xs : Nat → Prop) (a : List FrameV) (b : List FrameV) (i : Int) (r : RES) : Prop := WL [0, 1, 5] Tryz.prog 89 Tryz.f89 (Ent0 w Xs) (Back (Ent0 w Xs) r.1 r.2.1 r.2.2) (place (bodyOf Tryz.f89) [1,1,0,1,0,0] [])
  ⟨[(0, .one (.pv (.sl false 6 (tFrame.encs a)))), (1, .one (.pv (.sl false 6 (tFrame.encs b)))), (5, .one (.pv (.sc (.int .i64 i))))], [], 0⟩
noncomputable def Y89 (I : Ops) (K : FuncId → En) : CallsA := (Tab.calls [(131, true, callRd I (inl X I (Y131 I K) Tryz.f131))])
theorem tY89 {I : Ops} (hI : I = real) {K : FuncId → En} (k69 : K 69 = en69) (k128 : K 128 = en128) : CallsOk Tryz.prog (Y89 I K) := (TabOk.calls mixed ⟨EntryOk.rd (s131 hI k69 k128) hI, fun _ => callRd_quiet _ _, trivial⟩)
theorem st89_0 {w : World} {Xs : Nat → Prop} (a : List FrameV) (b : List FrameV) (i : Int) {r : RES} (h : (if i < (a.length : Int) then ((0 ≤ i ∧ i < (a.length : Int)) ∧ ((0 ≤ i ∧ i < (b.length : Int)) ∧ (if (nth a i.toNat).kind = (nth b i.toNat).kind then (if (nth a i.toNat).node = (nth b i.toNat).node then (if (nth a i.toNat).side = (nth b i.toNat).side then (if (nth a i.toNat).epoch = (nth b i.toNat).epoch then (((bEntryS ((nth a i.toNat).set)) = true) ∧ (if (decide (((nth a i.toNat).set) = ((nth b i.toNat).set))) = true then (((bCountS ((nth a i.toNat).news)) = true) ∧ (if (decide (((nth a i.toNat).news) = ((nth b i.toNat).news))) = true then G89_0 w Xs a b (IntKind.i64.wrap (i + 1)) r else r = (.one (.pv (.sc (.bool false))), [], 0))) else r = (.one (.pv (.sc (.bool false))), [], 0))) else r = (.one (.pv (.sc (.bool false))), [], 0)) else r = (.one (.pv (.sc (.bool false))), [], 0)) else r = (.one (.pv (.sc (.bool false))), [], 0)) else r = (.one (.pv (.sc (.bool false))), [], 0)))) else r = (.one (.pv (.sc (.bool true))), [], 0))) : G89_0 w Xs a b i r := by
  obtain ⟨I, hI⟩ : ∃ I, I = real := ⟨_, rfl⟩; obtain ⟨K, k69, k128⟩ : ∃ K : FuncId → En, K 69 = en69 ∧ K 128 = en128 := ⟨fun g => (lk g [(69, en69), (128, en128)]).getD default, rfl, rfl⟩
  unfold G89_0 WL
  obtain ⟨q0, hq0⟩ := eqv (tFrame.encs a)
  try rw [← hq0]
  obtain ⟨q1, hq1⟩ := eqv (tFrame.encs b)
  try rw [← hq1]
  have hS := And.intro hI (And.intro k69 (And.intro k128 (And.intro hq0 hq1)))
  refine W_go (Y := (Y89 I K)) xok (tY89 hI k69 k128) Tryz.func89 rfl 2000 _ hI ?_; (conv => arg 4; cbv)
  exact fin
theorem go89 (a : List FrameV) (b : List FrameV) {r : RES} (h : ∀ (w : World) (Xs : Nat → Prop), (if (a.length : Int) = (b.length : Int) then G89_0 w Xs a b 0 r else r = (.one (.pv (.sc (.bool false))), [], 0))) : Ok0 Tryz.prog 89 [(pL tFrame).enc a, (pL tFrame).enc b] r.1 r.2.1 r.2.2 := by
  obtain ⟨I, hI⟩ : ∃ I, I = real := ⟨_, rfl⟩; obtain ⟨K, k69, k128⟩ : ∃ K : FuncId → En, K 69 = en69 ∧ K 128 = en128 := ⟨fun g => (lk g [(69, en69), (128, en128)]).getD default, rfl, rfl⟩
  show Ok0 Tryz.prog 89 [.one (.pv (.sl false 6 (tFrame.encs a))), .one (.pv (.sl false 6 (tFrame.encs b)))] _ _ _
  obtain ⟨q0, hq0⟩ := eqv (tFrame.encs a)
  try rw [← hq0]
  obtain ⟨q1, hq1⟩ := eqv (tFrame.encs b)
  try rw [← hq1]
  have hS := And.intro hI (And.intro k69 (And.intro k128 (And.intro hq0 hq1)))
  refine Ok0_run (Y := (Y89 I K)) xok (tY89 hI k69 k128) Tryz.func89 rfl rfl rfl 2000 hI fun w Xs => ?_; (conv => arg 4; cbv)
  replace h := h w Xs
  exact fin
theorem lm89 {w : World} {Xs : Nat → Prop} (a b : List FrameV) (ha : bFrameS a = true) (he : a.length = b.length) : ∀ k i : Nat, k + i = a.length → G89_0 w Xs a b i (rB (decide (a.drop i = b.drop i))) := by
  have hl := bFrameS_len ha
  intro k
  induction k with
  | zero =>
    intro i hk
    apply st89_0
    rw [if_neg (by omega), drop_nil (l := a) (by omega), drop_nil (l := b) (by omega)]
    simp
  | succ k ih =>
    intro i hk
    have hx := bFrameS_nth ha (i := i) (by omega)
    obtain ⟨x0, x1⟩ := bFrame_p hx
    have hd : a.drop i = nth a i :: a.drop (i + 1) := nth_drop (by omega)
    have hd' : b.drop i = nth b i :: b.drop (i + 1) := nth_drop (by omega)
    have no : nth a i ≠ nth b i → rB (decide (a.drop i = b.drop i)) = rB false := fun e => by rw [hd, hd']; simp [e]
    have yes : nth a i = nth b i → G89_0 w Xs a b ((i + 1 : Nat) : Int) (rB (decide (a.drop i = b.drop i))) := fun e => by
      have := ih (i + 1) (by omega)
      rw [hd, hd']
      simpa [e] using this
    apply st89_0
    rw [if_pos (by omega), wsucc (by omega)]
    simp only [Int.toNat_natCast]
    clear ih hd hd'
    (repeat' (first | (refine And.intro ?_ ?_) | (refine if_go (fun q => ?_) (fun q => ?_))))
    all_goals first
      | omega
      | assumption
      | exact yes (extFrame (by first | assumption | exact of_decide_eq_true (by assumption)) (by first | assumption | exact of_decide_eq_true (by assumption)) (by first | assumption | exact of_decide_eq_true (by assumption)) (by first | assumption | exact of_decide_eq_true (by assumption)) (by first | assumption | exact of_decide_eq_true (by assumption)) (by first | assumption | exact of_decide_eq_true (by assumption)))
      | exact no (fun e => q (by rw [e]))
      | exact no (fun e => q (decide_eq_true (by rw [e])))
def sh89 : Shp := fun I i b l s => .ok (.one (.pv (.sc (.bool (b 0)))), [], 0)
def an89 : An (List FrameV × List FrameV × Unit) where
  pre t := (bFrameS t.1)
  b _ t := decide (t.1 = t.2.1)
noncomputable def en89 : En := mkE (parsC (pL tFrame) (parsC (pL tFrame) pars0)) an89
attribute [simp] en89 an89
theorem ok89 (a : List FrameV) (b : List FrameV) (p0 : bFrameS a = true) : Ok0 Tryz.prog 89 [(pL tFrame).enc a, (pL tFrame).enc b] ((.one (.pv (.sc (.bool (decide (a = b))))), [], 0) : RES).1 ((.one (.pv (.sc (.bool (decide (a = b))))), [], 0) : RES).2.1 ((.one (.pv (.sc (.bool (decide (a = b))))), [], 0) : RES).2.2 := by
  refine go89 a b fun w Xs => ?_
  refine if_go (fun h => ?_) (fun h => ?_)
  · exact lm89 a b p0 (by omega) a.length 0 rfl
  · have : a ≠ b := by intro e; subst e; exact h rfl
    simp [this]
theorem s89 {I : Ops} (hI : I = real) {e : En} (he : e = en89) : Sound Tryz.prog 89 (callE I e sh89) := by
  refine Sound.mkE ent89 hI (fun _ => rfl) ?_ he
  rintro ⟨a, b, ⟨⟩⟩ hp
  have hp : ((bFrameS a)) = true := hp
  try simp only [Bool.and_eq_true, decide_eq_true_eq] at hp
  have p0 := hp
  exact ok89 a b p0
theorem ent106 : Enters Tryz.prog 106 := ⟨Tryz.f106, Tryz.func106, by kernel_rfl, by kernel_rfl⟩
noncomputable def Y106 (I : Ops) (K : FuncId → En) : CallsA := (Tab.calls [(135, true, callRd I (callE I (K 135) sh135)), (103, true, callRd I (inl X I (Tab.calls []) Tryz.f103))])
theorem tY106 {I : Ops} (hI : I = real) {K : FuncId → En} (k135 : K 135 = en135) : CallsOk Tryz.prog (Y106 I K) := (TabOk.calls mixed ⟨EntryOk.rd (s135 hI k135) hI, fun _ => callRd_quiet _ _, ⟨EntryOk.rd (s103 hI) hI, fun _ => callRd_quiet _ _, trivial⟩⟩)
theorem s106 {I : Ops} (hI : I = real) {K : FuncId → En} (k135 : K 135 = en135) : Sound Tryz.prog 106 (inl X I (Y106 I K) Tryz.f106) :=
  Sound.inl (Y := (Y106 I K)) xok (tY106 hI k135) ent106 Tryz.func106 rfl rfl hI
def szFramef (e : FrameV) (m : Int) : Int := if szA szEntryf e.set m < 0 then -1 else if szL e.news.length (szA szEntryf e.set m) < 0 then -1 else szL e.news.length (szA szEntryf e.set m)
theorem ent74 : Enters Tryz.prog 74 := ⟨Tryz.f74, Tryz.func74, by kernel_rfl, by kernel_rfl⟩
abbrev G74_0 (w : World) (Xs : Nat → Prop) (a : List FrameV) (left' : Int) (i : Int) (r : RES) : Prop := WL [0, 1, 5] Tryz.prog 74 Tryz.f74 (Ent0 w Xs) (Back (Ent0 w Xs) r.1 r.2.1 r.2.2) (place (bodyOf Tryz.f74) [1,1,1,0,1,0,0] [])
  ⟨[(0, .one (.pv (.sl false 6 (tFrame.encs a)))), (1, .one (.pv (.sc (.int .i64 left')))), (5, .one (.pv (.sc (.int .i64 i))))], [], 0⟩
noncomputable def Y74 (I : Ops) (K : FuncId → En) : CallsA := (Tab.calls [(106, true, callRd I (inl X I (Y106 I K) Tryz.f106))])
theorem tY74 {I : Ops} (hI : I = real) {K : FuncId → En} (k135 : K 135 = en135) : CallsOk Tryz.prog (Y74 I K) := (TabOk.calls mixed ⟨EntryOk.rd (s106 hI k135) hI, fun _ => callRd_quiet _ _, trivial⟩)
theorem st74_0 {w : World} {Xs : Nat → Prop} (a : List FrameV) (left' : Int) (i : Int) {r : RES} (h : (if i < (a.length : Int) then ((0 ≤ i ∧ i < (a.length : Int)) ∧ (((zEntryS ((nth a i.toNat).set)) = true) ∧ (if szA szEntryf ((nth a i.toNat).set) left' < 0 then r = (.one (.pv (.sc (.int .i64 (-1)))), [], 0) else (if (IntKind.i64.wrap (szA szEntryf ((nth a i.toNat).set) left' - (((nth a i.toNat).news).length : Int))) < 0 then r = (.one (.pv (.sc (.int .i64 (-1)))), [], 0) else G74_0 w Xs a (IntKind.i64.wrap (szA szEntryf ((nth a i.toNat).set) left' - (((nth a i.toNat).news).length : Int))) (IntKind.i64.wrap (i + 1)) r)))) else r = (.one (.pv (.sc (.int .i64 left'))), [], 0))) : G74_0 w Xs a left' i r := by
  obtain ⟨I, hI⟩ : ∃ I, I = real := ⟨_, rfl⟩; obtain ⟨K, k135⟩ : ∃ K : FuncId → En, K 135 = en135 := ⟨fun g => (lk g [(135, en135)]).getD default, rfl⟩
  unfold G74_0 WL
  obtain ⟨q0, hq0⟩ := eqv (tFrame.encs a)
  try rw [← hq0]
  have hS := And.intro hI (And.intro k135 hq0)
  refine W_go (Y := (Y74 I K)) xok (tY74 hI k135) Tryz.func74 rfl 2000 _ hI ?_; (conv => arg 4; cbv)
  exact fin
theorem go74 (a : List FrameV) (left : Int) {r : RES} (h : ∀ (w : World) (Xs : Nat → Prop), (if (IntKind.i64.wrap (left - (a.length : Int))) < 0 then r = (.one (.pv (.sc (.int .i64 (-1)))), [], 0) else G74_0 w Xs a (IntKind.i64.wrap (left - (a.length : Int))) 0 r)) : Ok0 Tryz.prog 74 [(pL tFrame).enc a, pI.enc left] r.1 r.2.1 r.2.2 := by
  obtain ⟨I, hI⟩ : ∃ I, I = real := ⟨_, rfl⟩; obtain ⟨K, k135⟩ : ∃ K : FuncId → En, K 135 = en135 := ⟨fun g => (lk g [(135, en135)]).getD default, rfl⟩
  show Ok0 Tryz.prog 74 [.one (.pv (.sl false 6 (tFrame.encs a))), .one (.pv (.sc (.int .i64 left)))] _ _ _
  obtain ⟨q0, hq0⟩ := eqv (tFrame.encs a)
  try rw [← hq0]
  have hS := And.intro hI (And.intro k135 hq0)
  refine Ok0_run (Y := (Y74 I K)) xok (tY74 hI k135) Tryz.func74 rfl rfl rfl 2000 hI fun w Xs => ?_; (conv => arg 4; cbv)
  replace h := h w Xs
  exact fin
theorem lm74 {w : World} {Xs : Nat → Prop} (a : List FrameV) (ha : zFrameS a = true) : ∀ (k i : Nat) (m : Int), k + i = a.length → G74_0 w Xs a m i (rI (szS szFramef (a.drop i) m)) := by
  have hl := zFrameS_len ha
  intro k
  induction k with
  | zero =>
    intro i m hk
    apply st74_0
    rw [if_neg (by omega), drop_nil (l := a) (by omega)]
    rfl
  | succ k ih =>
    intro i m hk
    have hx := zFrameS_nth ha (i := i) (by omega)
    obtain ⟨x0, x1⟩ := zFrame_p hx
    have hd : a.drop i = nth a i :: a.drop (i + 1) := nth_drop (by omega)
    have no : szFramef (nth a i) m < 0 → rI (szS szFramef (a.drop i) m) = rI (-1) := fun e => by rw [hd, szS, if_pos e]
    have yes : ∀ m', szFramef (nth a i) m = m' → ¬ m' < 0 → G74_0 w Xs a m' ((i + 1 : Nat) : Int) (rI (szS szFramef (a.drop i) m)) := fun m' e e2 => by
      have := ih (i + 1) m' (by omega)
      rw [hd, szS, e, if_neg e2]
      exact this
    apply st74_0
    rw [if_pos (by omega), wsucc (by omega)]
    simp only [Int.toNat_natCast]
    clear ih hd
    (repeat' (first | (refine And.intro ?_ ?_) | (refine if_go (fun q => ?_) (fun q => ?_))))
    all_goals first
      | omega
      | assumption
      | exact zI_len (by assumption)
      | (refine yes _ ?_ ?_ <;> (unfold szFramef; (try unfold szL); (repeat' split) <;> first | rfl | omega))
      | (refine yes _ ?_ ?_ <;> (first | omega | (unfold szFramef; (try unfold szL); (repeat' split) <;> first | rfl | omega)))
      | (refine no ?_; unfold szFramef; (try unfold szL); (repeat' split) <;> omega)
def sh74 : Shp := fun I i b l s => .ok (.one (.pv (.sc (.int .i64 (i 0)))), [], 0)
def an74 : An (List FrameV × Int × Unit) where
  pre t := (zFrameS t.1)
  i _ t := szA szFramef t.1 t.2.1
noncomputable def en74 : En := mkE (parsC (pL tFrame) (parsC pI pars0)) an74
attribute [simp] en74 an74
theorem ok74 (a : List FrameV) (left : Int) (p0 : zFrameS a = true) : Ok0 Tryz.prog 74 [(pL tFrame).enc a, pI.enc left] ((.one (.pv (.sc (.int .i64 (szA szFramef a left)))), [], 0) : RES).1 ((.one (.pv (.sc (.int .i64 (szA szFramef a left)))), [], 0) : RES).2.1 ((.one (.pv (.sc (.int .i64 (szA szFramef a left)))), [], 0) : RES).2.2 := by
  refine go74 a left fun w Xs => ?_
  have hl := zFrameS_len p0
  unfold szA
  (repeat' (first | (refine And.intro ?_ ?_) | (refine if_go (fun q => ?_) (fun q => ?_))))
  all_goals first
    | omega
    | (rw [if_pos (by omega)])
    | (rw [if_neg (by omega)]; exact lm74 a p0 a.length 0 _ rfl)
theorem s74 {I : Ops} (hI : I = real) {e : En} (he : e = en74) : Sound Tryz.prog 74 (callE I e sh74) := by
  refine Sound.mkE ent74 hI (fun _ => rfl) ?_ he
  rintro ⟨a, left, ⟨⟩⟩ hp
  have hp : ((zFrameS a)) = true := hp
  try simp only [Bool.and_eq_true, decide_eq_true_eq] at hp
  have p0 := hp
  exact ok74 a left p0
end Go.Proofs.Tryz
