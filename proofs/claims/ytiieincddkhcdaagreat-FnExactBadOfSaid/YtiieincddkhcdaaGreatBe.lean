/- Contracts. -/
import Derived.Test.YtiieincddkhcdaaGreatBd
set_option linter.unusedSimpArgs false
set_option linter.unusedVariables false
namespace Go.Proofs.Tryz
open Go Go.Aix
set_option maxRecDepth 100000
set_option maxHeartbeats 4000000
theorem ent160 : Enters Tryz.prog 160 := ⟨Tryz.f160, Tryz.func160, by kernel_rfl, by kernel_rfl⟩
noncomputable def Y160 (I : Ops) (K : FuncId → En) : CallsA := (Tab.calls [(69, true, callRd I (callE I (K 69) sh69)), (177, true, callRd I (callE I (K 177) sh177))])
theorem tY160 {I : Ops} (hI : I = real) {K : FuncId → En} (k69 : K 69 = en69) (k177 : K 177 = en177) : CallsOk Tryz.prog (Y160 I K) := (TabOk.calls mixed ⟨EntryOk.rd (s69 hI k69) hI, fun _ => callRd_quiet _ _, ⟨EntryOk.rd (s177 hI k177) hI, fun _ => callRd_quiet _ _, trivial⟩⟩)
theorem s160 {I : Ops} (hI : I = real) {K : FuncId → En} (k69 : K 69 = en69) (k177 : K 177 = en177) : Sound Tryz.prog 160 (inl X I (Y160 I K) Tryz.f160) :=
  Sound.inl (Y := (Y160 I K)) xok (tY160 hI k69 k177) ent160 Tryz.func160 rfl rfl hI
theorem ent129 : Enters Tryz.prog 129 := ⟨Tryz.f129, Tryz.func129, by kernel_rfl, by kernel_rfl⟩
abbrev G129_0 (w : World) (Xs : Nat → Prop) (a : List HeldV) (b : List HeldV) (i : Int) (r : RES) : Prop := WL [0, 1, 5] Tryz.prog 129 Tryz.f129 (Ent0 w Xs) (Back (Ent0 w Xs) r.1 r.2.1 r.2.2) (place (bodyOf Tryz.f129) [1,1,0,1,0,0] [])
  ⟨[(0, .one (.pv (.sl false 4 (tHeld.encs a)))), (1, .one (.pv (.sl false 4 (tHeld.encs b)))), (5, .one (.pv (.sc (.int .i64 i))))], [], 0⟩
noncomputable def Y129 (I : Ops) (K : FuncId → En) : CallsA := (Tab.calls [(160, true, callRd I (inl X I (Y160 I K) Tryz.f160))])
theorem tY129 {I : Ops} (hI : I = real) {K : FuncId → En} (k69 : K 69 = en69) (k177 : K 177 = en177) : CallsOk Tryz.prog (Y129 I K) := (TabOk.calls mixed ⟨EntryOk.rd (s160 hI k69 k177) hI, fun _ => callRd_quiet _ _, trivial⟩)
theorem st129_0 {w : World} {Xs : Nat → Prop} (a : List HeldV) (b : List HeldV) (i : Int) {r : RES} (h : (if i < (a.length : Int) then ((0 ≤ i ∧ i < (a.length : Int)) ∧ ((0 ≤ i ∧ i < (b.length : Int)) ∧ (((bEntryS ((nth a i.toNat).oldA)) = true) ∧ (if (decide (((nth a i.toNat).oldA) = ((nth b i.toNat).oldA))) = true then (((bEntryS ((nth a i.toNat).oldB)) = true) ∧ (if (decide (((nth a i.toNat).oldB) = ((nth b i.toNat).oldB))) = true then (((bBatchS ((nth a i.toNat).waits)) = true) ∧ (if (decide (((nth a i.toNat).waits) = ((nth b i.toNat).waits))) = true then (if (nth a i.toNat).told = (nth b i.toNat).told then G129_0 w Xs a b (IntKind.i64.wrap (i + 1)) r else r = (.one (.pv (.sc (.bool false))), [], 0)) else r = (.one (.pv (.sc (.bool false))), [], 0))) else r = (.one (.pv (.sc (.bool false))), [], 0))) else r = (.one (.pv (.sc (.bool false))), [], 0))))) else r = (.one (.pv (.sc (.bool true))), [], 0))) : G129_0 w Xs a b i r := by
  obtain ⟨I, hI⟩ : ∃ I, I = real := ⟨_, rfl⟩; obtain ⟨K, k69, k177⟩ : ∃ K : FuncId → En, K 69 = en69 ∧ K 177 = en177 := ⟨fun g => (lk g [(69, en69), (177, en177)]).getD default, rfl, rfl⟩
  unfold G129_0 WL
  obtain ⟨q0, hq0⟩ := eqv (tHeld.encs a)
  try rw [← hq0]
  obtain ⟨q1, hq1⟩ := eqv (tHeld.encs b)
  try rw [← hq1]
  have hS := And.intro hI (And.intro k69 (And.intro k177 (And.intro hq0 hq1)))
  refine W_go (Y := (Y129 I K)) xok (tY129 hI k69 k177) Tryz.func129 rfl 2000 _ hI ?_; (conv => arg 4; cbv)
  exact fin
theorem go129 (a : List HeldV) (b : List HeldV) {r : RES} (h : ∀ (w : World) (Xs : Nat → Prop), (if (a.length : Int) = (b.length : Int) then G129_0 w Xs a b 0 r else r = (.one (.pv (.sc (.bool false))), [], 0))) : Ok0 Tryz.prog 129 [(pL tHeld).enc a, (pL tHeld).enc b] r.1 r.2.1 r.2.2 := by
  obtain ⟨I, hI⟩ : ∃ I, I = real := ⟨_, rfl⟩; obtain ⟨K, k69, k177⟩ : ∃ K : FuncId → En, K 69 = en69 ∧ K 177 = en177 := ⟨fun g => (lk g [(69, en69), (177, en177)]).getD default, rfl, rfl⟩
  show Ok0 Tryz.prog 129 [.one (.pv (.sl false 4 (tHeld.encs a))), .one (.pv (.sl false 4 (tHeld.encs b)))] _ _ _
  obtain ⟨q0, hq0⟩ := eqv (tHeld.encs a)
  try rw [← hq0]
  obtain ⟨q1, hq1⟩ := eqv (tHeld.encs b)
  try rw [← hq1]
  have hS := And.intro hI (And.intro k69 (And.intro k177 (And.intro hq0 hq1)))
  refine Ok0_run (Y := (Y129 I K)) xok (tY129 hI k69 k177) Tryz.func129 rfl rfl rfl 2000 hI fun w Xs => ?_; (conv => arg 4; cbv)
  replace h := h w Xs
  exact fin
theorem lm129 {w : World} {Xs : Nat → Prop} (a b : List HeldV) (ha : bHeldS a = true) (he : a.length = b.length) : ∀ k i : Nat, k + i = a.length → G129_0 w Xs a b i (rB (decide (a.drop i = b.drop i))) := by
  have hl := bHeldS_len ha
  intro k
  induction k with
  | zero =>
    intro i hk
    apply st129_0
    rw [if_neg (by omega), drop_nil (l := a) (by omega), drop_nil (l := b) (by omega)]
    simp
  | succ k ih =>
    intro i hk
    have hx := bHeldS_nth ha (i := i) (by omega)
    obtain ⟨x0, x1, x2⟩ := bHeld_p hx
    have hd : a.drop i = nth a i :: a.drop (i + 1) := nth_drop (by omega)
    have hd' : b.drop i = nth b i :: b.drop (i + 1) := nth_drop (by omega)
    have no : nth a i ≠ nth b i → rB (decide (a.drop i = b.drop i)) = rB false := fun e => by rw [hd, hd']; simp [e]
    have yes : nth a i = nth b i → G129_0 w Xs a b ((i + 1 : Nat) : Int) (rB (decide (a.drop i = b.drop i))) := fun e => by
      have := ih (i + 1) (by omega)
      rw [hd, hd']
      simpa [e] using this
    apply st129_0
    rw [if_pos (by omega), wsucc (by omega)]
    simp only [Int.toNat_natCast]
    clear ih hd hd'
    (repeat' (first | (refine And.intro ?_ ?_) | (refine if_go (fun q => ?_) (fun q => ?_))))
    all_goals first
      | omega
      | assumption
      | exact yes (extHeld (by first | assumption | exact of_decide_eq_true (by assumption)) (by first | assumption | exact of_decide_eq_true (by assumption)) (by first | assumption | exact of_decide_eq_true (by assumption)) (by first | assumption | exact of_decide_eq_true (by assumption)))
      | exact no (fun e => q (by rw [e]))
      | exact no (fun e => q (decide_eq_true (by rw [e])))
def sh129 : Shp := fun I i b l s => .ok (.one (.pv (.sc (.bool (b 0)))), [], 0)
def an129 : An (List HeldV × List HeldV × Unit) where
  pre t := (bHeldS t.1)
  b _ t := decide (t.1 = t.2.1)
noncomputable def en129 : En := mkE (parsC (pL tHeld) (parsC (pL tHeld) pars0)) an129
attribute [simp] en129 an129
theorem ok129 (a : List HeldV) (b : List HeldV) (p0 : bHeldS a = true) : Ok0 Tryz.prog 129 [(pL tHeld).enc a, (pL tHeld).enc b] ((.one (.pv (.sc (.bool (decide (a = b))))), [], 0) : RES).1 ((.one (.pv (.sc (.bool (decide (a = b))))), [], 0) : RES).2.1 ((.one (.pv (.sc (.bool (decide (a = b))))), [], 0) : RES).2.2 := by
  refine go129 a b fun w Xs => ?_
  refine if_go (fun h => ?_) (fun h => ?_)
  · exact lm129 a b p0 (by omega) a.length 0 rfl
  · have : a ≠ b := by intro e; subst e; exact h rfl
    simp [this]
theorem s129 {I : Ops} (hI : I = real) {e : En} (he : e = en129) : Sound Tryz.prog 129 (callE I e sh129) := by
  refine Sound.mkE ent129 hI (fun _ => rfl) ?_ he
  rintro ⟨a, b, ⟨⟩⟩ hp
  have hp : ((bHeldS a)) = true := hp
  try simp only [Bool.and_eq_true, decide_eq_true_eq] at hp
  have p0 := hp
  exact ok129 a b p0
theorem ent133 : Enters Tryz.prog 133 := ⟨Tryz.f133, Tryz.func133, by kernel_rfl, by kernel_rfl⟩
noncomputable def Y133 (I : Ops) (K : FuncId → En) : CallsA := (Tab.calls [(135, true, callRd I (callE I (K 135) sh135)), (162, true, callRd I (callE I (K 162) sh162))])
theorem tY133 {I : Ops} (hI : I = real) {K : FuncId → En} (k135 : K 135 = en135) (k162 : K 162 = en162) : CallsOk Tryz.prog (Y133 I K) := (TabOk.calls mixed ⟨EntryOk.rd (s135 hI k135) hI, fun _ => callRd_quiet _ _, ⟨EntryOk.rd (s162 hI k162) hI, fun _ => callRd_quiet _ _, trivial⟩⟩)
theorem s133 {I : Ops} (hI : I = real) {K : FuncId → En} (k135 : K 135 = en135) (k162 : K 162 = en162) : Sound Tryz.prog 133 (inl X I (Y133 I K) Tryz.f133) :=
  Sound.inl (Y := (Y133 I K)) xok (tY133 hI k135 k162) ent133 Tryz.func133 rfl rfl hI
def szHeldf (e : HeldV) (m : Int) : Int := if szA szEntryf e.oldA m < 0 then -1 else if szA szEntryf e.oldB (szA szEntryf e.oldA m) < 0 then -1 else if szA szBatchf e.waits (szA szEntryf e.oldB (szA szEntryf e.oldA m)) < 0 then -1 else szA szBatchf e.waits (szA szEntryf e.oldB (szA szEntryf e.oldA m))
theorem ent104 : Enters Tryz.prog 104 := ⟨Tryz.f104, Tryz.func104, by kernel_rfl, by kernel_rfl⟩
abbrev G104_0 (w : World) (Xs : Nat → Prop) (a : List HeldV) (left' : Int) (i : Int) (r : RES) : Prop := WL [0, 1, 5] Tryz.prog 104 Tryz.f104 (Ent0 w Xs) (Back (Ent0 w Xs) r.1 r.2.1 r.2.2) (place (bodyOf Tryz.f104) [1,1,1,0,1,0,0] [])
  ⟨[(0, .one (.pv (.sl false 4 (tHeld.encs a)))), (1, .one (.pv (.sc (.int .i64 left')))), (5, .one (.pv (.sc (.int .i64 i))))], [], 0⟩
noncomputable def Y104 (I : Ops) (K : FuncId → En) : CallsA := (Tab.calls [(133, true, callRd I (inl X I (Y133 I K) Tryz.f133))])
theorem tY104 {I : Ops} (hI : I = real) {K : FuncId → En} (k135 : K 135 = en135) (k162 : K 162 = en162) : CallsOk Tryz.prog (Y104 I K) := (TabOk.calls mixed ⟨EntryOk.rd (s133 hI k135 k162) hI, fun _ => callRd_quiet _ _, trivial⟩)
theorem st104_0 {w : World} {Xs : Nat → Prop} (a : List HeldV) (left' : Int) (i : Int) {r : RES} (h : (if i < (a.length : Int) then ((0 ≤ i ∧ i < (a.length : Int)) ∧ (((zEntryS ((nth a i.toNat).oldA)) = true) ∧ (if szA szEntryf ((nth a i.toNat).oldA) left' < 0 then r = (.one (.pv (.sc (.int .i64 (-1)))), [], 0) else (((zEntryS ((nth a i.toNat).oldB)) = true) ∧ (if szA szEntryf ((nth a i.toNat).oldB) (szA szEntryf ((nth a i.toNat).oldA) left') < 0 then r = (.one (.pv (.sc (.int .i64 (-1)))), [], 0) else (((zBatchS ((nth a i.toNat).waits)) = true) ∧ (if szA szBatchf ((nth a i.toNat).waits) (szA szEntryf ((nth a i.toNat).oldB) (szA szEntryf ((nth a i.toNat).oldA) left')) < 0 then r = (.one (.pv (.sc (.int .i64 (-1)))), [], 0) else G104_0 w Xs a (szA szBatchf ((nth a i.toNat).waits) (szA szEntryf ((nth a i.toNat).oldB) (szA szEntryf ((nth a i.toNat).oldA) left'))) (IntKind.i64.wrap (i + 1)) r))))))) else r = (.one (.pv (.sc (.int .i64 left'))), [], 0))) : G104_0 w Xs a left' i r := by
  obtain ⟨I, hI⟩ : ∃ I, I = real := ⟨_, rfl⟩; obtain ⟨K, k135, k162⟩ : ∃ K : FuncId → En, K 135 = en135 ∧ K 162 = en162 := ⟨fun g => (lk g [(135, en135), (162, en162)]).getD default, rfl, rfl⟩
  unfold G104_0 WL
  obtain ⟨q0, hq0⟩ := eqv (tHeld.encs a)
  try rw [← hq0]
  have hS := And.intro hI (And.intro k135 (And.intro k162 hq0))
  refine W_go (Y := (Y104 I K)) xok (tY104 hI k135 k162) Tryz.func104 rfl 2000 _ hI ?_; (conv => arg 4; cbv)
  exact fin
theorem go104 (a : List HeldV) (left : Int) {r : RES} (h : ∀ (w : World) (Xs : Nat → Prop), (if (IntKind.i64.wrap (left - (a.length : Int))) < 0 then r = (.one (.pv (.sc (.int .i64 (-1)))), [], 0) else G104_0 w Xs a (IntKind.i64.wrap (left - (a.length : Int))) 0 r)) : Ok0 Tryz.prog 104 [(pL tHeld).enc a, pI.enc left] r.1 r.2.1 r.2.2 := by
  obtain ⟨I, hI⟩ : ∃ I, I = real := ⟨_, rfl⟩; obtain ⟨K, k135, k162⟩ : ∃ K : FuncId → En, K 135 = en135 ∧ K 162 = en162 := ⟨fun g => (lk g [(135, en135), (162, en162)]).getD default, rfl, rfl⟩
  show Ok0 Tryz.prog 104 [.one (.pv (.sl false 4 (tHeld.encs a))), .one (.pv (.sc (.int .i64 left)))] _ _ _
  obtain ⟨q0, hq0⟩ := eqv (tHeld.encs a)
  try rw [← hq0]
  have hS := And.intro hI (And.intro k135 (And.intro k162 hq0))
  refine Ok0_run (Y := (Y104 I K)) xok (tY104 hI k135 k162) Tryz.func104 rfl rfl rfl 2000 hI fun w Xs => ?_; (conv => arg 4; cbv)
  replace h := h w Xs
  exact fin
theorem lm104 {w : World} {Xs : Nat → Prop} (a : List HeldV) (ha : zHeldS a = true) : ∀ (k i : Nat) (m : Int), k + i = a.length → G104_0 w Xs a m i (rI (szS szHeldf (a.drop i) m)) := by
  have hl := zHeldS_len ha
  intro k
  induction k with
  | zero =>
    intro i m hk
    apply st104_0
    rw [if_neg (by omega), drop_nil (l := a) (by omega)]
    rfl
  | succ k ih =>
    intro i m hk
    have hx := zHeldS_nth ha (i := i) (by omega)
    obtain ⟨x0, x1, x2⟩ := zHeld_p hx
    have hd : a.drop i = nth a i :: a.drop (i + 1) := nth_drop (by omega)
    have no : szHeldf (nth a i) m < 0 → rI (szS szHeldf (a.drop i) m) = rI (-1) := fun e => by rw [hd, szS, if_pos e]
    have yes : ∀ m', szHeldf (nth a i) m = m' → ¬ m' < 0 → G104_0 w Xs a m' ((i + 1 : Nat) : Int) (rI (szS szHeldf (a.drop i) m)) := fun m' e e2 => by
      have := ih (i + 1) m' (by omega)
      rw [hd, szS, e, if_neg e2]
      exact this
    apply st104_0
    rw [if_pos (by omega), wsucc (by omega)]
    simp only [Int.toNat_natCast]
    clear ih hd
    (repeat' (first | (refine And.intro ?_ ?_) | (refine if_go (fun q => ?_) (fun q => ?_))))
    all_goals first
      | omega
      | assumption
      | exact zI_len (by assumption)
      | (refine yes _ ?_ ?_ <;> (unfold szHeldf; (try unfold szL); (repeat' split) <;> first | rfl | omega))
      | (refine yes _ ?_ ?_ <;> (first | omega | (unfold szHeldf; (try unfold szL); (repeat' split) <;> first | rfl | omega)))
      | (refine no ?_; unfold szHeldf; (try unfold szL); (repeat' split) <;> omega)
def sh104 : Shp := fun I i b l s => .ok (.one (.pv (.sc (.int .i64 (i 0)))), [], 0)
def an104 : An (List HeldV × Int × Unit) where
  pre t := (zHeldS t.1)
  i _ t := szA szHeldf t.1 t.2.1
noncomputable def en104 : En := mkE (parsC (pL tHeld) (parsC pI pars0)) an104
attribute [simp] en104 an104
theorem ok104 (a : List HeldV) (left : Int) (p0 : zHeldS a = true) : Ok0 Tryz.prog 104 [(pL tHeld).enc a, pI.enc left] ((.one (.pv (.sc (.int .i64 (szA szHeldf a left)))), [], 0) : RES).1 ((.one (.pv (.sc (.int .i64 (szA szHeldf a left)))), [], 0) : RES).2.1 ((.one (.pv (.sc (.int .i64 (szA szHeldf a left)))), [], 0) : RES).2.2 := by
  refine go104 a left fun w Xs => ?_
  have hl := zHeldS_len p0
  unfold szA
  (repeat' (first | (refine And.intro ?_ ?_) | (refine if_go (fun q => ?_) (fun q => ?_))))
  all_goals first
    | omega
    | (rw [if_pos (by omega)])
    | (rw [if_neg (by omega)]; exact lm104 a p0 a.length 0 _ rfl)
theorem s104 {I : Ops} (hI : I = real) {e : En} (he : e = en104) : Sound Tryz.prog 104 (callE I e sh104) := by
  refine Sound.mkE ent104 hI (fun _ => rfl) ?_ he
  rintro ⟨a, left, ⟨⟩⟩ hp
  have hp : ((zHeldS a)) = true := hp
  try simp only [Bool.and_eq_true, decide_eq_true_eq] at hp
  have p0 := hp
  exact ok104 a left p0
theorem ent161 : Enters Tryz.prog 161 := ⟨Tryz.f161, Tryz.func161, by kernel_rfl, by kernel_rfl⟩
noncomputable def Y161 (I : Ops) (K : FuncId → En) : CallsA := (Tab.calls [(69, true, callRd I (callE I (K 69) sh69))])
theorem tY161 {I : Ops} (hI : I = real) {K : FuncId → En} (k69 : K 69 = en69) : CallsOk Tryz.prog (Y161 I K) := (TabOk.calls mixed ⟨EntryOk.rd (s69 hI k69) hI, fun _ => callRd_quiet _ _, trivial⟩)
theorem s161 {I : Ops} (hI : I = real) {K : FuncId → En} (k69 : K 69 = en69) : Sound Tryz.prog 161 (inl X I (Y161 I K) Tryz.f161) :=
  Sound.inl (Y := (Y161 I K)) xok (tY161 hI k69) ent161 Tryz.func161 rfl rfl hI
theorem ent130 : Enters Tryz.prog 130 := ⟨Tryz.f130, Tryz.func130, by kernel_rfl, by kernel_rfl⟩
abbrev G130_0 (w : World) (Xs : Nat → Prop) (a : List ReleaseV) (b : List ReleaseV) (i : Int) (r : RES) : Prop := WL [0, 1, 5] Tryz.prog 130 Tryz.f130 (Ent0 w Xs) (Back (Ent0 w Xs) r.1 r.2.1 r.2.2) (place (bodyOf Tryz.f130) [1,1,0,1,0,0] [])
  ⟨[(0, .one (.pv (.sl false 3 (tRelease.encs a)))), (1, .one (.pv (.sl false 3 (tRelease.encs b)))), (5, .one (.pv (.sc (.int .i64 i))))], [], 0⟩
noncomputable def Y130 (I : Ops) (K : FuncId → En) : CallsA := (Tab.calls [(161, true, callRd I (inl X I (Y161 I K) Tryz.f161))])
theorem tY130 {I : Ops} (hI : I = real) {K : FuncId → En} (k69 : K 69 = en69) : CallsOk Tryz.prog (Y130 I K) := (TabOk.calls mixed ⟨EntryOk.rd (s161 hI k69) hI, fun _ => callRd_quiet _ _, trivial⟩)
theorem st130_0 {w : World} {Xs : Nat → Prop} (a : List ReleaseV) (b : List ReleaseV) (i : Int) {r : RES} (h : (if i < (a.length : Int) then ((0 ≤ i ∧ i < (a.length : Int)) ∧ ((0 ≤ i ∧ i < (b.length : Int)) ∧ (if (nth a i.toNat).node = (nth b i.toNat).node then (if (nth a i.toNat).epoch = (nth b i.toNat).epoch then (((bEntryS ((nth a i.toNat).set)) = true) ∧ (if (decide (((nth a i.toNat).set) = ((nth b i.toNat).set))) = true then G130_0 w Xs a b (IntKind.i64.wrap (i + 1)) r else r = (.one (.pv (.sc (.bool false))), [], 0))) else r = (.one (.pv (.sc (.bool false))), [], 0)) else r = (.one (.pv (.sc (.bool false))), [], 0)))) else r = (.one (.pv (.sc (.bool true))), [], 0))) : G130_0 w Xs a b i r := by
  obtain ⟨I, hI⟩ : ∃ I, I = real := ⟨_, rfl⟩; obtain ⟨K, k69⟩ : ∃ K : FuncId → En, K 69 = en69 := ⟨fun g => (lk g [(69, en69)]).getD default, rfl⟩
  unfold G130_0 WL
  obtain ⟨q0, hq0⟩ := eqv (tRelease.encs a)
  try rw [← hq0]
  obtain ⟨q1, hq1⟩ := eqv (tRelease.encs b)
  try rw [← hq1]
  have hS := And.intro hI (And.intro k69 (And.intro hq0 hq1))
  refine W_go (Y := (Y130 I K)) xok (tY130 hI k69) Tryz.func130 rfl 2000 _ hI ?_; (conv => arg 4; cbv)
  exact fin
theorem go130 (a : List ReleaseV) (b : List ReleaseV) {r : RES} (h : ∀ (w : World) (Xs : Nat → Prop), (if (a.length : Int) = (b.length : Int) then G130_0 w Xs a b 0 r else r = (.one (.pv (.sc (.bool false))), [], 0))) : Ok0 Tryz.prog 130 [(pL tRelease).enc a, (pL tRelease).enc b] r.1 r.2.1 r.2.2 := by
  obtain ⟨I, hI⟩ : ∃ I, I = real := ⟨_, rfl⟩; obtain ⟨K, k69⟩ : ∃ K : FuncId → En, K 69 = en69 := ⟨fun g => (lk g [(69, en69)]).getD default, rfl⟩
  show Ok0 Tryz.prog 130 [.one (.pv (.sl false 3 (tRelease.encs a))), .one (.pv (.sl false 3 (tRelease.encs b)))] _ _ _
  obtain ⟨q0, hq0⟩ := eqv (tRelease.encs a)
  try rw [← hq0]
  obtain ⟨q1, hq1⟩ := eqv (tRelease.encs b)
  try rw [← hq1]
  have hS := And.intro hI (And.intro k69 (And.intro hq0 hq1))
  refine Ok0_run (Y := (Y130 I K)) xok (tY130 hI k69) Tryz.func130 rfl rfl rfl 2000 hI fun w Xs => ?_; (conv => arg 4; cbv)
  replace h := h w Xs
  exact fin
theorem lm130 {w : World} {Xs : Nat → Prop} (a b : List ReleaseV) (ha : bReleaseS a = true) (he : a.length = b.length) : ∀ k i : Nat, k + i = a.length → G130_0 w Xs a b i (rB (decide (a.drop i = b.drop i))) := by
  have hl := bReleaseS_len ha
  intro k
  induction k with
  | zero =>
    intro i hk
    apply st130_0
    rw [if_neg (by omega), drop_nil (l := a) (by omega), drop_nil (l := b) (by omega)]
    simp
  | succ k ih =>
    intro i hk
    have hx := bReleaseS_nth ha (i := i) (by omega)
    have x0 := bRelease_p hx
    have hd : a.drop i = nth a i :: a.drop (i + 1) := nth_drop (by omega)
    have hd' : b.drop i = nth b i :: b.drop (i + 1) := nth_drop (by omega)
    have no : nth a i ≠ nth b i → rB (decide (a.drop i = b.drop i)) = rB false := fun e => by rw [hd, hd']; simp [e]
    have yes : nth a i = nth b i → G130_0 w Xs a b ((i + 1 : Nat) : Int) (rB (decide (a.drop i = b.drop i))) := fun e => by
      have := ih (i + 1) (by omega)
      rw [hd, hd']
      simpa [e] using this
    apply st130_0
    rw [if_pos (by omega), wsucc (by omega)]
    simp only [Int.toNat_natCast]
    clear ih hd hd'
    (repeat' (first | (refine And.intro ?_ ?_) | (refine if_go (fun q => ?_) (fun q => ?_))))
    all_goals first
      | omega
      | assumption
      | exact yes (extRelease (by first | assumption | exact of_decide_eq_true (by assumption)) (by first | assumption | exact of_decide_eq_true (by assumption)) (by first | assumption | exact of_decide_eq_true (by assumption)))
      | exact no (fun e => q (by rw [e]))
      | exact no (fun e => q (decide_eq_true (by rw [e])))
def sh130 : Shp := fun I i b l s => .ok (.one (.pv (.sc (.bool (b 0)))), [], 0)
def an130 : An (List ReleaseV × List ReleaseV × Unit) where
  pre t := (bReleaseS t.1)
  b _ t := decide (t.1 = t.2.1)
noncomputable def en130 : En := mkE (parsC (pL tRelease) (parsC (pL tRelease) pars0)) an130
attribute [simp] en130 an130
theorem ok130 (a : List ReleaseV) (b : List ReleaseV) (p0 : bReleaseS a = true) : Ok0 Tryz.prog 130 [(pL tRelease).enc a, (pL tRelease).enc b] ((.one (.pv (.sc (.bool (decide (a = b))))), [], 0) : RES).1 ((.one (.pv (.sc (.bool (decide (a = b))))), [], 0) : RES).2.1 ((.one (.pv (.sc (.bool (decide (a = b))))), [], 0) : RES).2.2 := by
  refine go130 a b fun w Xs => ?_
  refine if_go (fun h => ?_) (fun h => ?_)
  · exact lm130 a b p0 (by omega) a.length 0 rfl
  · have : a ≠ b := by intro e; subst e; exact h rfl
    simp [this]
theorem s130 {I : Ops} (hI : I = real) {e : En} (he : e = en130) : Sound Tryz.prog 130 (callE I e sh130) := by
  refine Sound.mkE ent130 hI (fun _ => rfl) ?_ he
  rintro ⟨a, b, ⟨⟩⟩ hp
  have hp : ((bReleaseS a)) = true := hp
  try simp only [Bool.and_eq_true, decide_eq_true_eq] at hp
  have p0 := hp
  exact ok130 a b p0
theorem ent134 : Enters Tryz.prog 134 := ⟨Tryz.f134, Tryz.func134, by kernel_rfl, by kernel_rfl⟩
noncomputable def Y134 (I : Ops) (K : FuncId → En) : CallsA := (Tab.calls [(135, true, callRd I (callE I (K 135) sh135))])
theorem tY134 {I : Ops} (hI : I = real) {K : FuncId → En} (k135 : K 135 = en135) : CallsOk Tryz.prog (Y134 I K) := (TabOk.calls mixed ⟨EntryOk.rd (s135 hI k135) hI, fun _ => callRd_quiet _ _, trivial⟩)
theorem s134 {I : Ops} (hI : I = real) {K : FuncId → En} (k135 : K 135 = en135) : Sound Tryz.prog 134 (inl X I (Y134 I K) Tryz.f134) :=
  Sound.inl (Y := (Y134 I K)) xok (tY134 hI k135) ent134 Tryz.func134 rfl rfl hI
def szReleasef (e : ReleaseV) (m : Int) : Int := if szA szEntryf e.set m < 0 then -1 else szA szEntryf e.set m
theorem ent105 : Enters Tryz.prog 105 := ⟨Tryz.f105, Tryz.func105, by kernel_rfl, by kernel_rfl⟩
abbrev G105_0 (w : World) (Xs : Nat → Prop) (a : List ReleaseV) (left' : Int) (i : Int) (r : RES) : Prop := WL [0, 1, 5] Tryz.prog 105 Tryz.f105 (Ent0 w Xs) (Back (Ent0 w Xs) r.1 r.2.1 r.2.2) (place (bodyOf Tryz.f105) [1,1,1,0,1,0,0] [])
  ⟨[(0, .one (.pv (.sl false 3 (tRelease.encs a)))), (1, .one (.pv (.sc (.int .i64 left')))), (5, .one (.pv (.sc (.int .i64 i))))], [], 0⟩
noncomputable def Y105 (I : Ops) (K : FuncId → En) : CallsA := (Tab.calls [(134, true, callRd I (inl X I (Y134 I K) Tryz.f134))])
theorem tY105 {I : Ops} (hI : I = real) {K : FuncId → En} (k135 : K 135 = en135) : CallsOk Tryz.prog (Y105 I K) := (TabOk.calls mixed ⟨EntryOk.rd (s134 hI k135) hI, fun _ => callRd_quiet _ _, trivial⟩)
theorem st105_0 {w : World} {Xs : Nat → Prop} (a : List ReleaseV) (left' : Int) (i : Int) {r : RES} (h : (if i < (a.length : Int) then ((0 ≤ i ∧ i < (a.length : Int)) ∧ (((zEntryS ((nth a i.toNat).set)) = true) ∧ (if szA szEntryf ((nth a i.toNat).set) left' < 0 then r = (.one (.pv (.sc (.int .i64 (-1)))), [], 0) else G105_0 w Xs a (szA szEntryf ((nth a i.toNat).set) left') (IntKind.i64.wrap (i + 1)) r))) else r = (.one (.pv (.sc (.int .i64 left'))), [], 0))) : G105_0 w Xs a left' i r := by
  obtain ⟨I, hI⟩ : ∃ I, I = real := ⟨_, rfl⟩; obtain ⟨K, k135⟩ : ∃ K : FuncId → En, K 135 = en135 := ⟨fun g => (lk g [(135, en135)]).getD default, rfl⟩
  unfold G105_0 WL
  obtain ⟨q0, hq0⟩ := eqv (tRelease.encs a)
  try rw [← hq0]
  have hS := And.intro hI (And.intro k135 hq0)
  refine W_go (Y := (Y105 I K)) xok (tY105 hI k135) Tryz.func105 rfl 2000 _ hI ?_; (conv => arg 4; cbv)
  exact fin
theorem go105 (a : List ReleaseV) (left : Int) {r : RES} (h : ∀ (w : World) (Xs : Nat → Prop), (if (IntKind.i64.wrap (left - (a.length : Int))) < 0 then r = (.one (.pv (.sc (.int .i64 (-1)))), [], 0) else G105_0 w Xs a (IntKind.i64.wrap (left - (a.length : Int))) 0 r)) : Ok0 Tryz.prog 105 [(pL tRelease).enc a, pI.enc left] r.1 r.2.1 r.2.2 := by
  obtain ⟨I, hI⟩ : ∃ I, I = real := ⟨_, rfl⟩; obtain ⟨K, k135⟩ : ∃ K : FuncId → En, K 135 = en135 := ⟨fun g => (lk g [(135, en135)]).getD default, rfl⟩
  show Ok0 Tryz.prog 105 [.one (.pv (.sl false 3 (tRelease.encs a))), .one (.pv (.sc (.int .i64 left)))] _ _ _
  obtain ⟨q0, hq0⟩ := eqv (tRelease.encs a)
  try rw [← hq0]
  have hS := And.intro hI (And.intro k135 hq0)
  refine Ok0_run (Y := (Y105 I K)) xok (tY105 hI k135) Tryz.func105 rfl rfl rfl 2000 hI fun w Xs => ?_; (conv => arg 4; cbv)
  replace h := h w Xs
  exact fin
theorem lm105 {w : World} {Xs : Nat → Prop} (a : List ReleaseV) (ha : zReleaseS a = true) : ∀ (k i : Nat) (m : Int), k + i = a.length → G105_0 w Xs a m i (rI (szS szReleasef (a.drop i) m)) := by
  have hl := zReleaseS_len ha
  intro k
  induction k with
  | zero =>
    intro i m hk
    apply st105_0
    rw [if_neg (by omega), drop_nil (l := a) (by omega)]
    rfl
  | succ k ih =>
    intro i m hk
    have hx := zReleaseS_nth ha (i := i) (by omega)
    have x0 := zRelease_p hx
    have hd : a.drop i = nth a i :: a.drop (i + 1) := nth_drop (by omega)
    have no : szReleasef (nth a i) m < 0 → rI (szS szReleasef (a.drop i) m) = rI (-1) := fun e => by rw [hd, szS, if_pos e]
    have yes : ∀ m', szReleasef (nth a i) m = m' → ¬ m' < 0 → G105_0 w Xs a m' ((i + 1 : Nat) : Int) (rI (szS szReleasef (a.drop i) m)) := fun m' e e2 => by
      have := ih (i + 1) m' (by omega)
      rw [hd, szS, e, if_neg e2]
      exact this
    apply st105_0
    rw [if_pos (by omega), wsucc (by omega)]
    simp only [Int.toNat_natCast]
    clear ih hd
    (repeat' (first | (refine And.intro ?_ ?_) | (refine if_go (fun q => ?_) (fun q => ?_))))
    all_goals first
      | omega
      | assumption
      | exact zI_len (by assumption)
      | (refine yes _ ?_ ?_ <;> (unfold szReleasef; (try unfold szL); (repeat' split) <;> first | rfl | omega))
      | (refine yes _ ?_ ?_ <;> (first | omega | (unfold szReleasef; (try unfold szL); (repeat' split) <;> first | rfl | omega)))
      | (refine no ?_; unfold szReleasef; (try unfold szL); (repeat' split) <;> omega)
def sh105 : Shp := fun I i b l s => .ok (.one (.pv (.sc (.int .i64 (i 0)))), [], 0)
def an105 : An (List ReleaseV × Int × Unit) where
  pre t := (zReleaseS t.1)
  i _ t := szA szReleasef t.1 t.2.1
noncomputable def en105 : En := mkE (parsC (pL tRelease) (parsC pI pars0)) an105
attribute [simp] en105 an105
theorem ok105 (a : List ReleaseV) (left : Int) (p0 : zReleaseS a = true) : Ok0 Tryz.prog 105 [(pL tRelease).enc a, pI.enc left] ((.one (.pv (.sc (.int .i64 (szA szReleasef a left)))), [], 0) : RES).1 ((.one (.pv (.sc (.int .i64 (szA szReleasef a left)))), [], 0) : RES).2.1 ((.one (.pv (.sc (.int .i64 (szA szReleasef a left)))), [], 0) : RES).2.2 := by
  refine go105 a left fun w Xs => ?_
  have hl := zReleaseS_len p0
  unfold szA
  (repeat' (first | (refine And.intro ?_ ?_) | (refine if_go (fun q => ?_) (fun q => ?_))))
  all_goals first
    | omega
    | (rw [if_pos (by omega)])
    | (rw [if_neg (by omega)]; exact lm105 a p0 a.length 0 _ rfl)
theorem s105 {I : Ops} (hI : I = real) {e : En} (he : e = en105) : Sound Tryz.prog 105 (callE I e sh105) := by
  refine Sound.mkE ent105 hI (fun _ => rfl) ?_ he
  rintro ⟨a, left, ⟨⟩⟩ hp
  have hp : ((zReleaseS a)) = true := hp
  try simp only [Bool.and_eq_true, decide_eq_true_eq] at hp
  have p0 := hp
  exact ok105 a left p0
end Go.Proofs.Tryz
