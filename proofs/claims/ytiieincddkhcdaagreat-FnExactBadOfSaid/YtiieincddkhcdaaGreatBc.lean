/- Contracts. -/
import Derived.Test.YtiieincddkhcdaaGreatBb
set_option linter.unusedSimpArgs false
set_option linter.unusedVariables false
namespace Go.Proofs.Tryz
open Go Go.Aix
set_option maxRecDepth 100000
set_option maxHeartbeats 4000000
theorem ent60 : Enters Tryz.prog 60 := ⟨Tryz.f60, Tryz.func60, by kernel_rfl, by kernel_rfl⟩
abbrev G60_0 (w : World) (Xs : Nat → Prop) (a : List Int) (b : List Int) (i : Int) (r : RES) : Prop := WL [0, 1, 5] Tryz.prog 60 Tryz.f60 (Ent0 w Xs) (Back (Ent0 w Xs) r.1 r.2.1 r.2.2) (place (bodyOf Tryz.f60) [1,1,0,1,0,0] [])
  ⟨[(0, .one (.pv (.sl false 1 (tI64.encs a)))), (1, .one (.pv (.sl false 1 (tI64.encs b)))), (5, .one (.pv (.sc (.int .i64 i))))], [], 0⟩
theorem st60_0 {w : World} {Xs : Nat → Prop} (a : List Int) (b : List Int) (i : Int) {r : RES} (h : (if i < (a.length : Int) then ((0 ≤ i ∧ i < (a.length : Int)) ∧ ((0 ≤ i ∧ i < (b.length : Int)) ∧ (if (nth a i.toNat) = (nth b i.toNat) then G60_0 w Xs a b (IntKind.i64.wrap (i + 1)) r else r = (.one (.pv (.sc (.bool false))), [], 0)))) else r = (.one (.pv (.sc (.bool true))), [], 0))) : G60_0 w Xs a b i r := by
  obtain ⟨I, hI⟩ : ∃ I, I = real := ⟨_, rfl⟩
  unfold G60_0 WL
  obtain ⟨q0, hq0⟩ := eqv (tI64.encs a)
  try rw [← hq0]
  obtain ⟨q1, hq1⟩ := eqv (tI64.encs b)
  try rw [← hq1]
  have hS := And.intro hI (And.intro hq0 hq1)
  refine W_go (Y := (Tab.calls [])) xok (TabOk.calls mixed trivial) Tryz.func60 rfl 2000 _ hI ?_; (conv => arg 4; cbv)
  exact fin
theorem go60 (a : List Int) (b : List Int) {r : RES} (h : ∀ (w : World) (Xs : Nat → Prop), (if (a.length : Int) = (b.length : Int) then G60_0 w Xs a b 0 r else r = (.one (.pv (.sc (.bool false))), [], 0))) : Ok0 Tryz.prog 60 [(pL tI64).enc a, (pL tI64).enc b] r.1 r.2.1 r.2.2 := by
  obtain ⟨I, hI⟩ : ∃ I, I = real := ⟨_, rfl⟩
  show Ok0 Tryz.prog 60 [.one (.pv (.sl false 1 (tI64.encs a))), .one (.pv (.sl false 1 (tI64.encs b)))] _ _ _
  obtain ⟨q0, hq0⟩ := eqv (tI64.encs a)
  try rw [← hq0]
  obtain ⟨q1, hq1⟩ := eqv (tI64.encs b)
  try rw [← hq1]
  have hS := And.intro hI (And.intro hq0 hq1)
  refine Ok0_run (Y := (Tab.calls [])) xok (TabOk.calls mixed trivial) Tryz.func60 rfl rfl rfl 2000 hI fun w Xs => ?_; (conv => arg 4; cbv)
  replace h := h w Xs
  exact fin
theorem lm60 {w : World} {Xs : Nat → Prop} (a b : List Int) (hl : a.length ≤ 1048576) (he : a.length = b.length) : ∀ k i : Nat, k + i = a.length → G60_0 w Xs a b i (rB (decide (a.drop i = b.drop i))) := by
  intro k
  induction k with
  | zero =>
    intro i hk
    apply st60_0
    rw [if_neg (by omega), drop_nil (l := a) (by omega), drop_nil (l := b) (by omega)]
    simp
  | succ k ih =>
    intro i hk
    have hd : a.drop i = nth a i :: a.drop (i + 1) := nth_drop (by omega)
    have hd' : b.drop i = nth b i :: b.drop (i + 1) := nth_drop (by omega)
    apply st60_0
    rw [if_pos (by omega), wsucc (by omega)]
    simp only [Int.toNat_natCast]
    refine ⟨by omega, by omega, if_go (fun q => ?_) (fun q => ?_)⟩
    · have := ih (i + 1) (by omega)
      rw [hd, hd']
      simpa [q] using this
    · rw [hd, hd']; simp [q]
def sh60 : Shp := fun I i b l s => .ok (.one (.pv (.sc (.bool (b 0)))), [], 0)
def an60 : An (List Int × List Int × Unit) where
  pre t := (bI t.1)
  b _ t := decide (t.1 = t.2.1)
noncomputable def en60 : En := mkE (parsC (pL tI64) (parsC (pL tI64) pars0)) an60
attribute [simp] en60 an60
theorem ok60 (a : List Int) (b : List Int) (p0 : bI a = true) : Ok0 Tryz.prog 60 [(pL tI64).enc a, (pL tI64).enc b] ((.one (.pv (.sc (.bool (decide (a = b))))), [], 0) : RES).1 ((.one (.pv (.sc (.bool (decide (a = b))))), [], 0) : RES).2.1 ((.one (.pv (.sc (.bool (decide (a = b))))), [], 0) : RES).2.2 := by
  have p0 := bI_len p0
  refine go60 a b fun w Xs => ?_
  refine if_go (fun h => ?_) (fun h => ?_)
  · exact lm60 a b p0 (by omega) a.length 0 rfl
  · have : a ≠ b := by intro e; subst e; exact h rfl
    simp [this]
theorem s60 {I : Ops} (hI : I = real) {e : En} (he : e = en60) : Sound Tryz.prog 60 (callE I e sh60) := by
  refine Sound.mkE ent60 hI (fun _ => rfl) ?_ he
  rintro ⟨a, b, ⟨⟩⟩ hp
  have hp : ((bI a)) = true := hp
  try simp only [Bool.and_eq_true, decide_eq_true_eq] at hp
  have p0 := hp
  exact ok60 a b p0
theorem ent102 : Enters Tryz.prog 102 := ⟨Tryz.f102, Tryz.func102, by kernel_rfl, by kernel_rfl⟩
theorem s102 {I : Ops} (hI : I = real)  : Sound Tryz.prog 102 (inl X I (Tab.calls []) Tryz.f102) :=
  Sound.inl (Y := (Tab.calls [])) xok (TabOk.calls mixed trivial) ent102 Tryz.func102 rfl rfl hI
theorem ent101 : Enters Tryz.prog 101 := ⟨Tryz.f101, Tryz.func101, by kernel_rfl, by kernel_rfl⟩
noncomputable def Y101 (I : Ops) (K : FuncId → En) : CallsA := (Tab.calls [(60, true, callRd I (callE I (K 60) sh60))])
theorem tY101 {I : Ops} (hI : I = real) {K : FuncId → En} (k60 : K 60 = en60) : CallsOk Tryz.prog (Y101 I K) := (TabOk.calls mixed ⟨EntryOk.rd (s60 hI k60) hI, fun _ => callRd_quiet _ _, trivial⟩)
theorem s101 {I : Ops} (hI : I = real) {K : FuncId → En} (k60 : K 60 = en60) : Sound Tryz.prog 101 (inl X I (Y101 I K) Tryz.f101) :=
  Sound.inl (Y := (Y101 I K)) xok (tY101 hI k60) ent101 Tryz.func101 rfl rfl hI
theorem ent69 : Enters Tryz.prog 69 := ⟨Tryz.f69, Tryz.func69, by kernel_rfl, by kernel_rfl⟩
abbrev G69_0 (w : World) (Xs : Nat → Prop) (a : List EntryV) (b : List EntryV) (i : Int) (r : RES) : Prop := WL [0, 1, 5] Tryz.prog 69 Tryz.f69 (Ent0 w Xs) (Back (Ent0 w Xs) r.1 r.2.1 r.2.2) (place (bodyOf Tryz.f69) [1,1,0,1,0,0] [])
  ⟨[(0, .one (.pv (.sl false 2 (tEntry.encs a)))), (1, .one (.pv (.sl false 2 (tEntry.encs b)))), (5, .one (.pv (.sc (.int .i64 i))))], [], 0⟩
noncomputable def Y69 (I : Ops) (K : FuncId → En) : CallsA := (Tab.calls [(101, true, callRd I (inl X I (Y101 I K) Tryz.f101))])
theorem tY69 {I : Ops} (hI : I = real) {K : FuncId → En} (k60 : K 60 = en60) : CallsOk Tryz.prog (Y69 I K) := (TabOk.calls mixed ⟨EntryOk.rd (s101 hI k60) hI, fun _ => callRd_quiet _ _, trivial⟩)
theorem st69_0 {w : World} {Xs : Nat → Prop} (a : List EntryV) (b : List EntryV) (i : Int) {r : RES} (h : (if i < (a.length : Int) then ((0 ≤ i ∧ i < (a.length : Int)) ∧ ((0 ≤ i ∧ i < (b.length : Int)) ∧ (((bI ((nth a i.toNat).row)) = true) ∧ (if (decide (((nth a i.toNat).row) = ((nth b i.toNat).row))) = true then (if (nth a i.toNat).weight = (nth b i.toNat).weight then G69_0 w Xs a b (IntKind.i64.wrap (i + 1)) r else r = (.one (.pv (.sc (.bool false))), [], 0)) else r = (.one (.pv (.sc (.bool false))), [], 0))))) else r = (.one (.pv (.sc (.bool true))), [], 0))) : G69_0 w Xs a b i r := by
  obtain ⟨I, hI⟩ : ∃ I, I = real := ⟨_, rfl⟩; obtain ⟨K, k60⟩ : ∃ K : FuncId → En, K 60 = en60 := ⟨fun g => (lk g [(60, en60)]).getD default, rfl⟩
  unfold G69_0 WL
  obtain ⟨q0, hq0⟩ := eqv (tEntry.encs a)
  try rw [← hq0]
  obtain ⟨q1, hq1⟩ := eqv (tEntry.encs b)
  try rw [← hq1]
  have hS := And.intro hI (And.intro k60 (And.intro hq0 hq1))
  refine W_go (Y := (Y69 I K)) xok (tY69 hI k60) Tryz.func69 rfl 2000 _ hI ?_; (conv => arg 4; cbv)
  exact fin
theorem go69 (a : List EntryV) (b : List EntryV) {r : RES} (h : ∀ (w : World) (Xs : Nat → Prop), (if (a.length : Int) = (b.length : Int) then G69_0 w Xs a b 0 r else r = (.one (.pv (.sc (.bool false))), [], 0))) : Ok0 Tryz.prog 69 [(pL tEntry).enc a, (pL tEntry).enc b] r.1 r.2.1 r.2.2 := by
  obtain ⟨I, hI⟩ : ∃ I, I = real := ⟨_, rfl⟩; obtain ⟨K, k60⟩ : ∃ K : FuncId → En, K 60 = en60 := ⟨fun g => (lk g [(60, en60)]).getD default, rfl⟩
  show Ok0 Tryz.prog 69 [.one (.pv (.sl false 2 (tEntry.encs a))), .one (.pv (.sl false 2 (tEntry.encs b)))] _ _ _
  obtain ⟨q0, hq0⟩ := eqv (tEntry.encs a)
  try rw [← hq0]
  obtain ⟨q1, hq1⟩ := eqv (tEntry.encs b)
  try rw [← hq1]
  have hS := And.intro hI (And.intro k60 (And.intro hq0 hq1))
  refine Ok0_run (Y := (Y69 I K)) xok (tY69 hI k60) Tryz.func69 rfl rfl rfl 2000 hI fun w Xs => ?_; (conv => arg 4; cbv)
  replace h := h w Xs
  exact fin
theorem lm69 {w : World} {Xs : Nat → Prop} (a b : List EntryV) (ha : bEntryS a = true) (he : a.length = b.length) : ∀ k i : Nat, k + i = a.length → G69_0 w Xs a b i (rB (decide (a.drop i = b.drop i))) := by
  have hl := bEntryS_len ha
  intro k
  induction k with
  | zero =>
    intro i hk
    apply st69_0
    rw [if_neg (by omega), drop_nil (l := a) (by omega), drop_nil (l := b) (by omega)]
    simp
  | succ k ih =>
    intro i hk
    have hx := bEntryS_nth ha (i := i) (by omega)
    have x0 := bEntry_p hx
    have hd : a.drop i = nth a i :: a.drop (i + 1) := nth_drop (by omega)
    have hd' : b.drop i = nth b i :: b.drop (i + 1) := nth_drop (by omega)
    have no : nth a i ≠ nth b i → rB (decide (a.drop i = b.drop i)) = rB false := fun e => by rw [hd, hd']; simp [e]
    have yes : nth a i = nth b i → G69_0 w Xs a b ((i + 1 : Nat) : Int) (rB (decide (a.drop i = b.drop i))) := fun e => by
      have := ih (i + 1) (by omega)
      rw [hd, hd']
      simpa [e] using this
    apply st69_0
    rw [if_pos (by omega), wsucc (by omega)]
    simp only [Int.toNat_natCast]
    clear ih hd hd'
    (repeat' (first | (refine And.intro ?_ ?_) | (refine if_go (fun q => ?_) (fun q => ?_))))
    all_goals first
      | omega
      | assumption
      | exact yes (extEntry (by first | assumption | exact of_decide_eq_true (by assumption)) (by first | assumption | exact of_decide_eq_true (by assumption)))
      | exact no (fun e => q (by rw [e]))
      | exact no (fun e => q (decide_eq_true (by rw [e])))
def sh69 : Shp := fun I i b l s => .ok (.one (.pv (.sc (.bool (b 0)))), [], 0)
def an69 : An (List EntryV × List EntryV × Unit) where
  pre t := (bEntryS t.1)
  b _ t := decide (t.1 = t.2.1)
noncomputable def en69 : En := mkE (parsC (pL tEntry) (parsC (pL tEntry) pars0)) an69
attribute [simp] en69 an69
theorem ok69 (a : List EntryV) (b : List EntryV) (p0 : bEntryS a = true) : Ok0 Tryz.prog 69 [(pL tEntry).enc a, (pL tEntry).enc b] ((.one (.pv (.sc (.bool (decide (a = b))))), [], 0) : RES).1 ((.one (.pv (.sc (.bool (decide (a = b))))), [], 0) : RES).2.1 ((.one (.pv (.sc (.bool (decide (a = b))))), [], 0) : RES).2.2 := by
  refine go69 a b fun w Xs => ?_
  refine if_go (fun h => ?_) (fun h => ?_)
  · exact lm69 a b p0 (by omega) a.length 0 rfl
  · have : a ≠ b := by intro e; subst e; exact h rfl
    simp [this]
theorem s69 {I : Ops} (hI : I = real) {e : En} (he : e = en69) : Sound Tryz.prog 69 (callE I e sh69) := by
  refine Sound.mkE ent69 hI (fun _ => rfl) ?_ he
  rintro ⟨a, b, ⟨⟩⟩ hp
  have hp : ((bEntryS a)) = true := hp
  try simp only [Bool.and_eq_true, decide_eq_true_eq] at hp
  have p0 := hp
  exact ok69 a b p0
theorem ent163 : Enters Tryz.prog 163 := ⟨Tryz.f163, Tryz.func163, by kernel_rfl, by kernel_rfl⟩
noncomputable def Y163 (I : Ops) : CallsA := (Tab.calls [(102, true, callRd I (inl X I (Tab.calls []) Tryz.f102))])
theorem tY163 {I : Ops} (hI : I = real)  : CallsOk Tryz.prog (Y163 I) := (TabOk.calls mixed ⟨EntryOk.rd (s102 hI) hI, fun _ => callRd_quiet _ _, trivial⟩)
theorem s163 {I : Ops} (hI : I = real)  : Sound Tryz.prog 163 (inl X I (Y163 I) Tryz.f163) :=
  Sound.inl (Y := (Y163 I)) xok (tY163 hI) ent163 Tryz.func163 rfl rfl hI
def szEntryf (e : EntryV) (m : Int) : Int := if szL e.row.length m < 0 then -1 else szL e.row.length m
theorem ent135 : Enters Tryz.prog 135 := ⟨Tryz.f135, Tryz.func135, by kernel_rfl, by kernel_rfl⟩
abbrev G135_0 (w : World) (Xs : Nat → Prop) (a : List EntryV) (left' : Int) (i : Int) (r : RES) : Prop := WL [0, 1, 5] Tryz.prog 135 Tryz.f135 (Ent0 w Xs) (Back (Ent0 w Xs) r.1 r.2.1 r.2.2) (place (bodyOf Tryz.f135) [1,1,1,0,1,0,0] [])
  ⟨[(0, .one (.pv (.sl false 2 (tEntry.encs a)))), (1, .one (.pv (.sc (.int .i64 left')))), (5, .one (.pv (.sc (.int .i64 i))))], [], 0⟩
noncomputable def Y135 (I : Ops) : CallsA := (Tab.calls [(163, true, callRd I (inl X I (Y163 I) Tryz.f163))])
theorem tY135 {I : Ops} (hI : I = real)  : CallsOk Tryz.prog (Y135 I) := (TabOk.calls mixed ⟨EntryOk.rd (s163 hI) hI, fun _ => callRd_quiet _ _, trivial⟩)
theorem st135_0 {w : World} {Xs : Nat → Prop} (a : List EntryV) (left' : Int) (i : Int) {r : RES} (h : (if i < (a.length : Int) then ((0 ≤ i ∧ i < (a.length : Int)) ∧ (if (IntKind.i64.wrap (left' - (((nth a i.toNat).row).length : Int))) < 0 then r = (.one (.pv (.sc (.int .i64 (-1)))), [], 0) else G135_0 w Xs a (IntKind.i64.wrap (left' - (((nth a i.toNat).row).length : Int))) (IntKind.i64.wrap (i + 1)) r)) else r = (.one (.pv (.sc (.int .i64 left'))), [], 0))) : G135_0 w Xs a left' i r := by
  obtain ⟨I, hI⟩ : ∃ I, I = real := ⟨_, rfl⟩
  unfold G135_0 WL
  obtain ⟨q0, hq0⟩ := eqv (tEntry.encs a)
  try rw [← hq0]
  have hS := And.intro hI hq0
  refine W_go (Y := (Y135 I)) xok (tY135 hI) Tryz.func135 rfl 2000 _ hI ?_; (conv => arg 4; cbv)
  exact fin
theorem go135 (a : List EntryV) (left : Int) {r : RES} (h : ∀ (w : World) (Xs : Nat → Prop), (if (IntKind.i64.wrap (left - (a.length : Int))) < 0 then r = (.one (.pv (.sc (.int .i64 (-1)))), [], 0) else G135_0 w Xs a (IntKind.i64.wrap (left - (a.length : Int))) 0 r)) : Ok0 Tryz.prog 135 [(pL tEntry).enc a, pI.enc left] r.1 r.2.1 r.2.2 := by
  obtain ⟨I, hI⟩ : ∃ I, I = real := ⟨_, rfl⟩
  show Ok0 Tryz.prog 135 [.one (.pv (.sl false 2 (tEntry.encs a))), .one (.pv (.sc (.int .i64 left)))] _ _ _
  obtain ⟨q0, hq0⟩ := eqv (tEntry.encs a)
  try rw [← hq0]
  have hS := And.intro hI hq0
  refine Ok0_run (Y := (Y135 I)) xok (tY135 hI) Tryz.func135 rfl rfl rfl 2000 hI fun w Xs => ?_; (conv => arg 4; cbv)
  replace h := h w Xs
  exact fin
theorem lm135 {w : World} {Xs : Nat → Prop} (a : List EntryV) (ha : zEntryS a = true) : ∀ (k i : Nat) (m : Int), k + i = a.length → G135_0 w Xs a m i (rI (szS szEntryf (a.drop i) m)) := by
  have hl := zEntryS_len ha
  intro k
  induction k with
  | zero =>
    intro i m hk
    apply st135_0
    rw [if_neg (by omega), drop_nil (l := a) (by omega)]
    rfl
  | succ k ih =>
    intro i m hk
    have hx := zEntryS_nth ha (i := i) (by omega)
    have x0 := zEntry_p hx
    have hd : a.drop i = nth a i :: a.drop (i + 1) := nth_drop (by omega)
    have no : szEntryf (nth a i) m < 0 → rI (szS szEntryf (a.drop i) m) = rI (-1) := fun e => by rw [hd, szS, if_pos e]
    have yes : ∀ m', szEntryf (nth a i) m = m' → ¬ m' < 0 → G135_0 w Xs a m' ((i + 1 : Nat) : Int) (rI (szS szEntryf (a.drop i) m)) := fun m' e e2 => by
      have := ih (i + 1) m' (by omega)
      rw [hd, szS, e, if_neg e2]
      exact this
    apply st135_0
    rw [if_pos (by omega), wsucc (by omega)]
    simp only [Int.toNat_natCast]
    clear ih hd
    (repeat' (first | (refine And.intro ?_ ?_) | (refine if_go (fun q => ?_) (fun q => ?_))))
    all_goals first
      | omega
      | assumption
      | exact zI_len (by assumption)
      | (refine yes _ ?_ ?_ <;> (unfold szEntryf; (try unfold szL); (repeat' split) <;> first | rfl | omega))
      | (refine yes _ ?_ ?_ <;> (first | omega | (unfold szEntryf; (try unfold szL); (repeat' split) <;> first | rfl | omega)))
      | (refine no ?_; unfold szEntryf; (try unfold szL); (repeat' split) <;> omega)
def sh135 : Shp := fun I i b l s => .ok (.one (.pv (.sc (.int .i64 (i 0)))), [], 0)
def an135 : An (List EntryV × Int × Unit) where
  pre t := (zEntryS t.1)
  i _ t := szA szEntryf t.1 t.2.1
noncomputable def en135 : En := mkE (parsC (pL tEntry) (parsC pI pars0)) an135
attribute [simp] en135 an135
theorem ok135 (a : List EntryV) (left : Int) (p0 : zEntryS a = true) : Ok0 Tryz.prog 135 [(pL tEntry).enc a, pI.enc left] ((.one (.pv (.sc (.int .i64 (szA szEntryf a left)))), [], 0) : RES).1 ((.one (.pv (.sc (.int .i64 (szA szEntryf a left)))), [], 0) : RES).2.1 ((.one (.pv (.sc (.int .i64 (szA szEntryf a left)))), [], 0) : RES).2.2 := by
  refine go135 a left fun w Xs => ?_
  have hl := zEntryS_len p0
  unfold szA
  (repeat' (first | (refine And.intro ?_ ?_) | (refine if_go (fun q => ?_) (fun q => ?_))))
  all_goals first
    | omega
    | (rw [if_pos (by omega)])
    | (rw [if_neg (by omega)]; exact lm135 a p0 a.length 0 _ rfl)
theorem s135 {I : Ops} (hI : I = real) {e : En} (he : e = en135) : Sound Tryz.prog 135 (callE I e sh135) := by
  refine Sound.mkE ent135 hI (fun _ => rfl) ?_ he
  rintro ⟨a, left, ⟨⟩⟩ hp
  have hp : ((zEntryS a)) = true := hp
  try simp only [Bool.and_eq_true, decide_eq_true_eq] at hp
  have p0 := hp
  exact ok135 a left p0
end Go.Proofs.Tryz
