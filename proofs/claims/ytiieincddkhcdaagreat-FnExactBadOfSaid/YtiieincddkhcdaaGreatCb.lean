/- Contracts. -/
import Derived.Test.YtiieincddkhcdaaGreatCa
set_option linter.unusedSimpArgs false
set_option linter.unusedVariables false
namespace Go.Proofs.Tryz
open Go Go.Aix
set_option maxRecDepth 100000
set_option maxHeartbeats 4000000
theorem cmpI_len (l r : Nat) : cmpI (l : Int) r = if l < r then -1 else if r < l then 1 else 0 := by
  unfold cmpI; (repeat' split) <;> omega
theorem cmpI_zero {x y : Int} (h : cmpI x y = 0) : ¬ x < y ∧ ¬ y < x := by
  unfold cmpI at h
  split at h
  · omega
  · split at h <;> omega
theorem wprev {i : Nat} (h : 0 < i) (h2 : i < 9223372036854775807) : IntKind.i64.wrap ((i : Int) - 1) = ((i - 1 : Nat) : Int) := by rw [IntKind.wrap_i64]; omega
def setLp (l : List EntryV) : Nat → Nat → Int
  | 0, _ => 0
  | k + 1, i => if rowFault (nth l i).row ≠ 0 then rowFault (nth l i).row
    else if ¬ (-1000000000000 ≤ (nth l i).weight ∧ (nth l i).weight ≤ 1000000000000) ∨ (nth l i).weight = 0 then 3
    else if 0 < i ∧ 0 ≤ cmpR (nth l (i - 1)).row (nth l i).row then 1
    else setLp l k (i + 1)
def setF (l : List EntryV) : Int := if 200 < l.length then 2 else setLp l l.length 0
theorem setLp_ok (l : List EntryV) : ∀ (k i : Nat), k + i = l.length → setLp l k i = 0 → ∀ j, i ≤ j → j < l.length → (nth l j).row.length ≤ 4
  | 0, i, hk, _, j, h1, h2 => by omega
  | k + 1, i, hk, h, j, h1, h2 => by
    rw [setLp] at h
    split at h
    · contradiction
    · rename_i hr
      split at h
      · omega
      · split at h
        · omega
        · by_cases hj : j = i
          · subst hj; exact rowFault_len (by simpa using hr)
          · exact setLp_ok l k (i + 1) (by omega) h j (by omega) h2
theorem setF_ok {l : List EntryV} (h : setF l = 0) : l.length ≤ 200 ∧ ∀ e ∈ l, e.row.length ≤ 4 := by
  unfold setF at h
  split at h
  · omega
  · refine ⟨by omega, fun e he => ?_⟩
    obtain ⟨j, hj, rfl⟩ := List.getElem_of_mem he
    have := setLp_ok l l.length 0 rfl h j (Nat.zero_le _) hj
    simpa [nth, hj] using this
theorem ent176 : Enters Tryz.prog 176 := ⟨Tryz.f176, Tryz.func176, by kernel_rfl, by kernel_rfl⟩
abbrev G176_0 (w : World) (Xs : Nat → Prop) (a : List Int) (b : List Int) (x12 : Int) (r : RES) : Prop := WL [0, 1, 11, 12] Tryz.prog 176 Tryz.f176 (Ent0 w Xs) (Back (Ent0 w Xs) r.1 r.2.1 r.2.2) (place (bodyOf Tryz.f176) [1,0,1,0,0] [])
  ⟨[(0, .one (.pv (.sl false 1 (tI64.encs a)))), (1, .one (.pv (.sl false 1 (tI64.encs b)))), (11, .one (.pv (.sc (.int .i64 (min (a.length : Int) (b.length : Int)))))), (12, .one (.pv (.sc (.int .i64 x12))))], [], 0⟩
noncomputable def Y176 (I : Ops) (K : FuncId → En) : CallsA := (Tab.calls [(173, true, callRd I (callE I (K 173) sh173)), (182, true, callRd I (callE I (K 182) sh182))])
theorem tY176 {I : Ops} (hI : I = real) {K : FuncId → En} (k173 : K 173 = en173) (k182 : K 182 = en182) : CallsOk Tryz.prog (Y176 I K) := (TabOk.calls mixed ⟨EntryOk.rd (s173 hI k173) hI, fun _ => callRd_quiet _ _, ⟨EntryOk.rd (s182 hI k182) hI, fun _ => callRd_quiet _ _, trivial⟩⟩)
theorem st176_0 {w : World} {Xs : Nat → Prop} (a : List Int) (b : List Int) (x12 : Int) {r : RES} (h : (if x12 < (min (a.length : Int) (b.length : Int)) then ((0 ≤ x12 ∧ x12 < (a.length : Int)) ∧ ((0 ≤ x12 ∧ x12 < (b.length : Int)) ∧ (if cmpI (nth a x12.toNat) (nth b x12.toNat) = 0 then G176_0 w Xs a b (IntKind.i64.wrap (x12 + 1)) r else r = (.one (.pv (.sc (.int .i64 (cmpI (nth a x12.toNat) (nth b x12.toNat))))), [], 0)))) else r = (.one (.pv (.sc (.int .i64 (cmpI (a.length : Int) (b.length : Int))))), [], 0))) : G176_0 w Xs a b x12 r := by
  obtain ⟨I, hI⟩ : ∃ I, I = real := ⟨_, rfl⟩; obtain ⟨K, k173, k182⟩ : ∃ K : FuncId → En, K 173 = en173 ∧ K 182 = en182 := ⟨fun g => (lk g [(173, en173), (182, en182)]).getD default, rfl, rfl⟩
  unfold G176_0 WL
  obtain ⟨q0, hq0⟩ := eqv (min (a.length : Int) (b.length : Int))
  try rw [← hq0]
  obtain ⟨q1, hq1⟩ := eqv (tI64.encs a)
  try rw [← hq1]
  obtain ⟨q2, hq2⟩ := eqv (tI64.encs b)
  try rw [← hq2]
  have hS := And.intro hI (And.intro k173 (And.intro k182 (And.intro hq0 (And.intro hq1 hq2))))
  refine W_go (Y := (Y176 I K)) xok (tY176 hI k173 k182) Tryz.func176 rfl 2000 _ hI ?_; (conv => arg 4; cbv)
  exact fin
theorem go176 (a : List Int) (b : List Int) {r : RES} (h : ∀ (w : World) (Xs : Nat → Prop), G176_0 w Xs a b 0 r) : Ok0 Tryz.prog 176 [(pL tI64).enc a, (pL tI64).enc b] r.1 r.2.1 r.2.2 := by
  obtain ⟨I, hI⟩ : ∃ I, I = real := ⟨_, rfl⟩; obtain ⟨K, k173, k182⟩ : ∃ K : FuncId → En, K 173 = en173 ∧ K 182 = en182 := ⟨fun g => (lk g [(173, en173), (182, en182)]).getD default, rfl, rfl⟩
  show Ok0 Tryz.prog 176 [.one (.pv (.sl false 1 (tI64.encs a))), .one (.pv (.sl false 1 (tI64.encs b)))] _ _ _
  obtain ⟨q0, hq0⟩ := eqv (tI64.encs a)
  try rw [← hq0]
  obtain ⟨q1, hq1⟩ := eqv (tI64.encs b)
  try rw [← hq1]
  have hS := And.intro hI (And.intro k173 (And.intro k182 (And.intro hq0 hq1)))
  refine Ok0_run (Y := (Y176 I K)) xok (tY176 hI k173 k182) Tryz.func176 rfl rfl rfl 2000 hI fun w Xs => ?_; (conv => arg 4; cbv)
  replace h := h w Xs
  exact fin
theorem lm176 {w : World} {Xs : Nat → Prop} (a b : List Int) (hl : a.length ≤ 1048576) : ∀ k i : Nat, k + i = min a.length b.length → G176_0 w Xs a b i (rI (cmpR (a.drop i) (b.drop i))) := by
  intro k
  induction k with
  | zero =>
    intro i hk
    apply st176_0
    rw [if_neg (by omega), cmpR_end (by omega) (by omega) (by omega), cmpI_len]
  | succ k ih =>
    intro i hk
    apply st176_0
    rw [if_pos (by omega), wsucc (by omega), Int.toNat_natCast, nth_drop (l := a) (i := i) (by omega), nth_drop (l := b) (i := i) (by omega), cmpR]
    refine ⟨by omega, by omega, if_go (fun q => ?_) (fun q => ?_)⟩
    · have q := cmpI_zero q
      rw [if_neg q.1, if_neg q.2]; exact ih (i + 1) (by omega)
    · by_cases h1 : nth a i < nth b i
      · rw [if_pos h1]; simp [cmpI, h1]
      · by_cases h2 : nth b i < nth a i
        · rw [if_neg h1, if_pos h2]; simp [cmpI, h1, h2]
        · exact absurd (by simp [cmpI, h1, h2]) q
def sh176 : Shp := fun I i b l s => .ok (.one (.pv (.sc (.int .i64 (i 0)))), [], 0)
def an176 : An (List Int × List Int × Unit) where
  pre t := decide (t.1.length ≤ 1048576)
  i _ t := cmpR t.1 t.2.1
noncomputable def en176 : En := mkE (parsC (pL tI64) (parsC (pL tI64) pars0)) an176
attribute [simp] en176 an176
theorem ok176 (a : List Int) (b : List Int) (p0 : a.length ≤ 1048576) : Ok0 Tryz.prog 176 [(pL tI64).enc a, (pL tI64).enc b] ((.one (.pv (.sc (.int .i64 (cmpR a b)))), [], 0) : RES).1 ((.one (.pv (.sc (.int .i64 (cmpR a b)))), [], 0) : RES).2.1 ((.one (.pv (.sc (.int .i64 (cmpR a b)))), [], 0) : RES).2.2 := by
  exact go176 a b fun w Xs => lm176 a b p0 (min a.length b.length) 0 rfl
theorem s176 {I : Ops} (hI : I = real) {e : En} (he : e = en176) : Sound Tryz.prog 176 (callE I e sh176) := by
  refine Sound.mkE ent176 hI (fun _ => rfl) ?_ he
  rintro ⟨a, b, ⟨⟩⟩ hp
  have hp : (decide (a.length ≤ 1048576)) = true := hp
  try simp only [Bool.and_eq_true, decide_eq_true_eq] at hp
  have p0 := hp
  exact ok176 a b p0
theorem ent165 : Enters Tryz.prog 165 := ⟨Tryz.f165, Tryz.func165, by kernel_rfl, by kernel_rfl⟩
noncomputable def Y165 (I : Ops) : CallsA := (Tab.calls [(42, true, callRd I (inl X I (Tab.calls []) Tryz.f42))])
theorem tY165 {I : Ops} (hI : I = real)  : CallsOk Tryz.prog (Y165 I) := (TabOk.calls mixed ⟨EntryOk.rd (s42 hI) hI, fun _ => callRd_quiet _ _, trivial⟩)
theorem s165 {I : Ops} (hI : I = real)  : Sound Tryz.prog 165 (inl X I (Y165 I) Tryz.f165) :=
  Sound.inl (Y := (Y165 I)) xok (tY165 hI) ent165 Tryz.func165 rfl rfl hI
theorem ent167 : Enters Tryz.prog 167 := ⟨Tryz.f167, Tryz.func167, by kernel_rfl, by kernel_rfl⟩
abbrev G167_0 (w : World) (Xs : Nat → Prop) (z : List EntryV) (i : Int) (r : RES) : Prop := WL [0, 3] Tryz.prog 167 Tryz.f167 (Ent0 w Xs) (Back (Ent0 w Xs) r.1 r.2.1 r.2.2) (place (bodyOf Tryz.f167) [1,1,0,1,0,0] [])
  ⟨[(0, .one (.pv (.sl false 2 (tEntry.encs z)))), (3, .one (.pv (.sc (.int .i64 i))))], [], 0⟩
noncomputable def Y167 (I : Ops) (K : FuncId → En) : CallsA := (Tab.calls [(179, true, callRd I (callE I (K 179) sh179)), (165, true, callRd I (inl X I (Y165 I) Tryz.f165)), (91, true, callRd I (callE I (K 91) sh91))])
theorem tY167 {I : Ops} (hI : I = real) {K : FuncId → En} (k179 : K 179 = en179) (k91 : K 91 = en91) : CallsOk Tryz.prog (Y167 I K) := (TabOk.calls mixed ⟨EntryOk.rd (s179 hI k179) hI, fun _ => callRd_quiet _ _, ⟨EntryOk.rd (s165 hI) hI, fun _ => callRd_quiet _ _, ⟨EntryOk.rd (s91 hI k91) hI, fun _ => callRd_quiet _ _, trivial⟩⟩⟩)
theorem st167_0 {w : World} {Xs : Nat → Prop} (z : List EntryV) (i : Int) {r : RES} (h : (if i < (z.length : Int) then ((0 ≤ i ∧ i < (z.length : Int)) ∧ (if rowFault ((nth z i.toNat).row) = 0 then (if (-1000000000000) ≤ (nth z i.toNat).weight then (if (nth z i.toNat).weight ≤ 1000000000000 then (if (nth z i.toNat).weight = 0 then r = (.one (.pv (.sc (.int .i64 3))), [], 0) else (if 0 < i then ((0 ≤ (IntKind.i64.wrap (i - 1)) ∧ (IntKind.i64.wrap (i - 1)) < (z.length : Int)) ∧ ((((nth z i.toNat).row).length ≤ 1048576) ∧ (if cmpR ((nth z i.toNat).row) ((nth z ((IntKind.i64.wrap (i - 1)).toNat)).row) ≤ 0 then r = (.one (.pv (.sc (.int .i64 1))), [], 0) else G167_0 w Xs z (IntKind.i64.wrap (i + 1)) r))) else G167_0 w Xs z (IntKind.i64.wrap (i + 1)) r)) else r = (.one (.pv (.sc (.int .i64 3))), [], 0)) else r = (.one (.pv (.sc (.int .i64 3))), [], 0)) else r = (.one (.pv (.sc (.int .i64 (rowFault ((nth z i.toNat).row))))), [], 0))) else r = (.one (.pv (.sc (.int .i64 0))), [], 0))) : G167_0 w Xs z i r := by
  obtain ⟨I, hI⟩ : ∃ I, I = real := ⟨_, rfl⟩; obtain ⟨K, k179, k91⟩ : ∃ K : FuncId → En, K 179 = en179 ∧ K 91 = en91 := ⟨fun g => (lk g [(179, en179), (91, en91)]).getD default, rfl, rfl⟩
  unfold G167_0 WL
  obtain ⟨q0, hq0⟩ := eqv (tEntry.encs z)
  try rw [← hq0]
  have hS := And.intro hI (And.intro k179 (And.intro k91 hq0))
  refine W_go (Y := (Y167 I K)) xok (tY167 hI k179 k91) Tryz.func167 rfl 2000 _ hI ?_; (conv => arg 4; cbv)
  exact fin
theorem go167 (z : List EntryV) {r : RES} (h : ∀ (w : World) (Xs : Nat → Prop), (if 200 < (z.length : Int) then r = (.one (.pv (.sc (.int .i64 2))), [], 0) else G167_0 w Xs z 0 r)) : Ok0 Tryz.prog 167 [(pL tEntry).enc z] r.1 r.2.1 r.2.2 := by
  obtain ⟨I, hI⟩ : ∃ I, I = real := ⟨_, rfl⟩; obtain ⟨K, k179, k91⟩ : ∃ K : FuncId → En, K 179 = en179 ∧ K 91 = en91 := ⟨fun g => (lk g [(179, en179), (91, en91)]).getD default, rfl, rfl⟩
  show Ok0 Tryz.prog 167 [.one (.pv (.sl false 2 (tEntry.encs z)))] _ _ _
  obtain ⟨q0, hq0⟩ := eqv (tEntry.encs z)
  try rw [← hq0]
  have hS := And.intro hI (And.intro k179 (And.intro k91 hq0))
  refine Ok0_run (Y := (Y167 I K)) xok (tY167 hI k179 k91) Tryz.func167 rfl rfl rfl 2000 hI fun w Xs => ?_; (conv => arg 4; cbv)
  replace h := h w Xs
  exact fin
theorem lm167 {w : World} {Xs : Nat → Prop} (z : List EntryV) (hl : z.length ≤ 200) : ∀ k i : Nat, k + i = z.length → G167_0 w Xs z i (rI (setLp z k i)) := by
  intro k
  induction k with
  | zero =>
    intro i hk
    apply st167_0
    rw [if_neg (by omega)]
    rfl
  | succ k ih =>
    intro i hk
    apply st167_0
    rw [if_pos (by omega), wsucc (by omega), Int.toNat_natCast, setLp]
    refine ⟨by omega, if_go (fun q => ?_) (fun q => ?_)⟩
    · have hl4 := rowFault_len q
      have nx : G167_0 w Xs z ((i + 1 : Nat) : Int) (rI (setLp z k (i + 1))) := ih (i + 1) (by omega)
      clear ih
      rw [if_neg (show ¬ rowFault (nth z i).row ≠ 0 from fun y => y q)]
      refine if_go (fun q1 => if_go (fun q2 => if_go (fun q3 => ?_) (fun q3 => if_go (fun q4 => ?_) (fun q4 => ?_))) (fun q2 => ?_)) (fun q1 => ?_)
      · rw [if_pos (Or.inr q3)]
      · have hn : ¬ (¬ (-1000000000000 ≤ (nth z i).weight ∧ (nth z i).weight ≤ 1000000000000) ∨ (nth z i).weight = 0) := by omega
        have hq : 0 < i := by omega
        rw [if_neg hn, wprev hq (by omega), Int.toNat_natCast]
        skip
        refine ⟨by omega, by omega, if_go (fun q5 => ?_) (fun q5 => ?_)⟩
        · rw [if_pos ⟨hq, by have := cmpR_anti (nth z (i - 1)).row (nth z i).row; omega⟩]
        · rw [if_neg (fun y => q5 (by have y := y.2; have := cmpR_anti (nth z (i - 1)).row (nth z i).row; omega))]; exact nx
      · have hn : ¬ (¬ (-1000000000000 ≤ (nth z i).weight ∧ (nth z i).weight ≤ 1000000000000) ∨ (nth z i).weight = 0) := by omega
        rw [if_neg hn, if_neg (fun y => by omega)]; exact nx
      · rw [if_pos (Or.inl (fun y => q2 y.2))]
      · rw [if_pos (Or.inl (fun y => q1 y.1))]
    · rw [if_pos q]
def sh167 : Shp := fun I i b l s => .ok (.one (.pv (.sc (.int .i64 (i 0)))), [], 0)
def an167 : An (List EntryV × Unit) where
  i _ t := setF t.1
noncomputable def en167 : En := mkE (parsC (pL tEntry) pars0) an167
attribute [simp] en167 an167
theorem ok167 (z : List EntryV)  : Ok0 Tryz.prog 167 [(pL tEntry).enc z] ((.one (.pv (.sc (.int .i64 (setF z)))), [], 0) : RES).1 ((.one (.pv (.sc (.int .i64 (setF z)))), [], 0) : RES).2.1 ((.one (.pv (.sc (.int .i64 (setF z)))), [], 0) : RES).2.2 := by
  refine go167 z fun w Xs => ?_
  unfold setF
  refine if_go (fun h => ?_) (fun h => ?_)
  · rw [if_pos (by omega)]
  · rw [if_neg (by omega)]; exact lm167 z (by omega) z.length 0 rfl
theorem s167 {I : Ops} (hI : I = real) {e : En} (he : e = en167) : Sound Tryz.prog 167 (callE I e sh167) := by
  refine Sound.mkE ent167 hI (fun _ => rfl) ?_ he
  rintro ⟨z, ⟨⟩⟩ hp
  exact ok167 z 
theorem ent171 : Enters Tryz.prog 171 := ⟨Tryz.f171, Tryz.func171, by kernel_rfl, by kernel_rfl⟩
noncomputable def Y171 (I : Ops) : CallsA := (Tab.calls [(47, true, callRd I (inl X I (Tab.calls []) Tryz.f47))])
theorem tY171 {I : Ops} (hI : I = real)  : CallsOk Tryz.prog (Y171 I) := (TabOk.calls mixed ⟨EntryOk.rd (s47 hI) hI, fun _ => callRd_quiet _ _, trivial⟩)
theorem s171 {I : Ops} (hI : I = real)  : Sound Tryz.prog 171 (inl X I (Y171 I) Tryz.f171) :=
  Sound.inl (Y := (Y171 I)) xok (tY171 hI) ent171 Tryz.func171 rfl rfl hI
theorem ent157 : Enters Tryz.prog 157 := ⟨Tryz.f157, Tryz.func157, by kernel_rfl, by kernel_rfl⟩
abbrev G157_0 (w : World) (Xs : Nat → Prop) (z : List EntryV) (x11 : Int) (r : RES) : Prop := WL [0, 9, 10, 11] Tryz.prog 157 Tryz.f157 (Ent0 w Xs) (Back (Ent0 w Xs) r.1 r.2.1 r.2.2) (place (bodyOf Tryz.f157) [1,1,0,1,0,0] [])
  ⟨[(0, .one (.pv (.sl false 2 (tEntry.encs z)))), (9, .one (.pv (.sl false 2 (tEntry.encs z)))), (10, .one (.pv (.sc (.int .i64 (z.length : Int))))), (11, .one (.pv (.sc (.int .i64 x11))))], [], 0⟩
noncomputable def Y157 (I : Ops) (K : FuncId → En) : CallsA := (Tab.calls [(175, true, callRd I (callE I (K 175) sh175)), (171, true, callRd I (inl X I (Y171 I) Tryz.f171)), (176, true, callRd I (callE I (K 176) sh176))])
theorem tY157 {I : Ops} (hI : I = real) {K : FuncId → En} (k175 : K 175 = en175) (k176 : K 176 = en176) : CallsOk Tryz.prog (Y157 I K) := (TabOk.calls mixed ⟨EntryOk.rd (s175 hI k175) hI, fun _ => callRd_quiet _ _, ⟨EntryOk.rd (s171 hI) hI, fun _ => callRd_quiet _ _, ⟨EntryOk.rd (s176 hI k176) hI, fun _ => callRd_quiet _ _, trivial⟩⟩⟩)
theorem st157_0 {w : World} {Xs : Nat → Prop} (z : List EntryV) (x11 : Int) {r : RES} (h : (if x11 < (z.length : Int) then ((0 ≤ x11 ∧ x11 < (z.length : Int)) ∧ (if rowFault ((nth z x11.toNat).row) = 0 then (if (-1000000000000) ≤ (nth z x11.toNat).weight then (if (nth z x11.toNat).weight ≤ 1000000000000 then (if (nth z x11.toNat).weight = 0 then r = (.one (.pv (.sc (.int .i64 3))), [], 0) else (if 0 < x11 then ((0 ≤ (IntKind.i64.wrap (x11 - 1)) ∧ (IntKind.i64.wrap (x11 - 1)) < (z.length : Int)) ∧ ((((nth z ((IntKind.i64.wrap (x11 - 1)).toNat)).row).length ≤ 1048576) ∧ (if 0 ≤ cmpR ((nth z ((IntKind.i64.wrap (x11 - 1)).toNat)).row) ((nth z x11.toNat).row) then r = (.one (.pv (.sc (.int .i64 1))), [], 0) else G157_0 w Xs z (IntKind.i64.wrap (x11 + 1)) r))) else G157_0 w Xs z (IntKind.i64.wrap (x11 + 1)) r)) else r = (.one (.pv (.sc (.int .i64 3))), [], 0)) else r = (.one (.pv (.sc (.int .i64 3))), [], 0)) else r = (.one (.pv (.sc (.int .i64 (rowFault ((nth z x11.toNat).row))))), [], 0))) else r = (.one (.pv (.sc (.int .i64 0))), [], 0))) : G157_0 w Xs z x11 r := by
  obtain ⟨I, hI⟩ : ∃ I, I = real := ⟨_, rfl⟩; obtain ⟨K, k175, k176⟩ : ∃ K : FuncId → En, K 175 = en175 ∧ K 176 = en176 := ⟨fun g => (lk g [(175, en175), (176, en176)]).getD default, rfl, rfl⟩
  unfold G157_0 WL
  obtain ⟨q0, hq0⟩ := eqv (z.length : Int)
  try rw [← hq0]
  obtain ⟨q1, hq1⟩ := eqv (tEntry.encs z)
  try rw [← hq1]
  have hS := And.intro hI (And.intro k175 (And.intro k176 (And.intro hq0 hq1)))
  refine W_go (Y := (Y157 I K)) xok (tY157 hI k175 k176) Tryz.func157 rfl 2000 _ hI ?_; (conv => arg 4; cbv)
  exact fin
theorem go157 (z : List EntryV) {r : RES} (h : ∀ (w : World) (Xs : Nat → Prop), (if 200 < (z.length : Int) then r = (.one (.pv (.sc (.int .i64 2))), [], 0) else G157_0 w Xs z 0 r)) : Ok0 Tryz.prog 157 [(pL tEntry).enc z] r.1 r.2.1 r.2.2 := by
  obtain ⟨I, hI⟩ : ∃ I, I = real := ⟨_, rfl⟩; obtain ⟨K, k175, k176⟩ : ∃ K : FuncId → En, K 175 = en175 ∧ K 176 = en176 := ⟨fun g => (lk g [(175, en175), (176, en176)]).getD default, rfl, rfl⟩
  show Ok0 Tryz.prog 157 [.one (.pv (.sl false 2 (tEntry.encs z)))] _ _ _
  obtain ⟨q0, hq0⟩ := eqv (tEntry.encs z)
  try rw [← hq0]
  have hS := And.intro hI (And.intro k175 (And.intro k176 hq0))
  refine Ok0_run (Y := (Y157 I K)) xok (tY157 hI k175 k176) Tryz.func157 rfl rfl rfl 2000 hI fun w Xs => ?_; (conv => arg 4; cbv)
  replace h := h w Xs
  exact fin
theorem lm157 {w : World} {Xs : Nat → Prop} (z : List EntryV) (hl : z.length ≤ 200) : ∀ k i : Nat, k + i = z.length → (0 < i → (nth z (i - 1)).row.length ≤ 4) → G157_0 w Xs z i (rI (setLp z k i)) := by
  intro k
  induction k with
  | zero =>
    intro i hk hp
    apply st157_0
    rw [if_neg (by omega)]
    rfl
  | succ k ih =>
    intro i hk hp
    apply st157_0
    rw [if_pos (by omega), wsucc (by omega), Int.toNat_natCast, setLp]
    refine ⟨by omega, if_go (fun q => ?_) (fun q => ?_)⟩
    · have hl4 := rowFault_len q
      have nx : G157_0 w Xs z ((i + 1 : Nat) : Int) (rI (setLp z k (i + 1))) := ih (i + 1) (by omega) (fun _ => hl4)
      clear ih
      rw [if_neg (show ¬ rowFault (nth z i).row ≠ 0 from fun y => y q)]
      refine if_go (fun q1 => if_go (fun q2 => if_go (fun q3 => ?_) (fun q3 => if_go (fun q4 => ?_) (fun q4 => ?_))) (fun q2 => ?_)) (fun q1 => ?_)
      · rw [if_pos (Or.inr q3)]
      · have hn : ¬ (¬ (-1000000000000 ≤ (nth z i).weight ∧ (nth z i).weight ≤ 1000000000000) ∨ (nth z i).weight = 0) := by omega
        have hq : 0 < i := by omega
        rw [if_neg hn, wprev hq (by omega), Int.toNat_natCast]
        have hp := hp hq
        refine ⟨by omega, by omega, if_go (fun q5 => ?_) (fun q5 => ?_)⟩
        · rw [if_pos ⟨hq, by omega⟩]
        · rw [if_neg (fun y => q5 (by have y := y.2; omega))]; exact nx
      · have hn : ¬ (¬ (-1000000000000 ≤ (nth z i).weight ∧ (nth z i).weight ≤ 1000000000000) ∨ (nth z i).weight = 0) := by omega
        rw [if_neg hn, if_neg (fun y => by omega)]; exact nx
      · rw [if_pos (Or.inl (fun y => q2 y.2))]
      · rw [if_pos (Or.inl (fun y => q1 y.1))]
    · rw [if_pos q]
def sh157 : Shp := fun I i b l s => .ok (.one (.pv (.sc (.int .i64 (i 0)))), [], 0)
def an157 : An (List EntryV × Unit) where
  i _ t := setF t.1
noncomputable def en157 : En := mkE (parsC (pL tEntry) pars0) an157
attribute [simp] en157 an157
theorem ok157 (z : List EntryV)  : Ok0 Tryz.prog 157 [(pL tEntry).enc z] ((.one (.pv (.sc (.int .i64 (setF z)))), [], 0) : RES).1 ((.one (.pv (.sc (.int .i64 (setF z)))), [], 0) : RES).2.1 ((.one (.pv (.sc (.int .i64 (setF z)))), [], 0) : RES).2.2 := by
  refine go157 z fun w Xs => ?_
  unfold setF
  refine if_go (fun h => ?_) (fun h => ?_)
  · rw [if_pos (by omega)]
  · rw [if_neg (by omega)]; exact lm157 z (by omega) z.length 0 rfl (fun h => absurd h (by omega))
theorem s157 {I : Ops} (hI : I = real) {e : En} (he : e = en157) : Sound Tryz.prog 157 (callE I e sh157) := by
  refine Sound.mkE ent157 hI (fun _ => rfl) ?_ he
  rintro ⟨z, ⟨⟩⟩ hp
  exact ok157 z 
/-- Is each row so long? -/
def wideL (w : Int) (l : List EntryV) : Int := if l.all (fun e => decide ((e.row.length : Int) = w)) = true then 0 else 1
def wdF (z : List EntryV) (w : Int) : Int := if setF z = 0 then wideL w z else setF z
theorem ent145 : Enters Tryz.prog 145 := ⟨Tryz.f145, Tryz.func145, by kernel_rfl, by kernel_rfl⟩
abbrev G145_0 (w : World) (Xs : Nat → Prop) (z : List EntryV) (width : Int) (i : Int) (r : RES) : Prop := WL [0, 1, 6] Tryz.prog 145 Tryz.f145 (Ent0 w Xs) (Back (Ent0 w Xs) r.1 r.2.1 r.2.2) (place (bodyOf Tryz.f145) [1,1,0,1,0,0] [])
  ⟨[(0, .one (.pv (.sl false 2 (tEntry.encs z)))), (1, .one (.pv (.sc (.int .i64 width)))), (6, .one (.pv (.sc (.int .i64 i))))], [], 0⟩
noncomputable def Y145 (I : Ops) (K : FuncId → En) : CallsA := (Tab.calls [(167, true, callRd I (callE I (K 167) sh167))])
theorem tY145 {I : Ops} (hI : I = real) {K : FuncId → En} (k167 : K 167 = en167) : CallsOk Tryz.prog (Y145 I K) := (TabOk.calls mixed ⟨EntryOk.rd (s167 hI k167) hI, fun _ => callRd_quiet _ _, trivial⟩)
theorem st145_0 {w : World} {Xs : Nat → Prop} (z : List EntryV) (width : Int) (i : Int) {r : RES} (h : (if i < (z.length : Int) then ((0 ≤ i ∧ i < (z.length : Int)) ∧ (if (((nth z i.toNat).row).length : Int) = width then G145_0 w Xs z width (IntKind.i64.wrap (i + 1)) r else r = (.one (.pv (.sc (.int .i64 1))), [], 0))) else r = (.one (.pv (.sc (.int .i64 0))), [], 0))) : G145_0 w Xs z width i r := by
  obtain ⟨I, hI⟩ : ∃ I, I = real := ⟨_, rfl⟩; obtain ⟨K, k167⟩ : ∃ K : FuncId → En, K 167 = en167 := ⟨fun g => (lk g [(167, en167)]).getD default, rfl⟩
  unfold G145_0 WL
  obtain ⟨q0, hq0⟩ := eqv (tEntry.encs z)
  try rw [← hq0]
  have hS := And.intro hI (And.intro k167 hq0)
  refine W_go (Y := (Y145 I K)) xok (tY145 hI k167) Tryz.func145 rfl 2000 _ hI ?_; (conv => arg 4; cbv)
  exact fin
theorem go145 (z : List EntryV) (width : Int) {r : RES} (h : ∀ (w : World) (Xs : Nat → Prop), (if setF z = 0 then G145_0 w Xs z width 0 r else r = (.one (.pv (.sc (.int .i64 (setF z)))), [], 0))) : Ok0 Tryz.prog 145 [(pL tEntry).enc z, pI.enc width] r.1 r.2.1 r.2.2 := by
  obtain ⟨I, hI⟩ : ∃ I, I = real := ⟨_, rfl⟩; obtain ⟨K, k167⟩ : ∃ K : FuncId → En, K 167 = en167 := ⟨fun g => (lk g [(167, en167)]).getD default, rfl⟩
  show Ok0 Tryz.prog 145 [.one (.pv (.sl false 2 (tEntry.encs z))), .one (.pv (.sc (.int .i64 width)))] _ _ _
  obtain ⟨q0, hq0⟩ := eqv (tEntry.encs z)
  try rw [← hq0]
  have hS := And.intro hI (And.intro k167 hq0)
  refine Ok0_run (Y := (Y145 I K)) xok (tY145 hI k167) Tryz.func145 rfl rfl rfl 2000 hI fun w Xs => ?_; (conv => arg 4; cbv)
  replace h := h w Xs
  exact fin
theorem lm145 {w : World} {Xs : Nat → Prop} (z : List EntryV) (width : Int) (hl : z.length ≤ 200) : ∀ k i : Nat, k + i = z.length → G145_0 w Xs z width i (rI (wideL width (z.drop i))) := by
  intro k
  induction k with
  | zero =>
    intro i hk
    apply st145_0
    rw [if_neg (by omega), drop_nil (l := z) (by omega)]
    rfl
  | succ k ih =>
    intro i hk
    apply st145_0
    rw [if_pos (by omega), wsucc (by omega), Int.toNat_natCast, nth_drop (l := z) (i := i) (by omega)]
    refine ⟨by omega, if_go (fun q => ?_) (fun q => ?_)⟩
    · have := ih (i + 1) (by omega)
      simpa [wideL, q] using this
    · simp [wideL, q]
def sh145 : Shp := fun I i b l s => .ok (.one (.pv (.sc (.int .i64 (i 0)))), [], 0)
def an145 : An (List EntryV × Int × Unit) where
  i _ t := wdF t.1 t.2.1
noncomputable def en145 : En := mkE (parsC (pL tEntry) (parsC pI pars0)) an145
attribute [simp] en145 an145
theorem ok145 (z : List EntryV) (width : Int)  : Ok0 Tryz.prog 145 [(pL tEntry).enc z, pI.enc width] ((.one (.pv (.sc (.int .i64 (wdF z width)))), [], 0) : RES).1 ((.one (.pv (.sc (.int .i64 (wdF z width)))), [], 0) : RES).2.1 ((.one (.pv (.sc (.int .i64 (wdF z width)))), [], 0) : RES).2.2 := by
  refine go145 z width fun w Xs => ?_
  unfold wdF
  refine if_go (fun h => ?_) (fun h => ?_)
  · rw [if_pos h]; exact lm145 z width (setF_ok h).1 z.length 0 rfl
  · rw [if_neg h]
theorem s145 {I : Ops} (hI : I = real) {e : En} (he : e = en145) : Sound Tryz.prog 145 (callE I e sh145) := by
  refine Sound.mkE ent145 hI (fun _ => rfl) ?_ he
  rintro ⟨z, width, ⟨⟩⟩ hp
  exact ok145 z width 
theorem ent125 : Enters Tryz.prog 125 := ⟨Tryz.f125, Tryz.func125, by kernel_rfl, by kernel_rfl⟩
abbrev G125_0 (w : World) (Xs : Nat → Prop) (z : List EntryV) (width : Int) (x15 : Int) (r : RES) : Prop := WL [1, 13, 14, 15] Tryz.prog 125 Tryz.f125 (Ent0 w Xs) (Back (Ent0 w Xs) r.1 r.2.1 r.2.2) (place (bodyOf Tryz.f125) [1,1,0,1,0,0] [])
  ⟨[(1, .one (.pv (.sc (.int .i64 width)))), (13, .one (.pv (.sl false 2 (tEntry.encs z)))), (14, .one (.pv (.sc (.int .i64 (z.length : Int))))), (15, .one (.pv (.sc (.int .i64 x15))))], [], 0⟩
noncomputable def Y125 (I : Ops) (K : FuncId → En) : CallsA := (Tab.calls [(157, true, callRd I (callE I (K 157) sh157)), (152, true, callRd I (inl X I (Tab.calls []) Tryz.f152))])
theorem tY125 {I : Ops} (hI : I = real) {K : FuncId → En} (k157 : K 157 = en157) : CallsOk Tryz.prog (Y125 I K) := (TabOk.calls mixed ⟨EntryOk.rd (s157 hI k157) hI, fun _ => callRd_quiet _ _, ⟨EntryOk.rd (s152 hI) hI, fun _ => callRd_quiet _ _, trivial⟩⟩)
theorem st125_0 {w : World} {Xs : Nat → Prop} (z : List EntryV) (width : Int) (x15 : Int) {r : RES} (h : (if x15 < (z.length : Int) then ((0 ≤ x15 ∧ x15 < (z.length : Int)) ∧ (if (((nth z x15.toNat).row).length : Int) = width then G125_0 w Xs z width (IntKind.i64.wrap (x15 + 1)) r else r = (.one (.pv (.sc (.int .i64 1))), [], 0))) else r = (.one (.pv (.sc (.int .i64 0))), [], 0))) : G125_0 w Xs z width x15 r := by
  obtain ⟨I, hI⟩ : ∃ I, I = real := ⟨_, rfl⟩; obtain ⟨K, k157⟩ : ∃ K : FuncId → En, K 157 = en157 := ⟨fun g => (lk g [(157, en157)]).getD default, rfl⟩
  unfold G125_0 WL
  obtain ⟨q0, hq0⟩ := eqv (z.length : Int)
  try rw [← hq0]
  obtain ⟨q1, hq1⟩ := eqv (tEntry.encs z)
  try rw [← hq1]
  have hS := And.intro hI (And.intro k157 (And.intro hq0 hq1))
  refine W_go (Y := (Y125 I K)) xok (tY125 hI k157) Tryz.func125 rfl 2000 _ hI ?_; (conv => arg 4; cbv)
  exact fin
theorem go125 (z : List EntryV) (width : Int) {r : RES} (h : ∀ (w : World) (Xs : Nat → Prop), (if setF z = 0 then G125_0 w Xs z width 0 r else r = (.one (.pv (.sc (.int .i64 (setF z)))), [], 0))) : Ok0 Tryz.prog 125 [(pL tEntry).enc z, pI.enc width] r.1 r.2.1 r.2.2 := by
  obtain ⟨I, hI⟩ : ∃ I, I = real := ⟨_, rfl⟩; obtain ⟨K, k157⟩ : ∃ K : FuncId → En, K 157 = en157 := ⟨fun g => (lk g [(157, en157)]).getD default, rfl⟩
  show Ok0 Tryz.prog 125 [.one (.pv (.sl false 2 (tEntry.encs z))), .one (.pv (.sc (.int .i64 width)))] _ _ _
  obtain ⟨q0, hq0⟩ := eqv (tEntry.encs z)
  try rw [← hq0]
  have hS := And.intro hI (And.intro k157 hq0)
  refine Ok0_run (Y := (Y125 I K)) xok (tY125 hI k157) Tryz.func125 rfl rfl rfl 2000 hI fun w Xs => ?_; (conv => arg 4; cbv)
  replace h := h w Xs
  exact fin
theorem lm125 {w : World} {Xs : Nat → Prop} (z : List EntryV) (width : Int) (hl : z.length ≤ 200) : ∀ k i : Nat, k + i = z.length → G125_0 w Xs z width i (rI (wideL width (z.drop i))) := by
  intro k
  induction k with
  | zero =>
    intro i hk
    apply st125_0
    rw [if_neg (by omega), drop_nil (l := z) (by omega)]
    rfl
  | succ k ih =>
    intro i hk
    apply st125_0
    rw [if_pos (by omega), wsucc (by omega), Int.toNat_natCast, nth_drop (l := z) (i := i) (by omega)]
    refine ⟨by omega, if_go (fun q => ?_) (fun q => ?_)⟩
    · have := ih (i + 1) (by omega)
      simpa [wideL, q] using this
    · simp [wideL, q]
def sh125 : Shp := fun I i b l s => .ok (.one (.pv (.sc (.int .i64 (i 0)))), [], 0)
def an125 : An (List EntryV × Int × Unit) where
  i _ t := wdF t.1 t.2.1
noncomputable def en125 : En := mkE (parsC (pL tEntry) (parsC pI pars0)) an125
attribute [simp] en125 an125
theorem ok125 (z : List EntryV) (width : Int)  : Ok0 Tryz.prog 125 [(pL tEntry).enc z, pI.enc width] ((.one (.pv (.sc (.int .i64 (wdF z width)))), [], 0) : RES).1 ((.one (.pv (.sc (.int .i64 (wdF z width)))), [], 0) : RES).2.1 ((.one (.pv (.sc (.int .i64 (wdF z width)))), [], 0) : RES).2.2 := by
  refine go125 z width fun w Xs => ?_
  unfold wdF
  refine if_go (fun h => ?_) (fun h => ?_)
  · rw [if_pos h]; exact lm125 z width (setF_ok h).1 z.length 0 rfl
  · rw [if_neg h]
theorem s125 {I : Ops} (hI : I = real) {e : En} (he : e = en125) : Sound Tryz.prog 125 (callE I e sh125) := by
  refine Sound.mkE ent125 hI (fun _ => rfl) ?_ he
  rintro ⟨z, width, ⟨⟩⟩ hp
  exact ok125 z width 
end Go.Proofs.Tryz
