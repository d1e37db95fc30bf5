/- Contracts. -/
import Derived.Test.YtiieincddkhcdaaGreatLg
set_option linter.unusedSimpArgs false
set_option linter.unusedVariables false
namespace Go.Proofs.Tryz
open Go Go.Aix
set_option maxRecDepth 100000
set_option maxHeartbeats 4000000
/-- The order of rows. -/
def cmpR : List Int → List Int → Int
  | [], [] => 0
  | [], _ :: _ => -1
  | _ :: _, [] => 1
  | a :: r, b :: s => if a < b then -1 else if b < a then 1 else cmpR r s
theorem cmpR_end : ∀ {l r : List Int} {i : Nat}, i ≤ l.length → i ≤ r.length → (i = l.length ∨ i = r.length) → cmpR (l.drop i) (r.drop i) = if l.length < r.length then -1 else if r.length < l.length then 1 else 0
  | [], [], 0, _, _, _ => rfl
  | [], _ :: _, 0, _, _, _ => by simp [cmpR]
  | _ :: _, [], 0, _, _, _ => by simp [cmpR]
  | a :: l, b :: r, 0, _, _, h => by simp at h
  | a :: l, b :: r, i + 1, h1, h2, h3 => by
    simp only [List.drop_succ_cons, List.length_cons]
    rw [cmpR_end (by simpa using h1) (by simpa using h2) (by simpa using h3)]
    simp only [Nat.add_lt_add_iff_right]
  | [], _, i + 1, h1, _, _ => by simp at h1
  | _ :: _, [], i + 1, _, h2, _ => by simp at h2
theorem cmpR_anti : ∀ (l r : List Int), cmpR r l = - cmpR l r
  | [], [] => rfl
  | [], _ :: _ => rfl
  | _ :: _, [] => rfl
  | a :: l, b :: r => by
    rw [cmpR, cmpR]
    (repeat' split) <;> first | omega | exact cmpR_anti l r
def cmpI (a b : Int) : Int := if a < b then -1 else if b < a then 1 else 0
def orL : List Int → Int
  | [] => 0
  | c :: r => if c = 0 then orL r else c
theorem rowFault_len {l : List Int} (h : rowFault l = 0) : l.length ≤ 4 := by
  unfold rowFault at h
  split at h <;> omega
theorem ent175 : Enters Tryz.prog 175 := ⟨Tryz.f175, Tryz.func175, by kernel_rfl, by kernel_rfl⟩
abbrev G175_0 (w : World) (Xs : Nat → Prop) (row : List Int) (x10 : Int) (r : RES) : Prop := WL [8, 9, 10] Tryz.prog 175 Tryz.f175 (Ent0 w Xs) (Back (Ent0 w Xs) r.1 r.2.1 r.2.2) (place (bodyOf Tryz.f175) [1,1,0,1,0,0] [])
  ⟨[(8, .one (.pv (.sl false 1 (tI64.encs row)))), (9, .one (.pv (.sc (.int .i64 (row.length : Int))))), (10, .one (.pv (.sc (.int .i64 x10))))], [], 0⟩
noncomputable def Y175 (I : Ops) : CallsA := (Tab.calls [(47, true, callRd I (inl X I (Tab.calls []) Tryz.f47))])
theorem tY175 {I : Ops} (hI : I = real)  : CallsOk Tryz.prog (Y175 I) := (TabOk.calls mixed ⟨EntryOk.rd (s47 hI) hI, fun _ => callRd_quiet _ _, trivial⟩)
theorem st175_0 {w : World} {Xs : Nat → Prop} (row : List Int) (x10 : Int) {r : RES} (h : (if x10 < (row.length : Int) then ((0 ≤ x10 ∧ x10 < (row.length : Int)) ∧ (if (-1000000000) ≤ (nth row x10.toNat) then (if (nth row x10.toNat) ≤ 1000000000 then G175_0 w Xs row (IntKind.i64.wrap (x10 + 1)) r else r = (.one (.pv (.sc (.int .i64 3))), [], 0)) else r = (.one (.pv (.sc (.int .i64 3))), [], 0))) else r = (.one (.pv (.sc (.int .i64 0))), [], 0))) : G175_0 w Xs row x10 r := by
  obtain ⟨I, hI⟩ : ∃ I, I = real := ⟨_, rfl⟩
  unfold G175_0 WL
  obtain ⟨q0, hq0⟩ := eqv (row.length : Int)
  try rw [← hq0]
  obtain ⟨q1, hq1⟩ := eqv (tI64.encs row)
  try rw [← hq1]
  have hS := And.intro hI (And.intro hq0 hq1)
  refine W_go (Y := (Y175 I)) xok (tY175 hI) Tryz.func175 rfl 2000 _ hI ?_; (conv => arg 4; cbv)
  exact fin
theorem go175 (row : List Int) {r : RES} (h : ∀ (w : World) (Xs : Nat → Prop), (if 4 < (row.length : Int) then r = (.one (.pv (.sc (.int .i64 2))), [], 0) else G175_0 w Xs row 0 r)) : Ok0 Tryz.prog 175 [(pL tI64).enc row] r.1 r.2.1 r.2.2 := by
  obtain ⟨I, hI⟩ : ∃ I, I = real := ⟨_, rfl⟩
  show Ok0 Tryz.prog 175 [.one (.pv (.sl false 1 (tI64.encs row)))] _ _ _
  obtain ⟨q0, hq0⟩ := eqv (tI64.encs row)
  try rw [← hq0]
  have hS := And.intro hI hq0
  refine Ok0_run (Y := (Y175 I)) xok (tY175 hI) Tryz.func175 rfl rfl rfl 2000 hI fun w Xs => ?_; (conv => arg 4; cbv)
  replace h := h w Xs
  exact fin
theorem lm175 {w : World} {Xs : Nat → Prop} (row : List Int) (hl : row.length ≤ 4) : ∀ k i : Nat, k + i = row.length → G175_0 w Xs row i (rI (rowLp (row.drop i))) := by
  intro k
  induction k with
  | zero =>
    intro i hk
    apply st175_0
    rw [if_neg (by omega), drop_nil (l := row) (by omega)]
    rfl
  | succ k ih =>
    intro i hk
    apply st175_0
    rw [if_pos (by omega), wsucc (by omega), Int.toNat_natCast, nth_drop (l := row) (i := i) (by omega), rowLp]
    refine ⟨by omega, if_go (fun q => if_go (fun q2 => ?_) (fun q2 => ?_)) (fun q => ?_)⟩
    · rw [if_pos ⟨q, q2⟩]; exact ih (i + 1) (by omega)
    · rw [if_neg (fun z => q2 z.2)]
    · rw [if_neg (fun z => q z.1)]
def sh175 : Shp := fun I i b l s => .ok (.one (.pv (.sc (.int .i64 (i 0)))), [], 0)
def an175 : An (List Int × Unit) where
  i _ t := rowFault t.1
noncomputable def en175 : En := mkE (parsC (pL tI64) pars0) an175
attribute [simp] en175 an175
theorem ok175 (row : List Int)  : Ok0 Tryz.prog 175 [(pL tI64).enc row] ((.one (.pv (.sc (.int .i64 (rowFault row)))), [], 0) : RES).1 ((.one (.pv (.sc (.int .i64 (rowFault row)))), [], 0) : RES).2.1 ((.one (.pv (.sc (.int .i64 (rowFault row)))), [], 0) : RES).2.2 := by
  refine go175 row fun w Xs => ?_
  unfold rowFault
  refine if_go (fun h => ?_) (fun h => ?_)
  · rw [if_pos (by omega)]
  · rw [if_neg (by omega)]; exact lm175 row (by omega) row.length 0 rfl
theorem s175 {I : Ops} (hI : I = real) {e : En} (he : e = en175) : Sound Tryz.prog 175 (callE I e sh175) := by
  refine Sound.mkE ent175 hI (fun _ => rfl) ?_ he
  rintro ⟨row, ⟨⟩⟩ hp
  exact ok175 row 
theorem ent179 : Enters Tryz.prog 179 := ⟨Tryz.f179, Tryz.func179, by kernel_rfl, by kernel_rfl⟩
abbrev G179_0 (w : World) (Xs : Nat → Prop) (row : List Int) (i : Int) (r : RES) : Prop := WL [0, 3] Tryz.prog 179 Tryz.f179 (Ent0 w Xs) (Back (Ent0 w Xs) r.1 r.2.1 r.2.2) (place (bodyOf Tryz.f179) [1,1,0,1,0,0] [])
  ⟨[(0, .one (.pv (.sl false 1 (tI64.encs row)))), (3, .one (.pv (.sc (.int .i64 i))))], [], 0⟩
noncomputable def Y179 (I : Ops) : CallsA := (Tab.calls [(42, true, callRd I (inl X I (Tab.calls []) Tryz.f42))])
theorem tY179 {I : Ops} (hI : I = real)  : CallsOk Tryz.prog (Y179 I) := (TabOk.calls mixed ⟨EntryOk.rd (s42 hI) hI, fun _ => callRd_quiet _ _, trivial⟩)
theorem st179_0 {w : World} {Xs : Nat → Prop} (row : List Int) (i : Int) {r : RES} (h : (if i < (row.length : Int) then ((0 ≤ i ∧ i < (row.length : Int)) ∧ (if (-1000000000) ≤ (nth row i.toNat) then (if (nth row i.toNat) ≤ 1000000000 then G179_0 w Xs row (IntKind.i64.wrap (i + 1)) r else r = (.one (.pv (.sc (.int .i64 3))), [], 0)) else r = (.one (.pv (.sc (.int .i64 3))), [], 0))) else r = (.one (.pv (.sc (.int .i64 0))), [], 0))) : G179_0 w Xs row i r := by
  obtain ⟨I, hI⟩ : ∃ I, I = real := ⟨_, rfl⟩
  unfold G179_0 WL
  obtain ⟨q0, hq0⟩ := eqv (tI64.encs row)
  try rw [← hq0]
  have hS := And.intro hI hq0
  refine W_go (Y := (Y179 I)) xok (tY179 hI) Tryz.func179 rfl 2000 _ hI ?_; (conv => arg 4; cbv)
  exact fin
theorem go179 (row : List Int) {r : RES} (h : ∀ (w : World) (Xs : Nat → Prop), (if 4 < (row.length : Int) then r = (.one (.pv (.sc (.int .i64 2))), [], 0) else G179_0 w Xs row 0 r)) : Ok0 Tryz.prog 179 [(pL tI64).enc row] r.1 r.2.1 r.2.2 := by
  obtain ⟨I, hI⟩ : ∃ I, I = real := ⟨_, rfl⟩
  show Ok0 Tryz.prog 179 [.one (.pv (.sl false 1 (tI64.encs row)))] _ _ _
  obtain ⟨q0, hq0⟩ := eqv (tI64.encs row)
  try rw [← hq0]
  have hS := And.intro hI hq0
  refine Ok0_run (Y := (Y179 I)) xok (tY179 hI) Tryz.func179 rfl rfl rfl 2000 hI fun w Xs => ?_; (conv => arg 4; cbv)
  replace h := h w Xs
  exact fin
theorem lm179 {w : World} {Xs : Nat → Prop} (row : List Int) (hl : row.length ≤ 4) : ∀ k i : Nat, k + i = row.length → G179_0 w Xs row i (rI (rowLp (row.drop i))) := by
  intro k
  induction k with
  | zero =>
    intro i hk
    apply st179_0
    rw [if_neg (by omega), drop_nil (l := row) (by omega)]
    rfl
  | succ k ih =>
    intro i hk
    apply st179_0
    rw [if_pos (by omega), wsucc (by omega), Int.toNat_natCast, nth_drop (l := row) (i := i) (by omega), rowLp]
    refine ⟨by omega, if_go (fun q => if_go (fun q2 => ?_) (fun q2 => ?_)) (fun q => ?_)⟩
    · rw [if_pos ⟨q, q2⟩]; exact ih (i + 1) (by omega)
    · rw [if_neg (fun z => q2 z.2)]
    · rw [if_neg (fun z => q z.1)]
def sh179 : Shp := fun I i b l s => .ok (.one (.pv (.sc (.int .i64 (i 0)))), [], 0)
def an179 : An (List Int × Unit) where
  i _ t := rowFault t.1
noncomputable def en179 : En := mkE (parsC (pL tI64) pars0) an179
attribute [simp] en179 an179
theorem ok179 (row : List Int)  : Ok0 Tryz.prog 179 [(pL tI64).enc row] ((.one (.pv (.sc (.int .i64 (rowFault row)))), [], 0) : RES).1 ((.one (.pv (.sc (.int .i64 (rowFault row)))), [], 0) : RES).2.1 ((.one (.pv (.sc (.int .i64 (rowFault row)))), [], 0) : RES).2.2 := by
  refine go179 row fun w Xs => ?_
  unfold rowFault
  refine if_go (fun h => ?_) (fun h => ?_)
  · rw [if_pos (by omega)]
  · rw [if_neg (by omega)]; exact lm179 row (by omega) row.length 0 rfl
theorem s179 {I : Ops} (hI : I = real) {e : En} (he : e = en179) : Sound Tryz.prog 179 (callE I e sh179) := by
  refine Sound.mkE ent179 hI (fun _ => rfl) ?_ he
  rintro ⟨row, ⟨⟩⟩ hp
  exact ok179 row 
theorem ent181 : Enters Tryz.prog 181 := ⟨Tryz.f181, Tryz.func181, by kernel_rfl, by kernel_rfl⟩
theorem s181 {I : Ops} (hI : I = real)  : Sound Tryz.prog 181 (inl X I (Tab.calls []) Tryz.f181) :=
  Sound.inl (Y := (Tab.calls [])) xok (TabOk.calls mixed trivial) ent181 Tryz.func181 rfl rfl hI
theorem ent173 : Enters Tryz.prog 173 := ⟨Tryz.f173, Tryz.func173, by kernel_rfl, by kernel_rfl⟩
noncomputable def Y173 (I : Ops) : CallsA := (Tab.calls [(181, true, callRd I (inl X I (Tab.calls []) Tryz.f181))])
theorem tY173 {I : Ops} (hI : I = real)  : CallsOk Tryz.prog (Y173 I) := (TabOk.calls mixed ⟨EntryOk.rd (s181 hI) hI, fun _ => callRd_quiet _ _, trivial⟩)
theorem go173 (x : Int) (y : Int) {r : RES} (h : ∀ (w : World) (Xs : Nat → Prop), (if x < y then r = (.one (.pv (.sc (.int .i64 (-1)))), [], 0) else (if y < x then r = (.one (.pv (.sc (.int .i64 1))), [], 0) else r = (.one (.pv (.sc (.int .i64 0))), [], 0)))) : Ok0 Tryz.prog 173 [pI.enc x, pI.enc y] r.1 r.2.1 r.2.2 := by
  obtain ⟨I, hI⟩ : ∃ I, I = real := ⟨_, rfl⟩
  show Ok0 Tryz.prog 173 [.one (.pv (.sc (.int .i64 x))), .one (.pv (.sc (.int .i64 y)))] _ _ _
  have hS := hI
  refine Ok0_run (Y := (Y173 I)) xok (tY173 hI) Tryz.func173 rfl rfl rfl 2000 hI fun w Xs => ?_; (conv => arg 4; cbv)
  replace h := h w Xs
  exact fin
def sh173 : Shp := fun I i b l s => .ok (.one (.pv (.sc (.int .i64 (i 0)))), [], 0)
def an173 : An (Int × Int × Unit) where
  i _ t := cmpI t.1 t.2.1
noncomputable def en173 : En := mkE (parsC pI (parsC pI pars0)) an173
attribute [simp] en173 an173
theorem ok173 (x : Int) (y : Int)  : Ok0 Tryz.prog 173 [pI.enc x, pI.enc y] ((.one (.pv (.sc (.int .i64 (cmpI x y)))), [], 0) : RES).1 ((.one (.pv (.sc (.int .i64 (cmpI x y)))), [], 0) : RES).2.1 ((.one (.pv (.sc (.int .i64 (cmpI x y)))), [], 0) : RES).2.2 := by
  refine go173 x y fun w Xs => ?_
  unfold cmpI
  refine if_go (fun h => ?_) (fun h => if_go (fun h2 => ?_) (fun h2 => ?_))
  · rw [if_pos h]
  · rw [if_neg h, if_pos h2]
  · rw [if_neg h, if_neg h2]
theorem s173 {I : Ops} (hI : I = real) {e : En} (he : e = en173) : Sound Tryz.prog 173 (callE I e sh173) := by
  refine Sound.mkE ent173 hI (fun _ => rfl) ?_ he
  rintro ⟨x, y, ⟨⟩⟩ hp
  exact ok173 x y 
theorem ent184 : Enters Tryz.prog 184 := ⟨Tryz.f184, Tryz.func184, by kernel_rfl, by kernel_rfl⟩
theorem s184 {I : Ops} (hI : I = real)  : Sound Tryz.prog 184 (inl X I (Tab.calls []) Tryz.f184) :=
  Sound.inl (Y := (Tab.calls [])) xok (TabOk.calls mixed trivial) ent184 Tryz.func184 rfl rfl hI
theorem ent182 : Enters Tryz.prog 182 := ⟨Tryz.f182, Tryz.func182, by kernel_rfl, by kernel_rfl⟩
noncomputable def Y182 (I : Ops) : CallsA := (Tab.calls [(184, true, callRd I (inl X I (Tab.calls []) Tryz.f184))])
theorem tY182 {I : Ops} (hI : I = real)  : CallsOk Tryz.prog (Y182 I) := (TabOk.calls mixed ⟨EntryOk.rd (s184 hI) hI, fun _ => callRd_quiet _ _, trivial⟩)
theorem go182 (x : Int) (y : Int) {r : RES} (h : ∀ (w : World) (Xs : Nat → Prop), (if x < y then r = (.one (.pv (.sc (.int .i64 (-1)))), [], 0) else (if y < x then r = (.one (.pv (.sc (.int .i64 1))), [], 0) else r = (.one (.pv (.sc (.int .i64 0))), [], 0)))) : Ok0 Tryz.prog 182 [pI.enc x, pI.enc y] r.1 r.2.1 r.2.2 := by
  obtain ⟨I, hI⟩ : ∃ I, I = real := ⟨_, rfl⟩
  show Ok0 Tryz.prog 182 [.one (.pv (.sc (.int .i64 x))), .one (.pv (.sc (.int .i64 y)))] _ _ _
  have hS := hI
  refine Ok0_run (Y := (Y182 I)) xok (tY182 hI) Tryz.func182 rfl rfl rfl 2000 hI fun w Xs => ?_; (conv => arg 4; cbv)
  replace h := h w Xs
  exact fin
def sh182 : Shp := fun I i b l s => .ok (.one (.pv (.sc (.int .i64 (i 0)))), [], 0)
def an182 : An (Int × Int × Unit) where
  i _ t := cmpI t.1 t.2.1
noncomputable def en182 : En := mkE (parsC pI (parsC pI pars0)) an182
attribute [simp] en182 an182
theorem ok182 (x : Int) (y : Int)  : Ok0 Tryz.prog 182 [pI.enc x, pI.enc y] ((.one (.pv (.sc (.int .i64 (cmpI x y)))), [], 0) : RES).1 ((.one (.pv (.sc (.int .i64 (cmpI x y)))), [], 0) : RES).2.1 ((.one (.pv (.sc (.int .i64 (cmpI x y)))), [], 0) : RES).2.2 := by
  refine go182 x y fun w Xs => ?_
  unfold cmpI
  refine if_go (fun h => ?_) (fun h => if_go (fun h2 => ?_) (fun h2 => ?_))
  · rw [if_pos h]
  · rw [if_neg h, if_pos h2]
  · rw [if_neg h, if_neg h2]
theorem s182 {I : Ops} (hI : I = real) {e : En} (he : e = en182) : Sound Tryz.prog 182 (callE I e sh182) := by
  refine Sound.mkE ent182 hI (fun _ => rfl) ?_ he
  rintro ⟨x, y, ⟨⟩⟩ hp
  exact ok182 x y 
theorem ent172 : Enters Tryz.prog 172 := ⟨Tryz.f172, Tryz.func172, by kernel_rfl, by kernel_rfl⟩
abbrev G172_0 (w : World) (Xs : Nat → Prop) (vals : List Int) (x8 : Int) (r : RES) : Prop := WL [3, 6, 7, 8] Tryz.prog 172 Tryz.f172 (Ent0 w Xs) (Back (Ent0 w Xs) r.1 r.2.1 r.2.2) (place (bodyOf Tryz.f172) [1,1,0,1,0,0] [])
  ⟨[(3, .one (.pv (.sc (.int .i64 0)))), (6, .one (.pv (.sl false 1 (tI64.encs vals)))), (7, .one (.pv (.sc (.int .i64 (vals.length : Int))))), (8, .one (.pv (.sc (.int .i64 x8))))], [], 0⟩
theorem st172_0 {w : World} {Xs : Nat → Prop} (vals : List Int) (x8 : Int) {r : RES} (h : (if x8 < (vals.length : Int) then ((0 ≤ x8 ∧ x8 < (vals.length : Int)) ∧ (if (nth vals x8.toNat) = 0 then G172_0 w Xs vals (IntKind.i64.wrap (x8 + 1)) r else r = (.one (.pv (.sc (.int .i64 (nth vals x8.toNat)))), [], 0))) else r = (.one (.pv (.sc (.int .i64 0))), [], 0))) : G172_0 w Xs vals x8 r := by
  obtain ⟨I, hI⟩ : ∃ I, I = real := ⟨_, rfl⟩
  unfold G172_0 WL
  obtain ⟨q0, hq0⟩ := eqv (vals.length : Int)
  try rw [← hq0]
  obtain ⟨q1, hq1⟩ := eqv (tI64.encs vals)
  try rw [← hq1]
  have hS := And.intro hI (And.intro hq0 hq1)
  refine W_go (Y := (Tab.calls [])) xok (TabOk.calls mixed trivial) Tryz.func172 rfl 2000 _ hI ?_; (conv => arg 4; cbv)
  exact fin
theorem go172 (vals : List Int) {r : RES} (h : ∀ (w : World) (Xs : Nat → Prop), G172_0 w Xs vals 0 r) : Ok0 Tryz.prog 172 [(pL tI64).enc vals] r.1 r.2.1 r.2.2 := by
  obtain ⟨I, hI⟩ : ∃ I, I = real := ⟨_, rfl⟩
  show Ok0 Tryz.prog 172 [.one (.pv (.sl false 1 (tI64.encs vals)))] _ _ _
  obtain ⟨q0, hq0⟩ := eqv (tI64.encs vals)
  try rw [← hq0]
  have hS := And.intro hI hq0
  refine Ok0_run (Y := (Tab.calls [])) xok (TabOk.calls mixed trivial) Tryz.func172 rfl rfl rfl 2000 hI fun w Xs => ?_; (conv => arg 4; cbv)
  replace h := h w Xs
  exact fin
theorem lm172 {w : World} {Xs : Nat → Prop} (vals : List Int) (hl : vals.length ≤ 1048576) : ∀ k i : Nat, k + i = vals.length → G172_0 w Xs vals i (rI (orL (vals.drop i))) := by
  intro k
  induction k with
  | zero =>
    intro i hk
    apply st172_0
    rw [if_neg (by omega), drop_nil (l := vals) (by omega)]
    rfl
  | succ k ih =>
    intro i hk
    apply st172_0
    rw [if_pos (by omega), wsucc (by omega), Int.toNat_natCast, nth_drop (l := vals) (i := i) (by omega), orL]
    refine ⟨by omega, if_go (fun q => ?_) (fun q => ?_)⟩
    · rw [if_pos q]; exact ih (i + 1) (by omega)
    · rw [if_neg q]
def sh172 : Shp := fun I i b l s => .ok (.one (.pv (.sc (.int .i64 (i 0)))), [], 0)
def an172 : An (List Int × Unit) where
  pre t := decide (t.1.length ≤ 1048576)
  i _ t := orL t.1
noncomputable def en172 : En := mkE (parsC (pL tI64) pars0) an172
attribute [simp] en172 an172
theorem ok172 (vals : List Int) (p0 : vals.length ≤ 1048576) : Ok0 Tryz.prog 172 [(pL tI64).enc vals] ((.one (.pv (.sc (.int .i64 (orL vals)))), [], 0) : RES).1 ((.one (.pv (.sc (.int .i64 (orL vals)))), [], 0) : RES).2.1 ((.one (.pv (.sc (.int .i64 (orL vals)))), [], 0) : RES).2.2 := by
  exact go172 vals fun w Xs => lm172 vals p0 vals.length 0 rfl
theorem s172 {I : Ops} (hI : I = real) {e : En} (he : e = en172) : Sound Tryz.prog 172 (callE I e sh172) := by
  refine Sound.mkE ent172 hI (fun _ => rfl) ?_ he
  rintro ⟨vals, ⟨⟩⟩ hp
  have hp : (decide (vals.length ≤ 1048576)) = true := hp
  try simp only [Bool.and_eq_true, decide_eq_true_eq] at hp
  have p0 := hp
  exact ok172 vals p0
theorem tI64_two (a b : Int) : [[PV.sc (.int .i64 a)], [PV.sc (.int .i64 b)]] = tI64.encs [a, b] := rfl
theorem ent155 : Enters Tryz.prog 155 := ⟨Tryz.f155, Tryz.func155, by kernel_rfl, by kernel_rfl⟩
noncomputable def Y155 (I : Ops) (K : FuncId → En) : CallsA := (Tab.calls [(173, true, callRd I (callE I (K 173) sh173)), (172, true, callRd I (callE I (K 172) sh172))])
theorem tY155 {I : Ops} (hI : I = real) {K : FuncId → En} (k173 : K 173 = en173) (k172 : K 172 = en172) : CallsOk Tryz.prog (Y155 I K) := (TabOk.calls mixed ⟨EntryOk.rd (s173 hI k173) hI, fun _ => callRd_quiet _ _, ⟨EntryOk.rd (s172 hI k172) hI, fun _ => callRd_quiet _ _, trivial⟩⟩)
theorem go155 (a : CountV) (b : CountV) {r : RES} (h : ∀ (w : World) (Xs : Nat → Prop), ((([cmpI a.place b.place, cmpI a.epoch b.epoch]).length ≤ 1048576) ∧ r = (.one (.pv (.sc (.int .i64 (orL ([cmpI a.place b.place, cmpI a.epoch b.epoch]))))), [], 0))) : Ok0 Tryz.prog 155 [(pS tCount).enc a, (pS tCount).enc b] r.1 r.2.1 r.2.2 := by
  obtain ⟨I, hI⟩ : ∃ I, I = real := ⟨_, rfl⟩; obtain ⟨K, k173, k172⟩ : ∃ K : FuncId → En, K 173 = en173 ∧ K 172 = en172 := ⟨fun g => (lk g [(173, en173), (172, en172)]).getD default, rfl, rfl⟩
  show Ok0 Tryz.prog 155 [.ag [.pv (.sc (.int .i64 a.place)), .pv (.sc (.int .i64 a.epoch)), .pv (.sc (.int .i64 a.n))], .ag [.pv (.sc (.int .i64 b.place)), .pv (.sc (.int .i64 b.epoch)), .pv (.sc (.int .i64 b.n))]] _ _ _
  obtain ⟨q0, hq0⟩ := eqv a.place
  try rw [← hq0]
  obtain ⟨q1, hq1⟩ := eqv a.epoch
  try rw [← hq1]
  obtain ⟨q2, hq2⟩ := eqv b.place
  try rw [← hq2]
  obtain ⟨q3, hq3⟩ := eqv b.epoch
  try rw [← hq3]
  obtain ⟨q4, hq4⟩ := eqv a.n
  try rw [← hq4]
  obtain ⟨q5, hq5⟩ := eqv b.n
  try rw [← hq5]
  refine Ok0_run (Y := (Y155 I K)) xok (tY155 hI k173 k172) Tryz.func155 rfl rfl rfl 2000 hI fun w Xs => ?_; (conv => arg 4; cbv)
  replace h := h w Xs
  repeat' (first | (have hd := And.left h; replace h := And.right h) | ((first | ((with_reducible refine on_eqs ?_ ?_); (focus (with_reducible rfl))) | (with_reducible refine on_both ?_ ?_) | (with_reducible refine on_true (by assumption) ?_) | (with_reducible refine on_false (by assumption) ?_) | (with_reducible refine on_ask (fun g => ?_) (fun g => ?_) <;> (have hc := g) <;> (try simp (disch := omega) [hI, k173, en173, an173, k172, en172, an172, hq0, hq1, hq2, hq3, hq4, hq5, tI64_two, -List.length_eq_zero_iff] at hc) <;> (try (exfalso; omega)) <;> (try (first | (revert h; (refine imp_l ?_ (fun h => ?_)); focus (first | exact hc | assumption | omega | (simpa using hc; done) | (simp (disch := omega) only [wrap_id]; omega))) | (revert h; (refine imp_r ?_ (fun h => ?_)); focus (first | exact hc | assumption | omega | (simpa using hc; done) | (simp (disch := omega) only [wrap_id]; omega)))))) | ((with_reducible refine on_must ?_ ?_); (focus ((simp (disch := omega) [hI, k173, en173, an173, k172, en172, an172, hq0, hq1, hq2, hq3, hq4, hq5, tI64_two]) <;> (first | omega | assumption | ((repeat' (refine And.intro ?_ ?_)) <;> (first | omega | assumption))))))) <;> (conv => arg 4; cbv)) | ((with_reducible refine on_any ?_); refine W_early (Y := (Y155 I K)) xok (tY155 hI k173 k172) mixed hI rfl (by kernel_rfl) rfl rfl ?_; (conv => arg 4; cbv)) | ((with_reducible refine on_any ?_); refine W_any (Y := (Y155 I K)) xok (tY155 hI k173 k172) mixed hI rfl (by kernel_rfl) rfl rfl ?_; (conv => arg 4; cbv)) | ((with_reducible refine on_any ?_); refine W_behind (Y := (Y155 I K)) xok (tY155 hI k173 k172) Tryz.func155 rfl 2000 _ hI ?_; (conv => arg 4; cbv)))
  all_goals (first | ((subst h); (with_reducible refine on_ret ?_); refine Ended_of rfl ?_))
  all_goals ((conv => lhs; cbv); (try (first | rfl | ((try simp (disch := omega) [hI, k173, en173, an173, k172, en172, an172, hq0, hq1, hq2, hq3, hq4, hq5, tI64_two, mapE_append, Ty.encs_append, encs1_I64, encs1_U8, encs1, mapE1]) <;> (first | rfl | omega | (simp; done))))))
def sh155 : Shp := fun I i b l s => .ok (.one (.pv (.sc (.int .i64 (i 0)))), [], 0)
def an155 : An (CountV × CountV × Unit) where
  i _ t := orL [cmpI t.1.place t.2.1.place, cmpI t.1.epoch t.2.1.epoch]
noncomputable def en155 : En := mkE (parsC (pS tCount) (parsC (pS tCount) pars0)) an155
attribute [simp] en155 an155
theorem ok155 (a : CountV) (b : CountV)  : Ok0 Tryz.prog 155 [(pS tCount).enc a, (pS tCount).enc b] ((.one (.pv (.sc (.int .i64 (orL [cmpI a.place b.place, cmpI a.epoch b.epoch])))), [], 0) : RES).1 ((.one (.pv (.sc (.int .i64 (orL [cmpI a.place b.place, cmpI a.epoch b.epoch])))), [], 0) : RES).2.1 ((.one (.pv (.sc (.int .i64 (orL [cmpI a.place b.place, cmpI a.epoch b.epoch])))), [], 0) : RES).2.2 := by
  exact go155 a b fun w Xs => ⟨by simp, rfl⟩
theorem s155 {I : Ops} (hI : I = real) {e : En} (he : e = en155) : Sound Tryz.prog 155 (callE I e sh155) := by
  refine Sound.mkE ent155 hI (fun _ => rfl) ?_ he
  rintro ⟨a, b, ⟨⟩⟩ hp
  exact ok155 a b 
theorem ent91 : Enters Tryz.prog 91 := ⟨Tryz.f91, Tryz.func91, by kernel_rfl, by kernel_rfl⟩
abbrev G91_0 (w : World) (Xs : Nat → Prop) (a : List Int) (b : List Int) (i : Int) (r : RES) : Prop := WL [0, 1, 5] Tryz.prog 91 Tryz.f91 (Ent0 w Xs) (Back (Ent0 w Xs) r.1 r.2.1 r.2.2) (place (bodyOf Tryz.f91) [1,0,1,0,0] [])
  ⟨[(0, .one (.pv (.sl false 1 (tI64.encs a)))), (1, .one (.pv (.sl false 1 (tI64.encs b)))), (5, .one (.pv (.sc (.int .i64 i))))], [], 0⟩
theorem st91_0 {w : World} {Xs : Nat → Prop} (a : List Int) (b : List Int) (i : Int) {r : RES} (h : (if i < (a.length : Int) then (if i < (b.length : Int) then ((0 ≤ i ∧ i < (a.length : Int)) ∧ ((0 ≤ i ∧ i < (b.length : Int)) ∧ (if (nth a i.toNat) < (nth b i.toNat) then r = (.one (.pv (.sc (.int .i64 (-1)))), [], 0) else (if (nth b i.toNat) < (nth a i.toNat) then r = (.one (.pv (.sc (.int .i64 1))), [], 0) else G91_0 w Xs a b (IntKind.i64.wrap (i + 1)) r)))) else (if (a.length : Int) < (b.length : Int) then r = (.one (.pv (.sc (.int .i64 (-1)))), [], 0) else (if (b.length : Int) < (a.length : Int) then r = (.one (.pv (.sc (.int .i64 1))), [], 0) else r = (.one (.pv (.sc (.int .i64 0))), [], 0)))) else (if (a.length : Int) < (b.length : Int) then r = (.one (.pv (.sc (.int .i64 (-1)))), [], 0) else (if (b.length : Int) < (a.length : Int) then r = (.one (.pv (.sc (.int .i64 1))), [], 0) else r = (.one (.pv (.sc (.int .i64 0))), [], 0))))) : G91_0 w Xs a b i r := by
  obtain ⟨I, hI⟩ : ∃ I, I = real := ⟨_, rfl⟩
  unfold G91_0 WL
  obtain ⟨q0, hq0⟩ := eqv (tI64.encs a)
  try rw [← hq0]
  obtain ⟨q1, hq1⟩ := eqv (tI64.encs b)
  try rw [← hq1]
  have hS := And.intro hI (And.intro hq0 hq1)
  refine W_go (Y := (Tab.calls [])) xok (TabOk.calls mixed trivial) Tryz.func91 rfl 2000 _ hI ?_; (conv => arg 4; cbv)
  exact fin
theorem go91 (a : List Int) (b : List Int) {r : RES} (h : ∀ (w : World) (Xs : Nat → Prop), G91_0 w Xs a b 0 r) : Ok0 Tryz.prog 91 [(pL tI64).enc a, (pL tI64).enc b] r.1 r.2.1 r.2.2 := by
  obtain ⟨I, hI⟩ : ∃ I, I = real := ⟨_, rfl⟩
  show Ok0 Tryz.prog 91 [.one (.pv (.sl false 1 (tI64.encs a))), .one (.pv (.sl false 1 (tI64.encs b)))] _ _ _
  obtain ⟨q0, hq0⟩ := eqv (tI64.encs a)
  try rw [← hq0]
  obtain ⟨q1, hq1⟩ := eqv (tI64.encs b)
  try rw [← hq1]
  have hS := And.intro hI (And.intro hq0 hq1)
  refine Ok0_run (Y := (Tab.calls [])) xok (TabOk.calls mixed trivial) Tryz.func91 rfl rfl rfl 2000 hI fun w Xs => ?_; (conv => arg 4; cbv)
  replace h := h w Xs
  exact fin
theorem lm91 {w : World} {Xs : Nat → Prop} (a b : List Int) (hl : a.length ≤ 1048576) : ∀ k i : Nat, k + i = a.length → i ≤ b.length → G91_0 w Xs a b i (rI (cmpR (a.drop i) (b.drop i))) := by
  intro k
  induction k with
  | zero =>
    intro i hk hb
    apply st91_0
    rw [if_neg (by omega)]
    rw [cmpR_end (by omega) (by omega) (by omega)]; (repeat' (refine if_go (fun q => ?_) (fun q => ?_))) <;> first | (rw [if_pos (by omega)]; done) | (rw [if_neg (by omega), if_pos (by omega)]; done) | (rw [if_neg (by omega), if_neg (by omega)]; done)
  | succ k ih =>
    intro i hk hb
    apply st91_0
    rw [if_pos (by omega), wsucc (by omega), Int.toNat_natCast]
    refine if_go (fun hb2 => ?_) (fun hb2 => ?_)
    · rw [nth_drop (l := a) (i := i) (by omega), nth_drop (l := b) (i := i) (by omega), cmpR]
      refine ⟨by omega, by omega, if_go (fun q => ?_) (fun q => if_go (fun q2 => ?_) (fun q2 => ?_))⟩
      · rw [if_pos q]
      · rw [if_neg q, if_pos q2]
      · rw [if_neg q, if_neg q2]; exact ih (i + 1) (by omega) (by omega)
    · rw [cmpR_end (by omega) (by omega) (by omega)]; (repeat' (refine if_go (fun q => ?_) (fun q => ?_))) <;> first | (rw [if_pos (by omega)]; done) | (rw [if_neg (by omega), if_pos (by omega)]; done) | (rw [if_neg (by omega), if_neg (by omega)]; done)
def sh91 : Shp := fun I i b l s => .ok (.one (.pv (.sc (.int .i64 (i 0)))), [], 0)
def an91 : An (List Int × List Int × Unit) where
  pre t := decide (t.1.length ≤ 1048576)
  i _ t := cmpR t.1 t.2.1
noncomputable def en91 : En := mkE (parsC (pL tI64) (parsC (pL tI64) pars0)) an91
attribute [simp] en91 an91
theorem ok91 (a : List Int) (b : List Int) (p0 : a.length ≤ 1048576) : Ok0 Tryz.prog 91 [(pL tI64).enc a, (pL tI64).enc b] ((.one (.pv (.sc (.int .i64 (cmpR a b)))), [], 0) : RES).1 ((.one (.pv (.sc (.int .i64 (cmpR a b)))), [], 0) : RES).2.1 ((.one (.pv (.sc (.int .i64 (cmpR a b)))), [], 0) : RES).2.2 := by
  exact go91 a b fun w Xs => lm91 a b p0 a.length 0 rfl (by omega)
theorem s91 {I : Ops} (hI : I = real) {e : En} (he : e = en91) : Sound Tryz.prog 91 (callE I e sh91) := by
  refine Sound.mkE ent91 hI (fun _ => rfl) ?_ he
  rintro ⟨a, b, ⟨⟩⟩ hp
  have hp : (decide (a.length ≤ 1048576)) = true := hp
  try simp only [Bool.and_eq_true, decide_eq_true_eq] at hp
  have p0 := hp
  exact ok91 a b p0
end Go.Proofs.Tryz
