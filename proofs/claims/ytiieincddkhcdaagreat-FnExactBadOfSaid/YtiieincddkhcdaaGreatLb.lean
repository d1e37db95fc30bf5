/- Contracts. -/
import Derived.Test.YtiieincddkhcdaaGreatLa
import Derived.Test.YtiieincddkhcdaaGreatPp
set_option linter.unusedSimpArgs false
set_option linter.unusedVariables false
namespace Go.Proofs.Tryz
open Go Go.Aix
set_option maxRecDepth 100000
set_option maxHeartbeats 4000000
theorem ent94 : Enters Tryz.prog 94 := ⟨Tryz.f94, Tryz.func94, by kernel_rfl, by kernel_rfl⟩
abbrev G94_0 (w : World) (Xs : Nat → Prop) (s1 : List Int) (s2 : List Int) (x13 : Int) (r : RES) : Prop := WL [0, 1, 12, 13] Tryz.prog 94 Tryz.f94 (Ent0 w Xs) (Back (Ent0 w Xs) r.1 r.2.1 r.2.2) (place (bodyOf Tryz.f94) [1,1,0,1,0,0] [])
  ⟨[(0, .one (.pv (.sl false 1 (tI64.encs s1)))), (1, .one (.pv (.sl false 1 (tI64.encs s2)))), (12, .one (.pv (.sc (.int .i64 (s1.length : Int))))), (13, .one (.pv (.sc (.int .i64 x13))))], [], 0⟩
theorem st94_0 {w : World} {Xs : Nat → Prop} (s1 : List Int) (s2 : List Int) (x13 : Int) {r : RES} (h : (if x13 < (s1.length : Int) then ((0 ≤ x13 ∧ x13 < (s1.length : Int)) ∧ ((0 ≤ x13 ∧ x13 < (s2.length : Int)) ∧ (if (nth s1 x13.toNat) = (nth s2 x13.toNat) then G94_0 w Xs s1 s2 (IntKind.i64.wrap (x13 + 1)) r else r = (.one (.pv (.sc (.bool false))), [], 0)))) else r = (.one (.pv (.sc (.bool true))), [], 0))) : G94_0 w Xs s1 s2 x13 r := by
  obtain ⟨I, hI⟩ : ∃ I, I = real := ⟨_, rfl⟩
  unfold G94_0 WL
  obtain ⟨q0, hq0⟩ := eqv (s1.length : Int)
  try rw [← hq0]
  obtain ⟨q1, hq1⟩ := eqv (tI64.encs s1)
  try rw [← hq1]
  obtain ⟨q2, hq2⟩ := eqv (tI64.encs s2)
  try rw [← hq2]
  have hS := And.intro hI (And.intro hq0 (And.intro hq1 hq2))
  refine W_go (Y := (Tab.calls [])) xok (TabOk.calls mixed trivial) Tryz.func94 rfl 2000 _ hI ?_; (conv => arg 4; cbv)
  exact fin
theorem go94 (s1 : List Int) (s2 : List Int) {r : RES} (h : ∀ (w : World) (Xs : Nat → Prop), (if (s1.length : Int) = (s2.length : Int) then G94_0 w Xs s1 s2 0 r else r = (.one (.pv (.sc (.bool false))), [], 0))) : Ok0 Tryz.prog 94 [(pL tI64).enc s1, (pL tI64).enc s2] r.1 r.2.1 r.2.2 := by
  obtain ⟨I, hI⟩ : ∃ I, I = real := ⟨_, rfl⟩
  show Ok0 Tryz.prog 94 [.one (.pv (.sl false 1 (tI64.encs s1))), .one (.pv (.sl false 1 (tI64.encs s2)))] _ _ _
  obtain ⟨q0, hq0⟩ := eqv (tI64.encs s1)
  try rw [← hq0]
  obtain ⟨q1, hq1⟩ := eqv (tI64.encs s2)
  try rw [← hq1]
  have hS := And.intro hI (And.intro hq0 hq1)
  refine Ok0_run (Y := (Tab.calls [])) xok (TabOk.calls mixed trivial) Tryz.func94 rfl rfl rfl 2000 hI fun w Xs => ?_; (conv => arg 4; cbv)
  replace h := h w Xs
  exact fin
theorem lm_Equal {w : World} {Xs : Nat → Prop} (a b : List Int) (hl : a.length < 4611686018427387904) (he : a.length = b.length) : ∀ k i : Nat, k + i = a.length → G94_0 w Xs a b i (.one (.pv (.sc (.bool (decide (a.drop i = b.drop i))))), [], 0) := by
  intro k
  induction k with
  | zero =>
    intro i hk
    apply st94_0
    rw [if_neg (by omega), drop_nil (l := a) (by omega), drop_nil (l := b) (by omega)]
    simp
  | succ k ih =>
    intro i hk
    apply st94_0
    rw [if_pos (by omega)]
    refine ⟨by omega, by omega, ?_⟩
    rw [nth_drop (l := a) (i := i) (by omega), nth_drop (l := b) (i := i) (by omega), wsucc (by omega)]
    split
    · rename_i h
      have h : nth a i = nth b i := h
      have := ih (i + 1) (by omega)
      simpa [h] using this
    · rename_i h
      have h : ¬ nth a i = nth b i := h
      simp [h]
def sh94 : Shp := fun I i b l s => .ok (.one (.pv (.sc (.bool (b 0)))), [], 0)
def an94 : An (List Int × List Int × Unit) where
  pre t := decide (t.1.length < 4611686018427387904)
  b _ t := decide (t.1 = t.2.1)
noncomputable def en94 : En := mkE (parsC (pL tI64) (parsC (pL tI64) pars0)) an94
attribute [simp] en94 an94
theorem ok94 (s1 : List Int) (s2 : List Int) (p0 : s1.length < 4611686018427387904) : Ok0 Tryz.prog 94 [(pL tI64).enc s1, (pL tI64).enc s2] ((.one (.pv (.sc (.bool (decide (s1 = s2))))), [], 0) : RES).1 ((.one (.pv (.sc (.bool (decide (s1 = s2))))), [], 0) : RES).2.1 ((.one (.pv (.sc (.bool (decide (s1 = s2))))), [], 0) : RES).2.2 := by
  refine go94 s1 s2 fun w Xs => ?_
  split
  · rename_i h
    exact lm_Equal s1 s2 p0 (by omega) s1.length 0 rfl
  · rename_i h
    have : s1 ≠ s2 := by intro e; subst e; exact h rfl
    simp [this]
theorem s94 {I : Ops} (hI : I = real) {e : En} (he : e = en94) : Sound Tryz.prog 94 (callE I e sh94) := by
  refine Sound.mkE ent94 hI (fun _ => rfl) ?_ he
  rintro ⟨s1, s2, ⟨⟩⟩ hp
  have hp : (decide (s1.length < 4611686018427387904)) = true := hp
  try simp only [Bool.and_eq_true, decide_eq_true_eq] at hp
  have p0 := hp
  exact ok94 s1 s2 p0
theorem ent151 : Enters Tryz.prog 151 := ⟨Tryz.f151, Tryz.func151, by kernel_rfl, by kernel_rfl⟩
theorem s151 {I : Ops} (hI : I = real)  : Sound Tryz.prog 151 (inl X I (Tab.calls []) Tryz.f151) :=
  Sound.inl (Y := (Tab.calls [])) xok (TabOk.calls mixed trivial) ent151 Tryz.func151 rfl rfl hI
theorem ent118 : Enters Tryz.prog 118 := ⟨Tryz.f118, Tryz.func118, by kernel_rfl, by kernel_rfl⟩
noncomputable def Y118 (I : Ops) : CallsA := (Tab.calls [(151, true, callRd I (inl X I (Tab.calls []) Tryz.f151))])
theorem tY118 {I : Ops} (hI : I = real)  : CallsOk Tryz.prog (Y118 I) := (TabOk.calls mixed ⟨EntryOk.rd (s151 hI) hI, fun _ => callRd_quiet _ _, trivial⟩)
theorem go118 (n : NodeV) {r : RES} (h : ∀ (w : World) (Xs : Nat → Prop), (if n.op = 1 then r = (.ag [.pv (.sc (.int .i64 n.op)), .pv (.sc (.int .i64 0)), .pv (.sc (.int .i64 0)), .pv (.sc (.int .i64 n.col)), .pv (.sc (.int .i64 0)), .pv (.sc (.int .i64 0)), .pv (.sl false 1 [])], [], 0) else (if n.op = 4 then r = (.ag [.pv (.sc (.int .i64 n.op)), .pv (.sc (.int .i64 n.a)), .pv (.sc (.int .i64 n.b)), .pv (.sc (.int .i64 0)), .pv (.sc (.int .i64 0)), .pv (.sc (.int .i64 0)), .pv (.sl false 1 [])], [], 0) else (if n.op = 6 then r = (.ag [.pv (.sc (.int .i64 n.op)), .pv (.sc (.int .i64 n.a)), .pv (.sc (.int .i64 n.b)), .pv (.sc (.int .i64 n.col)), .pv (.sc (.int .i64 0)), .pv (.sc (.int .i64 0)), .pv (.sl false 1 [])], [], 0) else (if n.op = 7 then r = (.ag [.pv (.sc (.int .i64 n.op)), .pv (.sc (.int .i64 n.a)), .pv (.sc (.int .i64 0)), .pv (.sc (.int .i64 n.col)), .pv (.sc (.int .i64 0)), .pv (.sc (.int .i64 0)), .pv (.sl false 1 [])], [], 0) else (if n.op = 8 then r = (.ag [.pv (.sc (.int .i64 n.op)), .pv (.sc (.int .i64 n.a)), .pv (.sc (.int .i64 0)), .pv (.sc (.int .i64 n.col)), .pv (.sc (.int .i64 0)), .pv (.sc (.int .i64 0)), .pv (.sl false 1 [])], [], 0) else (if n.op = 9 then r = (.ag [.pv (.sc (.int .i64 n.op)), .pv (.sc (.int .i64 n.a)), .pv (.sc (.int .i64 0)), .pv (.sc (.int .i64 n.col)), .pv (.sc (.int .i64 0)), .pv (.sc (.int .i64 0)), .pv (.sl false 1 [])], [], 0) else (if n.op = 10 then r = (.ag [.pv (.sc (.int .i64 n.op)), .pv (.sc (.int .i64 n.a)), .pv (.sc (.int .i64 0)), .pv (.sc (.int .i64 n.col)), .pv (.sc (.int .i64 0)), .pv (.sc (.int .i64 0)), .pv (.sl false 1 [])], [], 0) else (if n.op = 2 then r = (.ag [.pv (.sc (.int .i64 n.op)), .pv (.sc (.int .i64 n.a)), .pv (.sc (.int .i64 0)), .pv (.sc (.int .i64 n.col)), .pv (.sc (.int .i64 n.test)), .pv (.sc (.int .i64 n.value)), .pv (.sl false 1 [])], [], 0) else (if n.op = 3 then r = (.ag [.pv (.sc (.int .i64 n.op)), .pv (.sc (.int .i64 n.a)), .pv (.sc (.int .i64 0)), .pv (.sc (.int .i64 0)), .pv (.sc (.int .i64 0)), .pv (.sc (.int .i64 0)), .pv (.sl false 1 (tI64.encs n.cells))], [], 0) else r = (.ag [.pv (.sc (.int .i64 n.op)), .pv (.sc (.int .i64 n.a)), .pv (.sc (.int .i64 0)), .pv (.sc (.int .i64 0)), .pv (.sc (.int .i64 0)), .pv (.sc (.int .i64 0)), .pv (.sl false 1 [])], [], 0))))))))))) : Ok0 Tryz.prog 118 [(pS tNode).enc n] r.1 r.2.1 r.2.2 := by
  obtain ⟨I, hI⟩ : ∃ I, I = real := ⟨_, rfl⟩
  show Ok0 Tryz.prog 118 [.ag [.pv (.sc (.int .i64 n.op)), .pv (.sc (.int .i64 n.a)), .pv (.sc (.int .i64 n.b)), .pv (.sc (.int .i64 n.col)), .pv (.sc (.int .i64 n.test)), .pv (.sc (.int .i64 n.value)), .pv (.sl false 1 (tI64.encs n.cells))]] _ _ _
  obtain ⟨q0, hq0⟩ := eqv (tI64.encs n.cells)
  try rw [← hq0]
  obtain ⟨q1, hq1⟩ := eqv n.value
  try rw [← hq1]
  obtain ⟨q2, hq2⟩ := eqv n.test
  try rw [← hq2]
  obtain ⟨q3, hq3⟩ := eqv n.col
  try rw [← hq3]
  obtain ⟨q4, hq4⟩ := eqv n.op
  try rw [← hq4]
  obtain ⟨q5, hq5⟩ := eqv n.a
  try rw [← hq5]
  obtain ⟨q6, hq6⟩ := eqv n.b
  try rw [← hq6]
  refine Ok0_run (Y := (Y118 I)) xok (tY118 hI) Tryz.func118 rfl rfl rfl 2000 hI fun w Xs => ?_; (conv => arg 4; cbv)
  replace h := h w Xs
  repeat' (first | (have hd := And.left h; replace h := And.right h) | ((first | ((with_reducible refine on_eqs ?_ ?_); (focus (with_reducible rfl))) | (with_reducible refine on_both ?_ ?_) | (with_reducible refine on_true (by assumption) ?_) | (with_reducible refine on_false (by assumption) ?_) | (with_reducible refine on_ask (fun g => ?_) (fun g => ?_) <;> (have hc := g) <;> (try simp (disch := omega) [hI, hq0, hq1, hq2, hq3, hq4, hq5, hq6, -List.length_eq_zero_iff] at hc) <;> (try (exfalso; omega)) <;> (try (first | (revert h; (refine imp_l ?_ (fun h => ?_)); focus (first | exact hc | assumption | omega | (simpa using hc; done) | (simp (disch := omega) only [wrap_id]; omega))) | (revert h; (refine imp_r ?_ (fun h => ?_)); focus (first | exact hc | assumption | omega | (simpa using hc; done) | (simp (disch := omega) only [wrap_id]; omega)))))) | ((with_reducible refine on_must ?_ ?_); (focus ((simp (disch := omega) [hI, hq0, hq1, hq2, hq3, hq4, hq5, hq6]) <;> (first | omega | assumption | ((repeat' (refine And.intro ?_ ?_)) <;> (first | omega | assumption))))))) <;> (conv => arg 4; cbv)) | ((with_reducible refine on_any ?_); refine W_early (Y := (Y118 I)) xok (tY118 hI) mixed hI rfl (by kernel_rfl) rfl rfl ?_; (conv => arg 4; cbv)) | ((with_reducible refine on_any ?_); refine W_any (Y := (Y118 I)) xok (tY118 hI) mixed hI rfl (by kernel_rfl) rfl rfl ?_; (conv => arg 4; cbv)) | ((with_reducible refine on_any ?_); refine W_behind (Y := (Y118 I)) xok (tY118 hI) Tryz.func118 rfl 2000 _ hI ?_; (conv => arg 4; cbv)))
  all_goals (first | ((subst h); (with_reducible refine on_ret ?_); refine Ended_flat hI rfl ?_))
  all_goals ((conv => lhs; cbv); (try (first | rfl | ((try simp (disch := omega) [hI, hq0, hq1, hq2, hq3, hq4, hq5, hq6, mapE_append, Ty.encs_append, encs1_I64, encs1_U8, encs1, mapE1]) <;> (first | rfl | omega | (simp; done))))))
def sh118 : Shp := fun I i b l s => .ok (.ag [.pv (.sc (.int .i64 (i 0))), .pv (.sc (.int .i64 (i 1))), .pv (.sc (.int .i64 (i 2))), .pv (.sc (.int .i64 (i 3))), .pv (.sc (.int .i64 (i 4))), .pv (.sc (.int .i64 (i 5))), .pv (.sl false 1 (l 0))], [], 0)
def an118 : An (NodeV × Unit) where
  i j t := match j with | 0 => (plainN t.1).op | 1 => (plainN t.1).a | 2 => (plainN t.1).b | 3 => (plainN t.1).col | 4 => (plainN t.1).test | _ => (plainN t.1).value
  l _ t := (tI64.encs ((plainN t.1).cells))
noncomputable def en118 : En := mkE (parsC (pS tNode) pars0) an118
attribute [simp] en118 an118
theorem ok118 (n : NodeV)  : Ok0 Tryz.prog 118 [(pS tNode).enc n] ((.ag [.pv (.sc (.int .i64 ((plainN n).op))), .pv (.sc (.int .i64 ((plainN n).a))), .pv (.sc (.int .i64 ((plainN n).b))), .pv (.sc (.int .i64 ((plainN n).col))), .pv (.sc (.int .i64 ((plainN n).test))), .pv (.sc (.int .i64 ((plainN n).value))), .pv (.sl false 1 (tI64.encs ((plainN n).cells)))], [], 0) : RES).1 ((.ag [.pv (.sc (.int .i64 ((plainN n).op))), .pv (.sc (.int .i64 ((plainN n).a))), .pv (.sc (.int .i64 ((plainN n).b))), .pv (.sc (.int .i64 ((plainN n).col))), .pv (.sc (.int .i64 ((plainN n).test))), .pv (.sc (.int .i64 ((plainN n).value))), .pv (.sl false 1 (tI64.encs ((plainN n).cells)))], [], 0) : RES).2.1 ((.ag [.pv (.sc (.int .i64 ((plainN n).op))), .pv (.sc (.int .i64 ((plainN n).a))), .pv (.sc (.int .i64 ((plainN n).b))), .pv (.sc (.int .i64 ((plainN n).col))), .pv (.sc (.int .i64 ((plainN n).test))), .pv (.sc (.int .i64 ((plainN n).value))), .pv (.sl false 1 (tI64.encs ((plainN n).cells)))], [], 0) : RES).2.2 := by
  refine go118 n fun w Xs => ?_
  (repeat' (first | (refine And.intro ?_ ?_) | (refine if_go (fun q => ?_) (fun q => ?_)))); all_goals (first | omega | rfl | (simp [*, plainN]; done) | (simp_all [plainN]; done) | (simp_all [plainN]; omega))
theorem s118 {I : Ops} (hI : I = real) {e : En} (he : e = en118) : Sound Tryz.prog 118 (callE I e sh118) := by
  refine Sound.mkE ent118 hI (fun _ => rfl) ?_ he
  rintro ⟨n, ⟨⟩⟩ hp
  exact ok118 n 
theorem ent119 : Enters Tryz.prog 119 := ⟨Tryz.f119, Tryz.func119, by kernel_rfl, by kernel_rfl⟩
noncomputable def Y119 (I : Ops) : CallsA := (Tab.calls [(151, true, callRd I (inl X I (Tab.calls []) Tryz.f151))])
theorem tY119 {I : Ops} (hI : I = real)  : CallsOk Tryz.prog (Y119 I) := (TabOk.calls mixed ⟨EntryOk.rd (s151 hI) hI, fun _ => callRd_quiet _ _, trivial⟩)
theorem go119 (n : NodeV) {r : RES} (h : ∀ (w : World) (Xs : Nat → Prop), (if n.op = 1 then r = (.one (.pv (.sl false 1 [])), [], 0) else (if n.op = 4 then r = (.one (.pv (.sl false 1 (tI64.encs ([n.a, n.b])))), [], 0) else (if n.op = 6 then r = (.one (.pv (.sl false 1 (tI64.encs ([n.a, n.b])))), [], 0) else r = (.one (.pv (.sl false 1 (tI64.encs ([n.a])))), [], 0))))) : Ok0 Tryz.prog 119 [(pS tNode).enc n] r.1 r.2.1 r.2.2 := by
  obtain ⟨I, hI⟩ : ∃ I, I = real := ⟨_, rfl⟩
  show Ok0 Tryz.prog 119 [.ag [.pv (.sc (.int .i64 n.op)), .pv (.sc (.int .i64 n.a)), .pv (.sc (.int .i64 n.b)), .pv (.sc (.int .i64 n.col)), .pv (.sc (.int .i64 n.test)), .pv (.sc (.int .i64 n.value)), .pv (.sl false 1 (tI64.encs n.cells))]] _ _ _
  obtain ⟨q0, hq0⟩ := eqv (tI64.encs n.cells)
  try rw [← hq0]
  obtain ⟨q1, hq1⟩ := eqv n.value
  try rw [← hq1]
  obtain ⟨q2, hq2⟩ := eqv n.test
  try rw [← hq2]
  obtain ⟨q3, hq3⟩ := eqv n.col
  try rw [← hq3]
  obtain ⟨q4, hq4⟩ := eqv n.op
  try rw [← hq4]
  obtain ⟨q5, hq5⟩ := eqv n.a
  try rw [← hq5]
  obtain ⟨q6, hq6⟩ := eqv n.b
  try rw [← hq6]
  have hS := And.intro hI (And.intro hq0 (And.intro hq1 (And.intro hq2 (And.intro hq3 (And.intro hq4 (And.intro hq5 hq6))))))
  refine Ok0_run (Y := (Y119 I)) xok (tY119 hI) Tryz.func119 rfl rfl rfl 2000 hI fun w Xs => ?_; (conv => arg 4; cbv)
  replace h := h w Xs
  exact finl
def sh119 : Shp := fun I i b l s => .ok (.one (.pv (.sl false 1 (l 0))), [], 0)
def an119 : An (NodeV × Unit) where
  l _ t := (tI64.encs (readsL t.1))
noncomputable def en119 : En := mkE (parsC (pS tNode) pars0) an119
attribute [simp] en119 an119
theorem ok119 (n : NodeV)  : Ok0 Tryz.prog 119 [(pS tNode).enc n] ((.one (.pv (.sl false 1 (tI64.encs (readsL n)))), [], 0) : RES).1 ((.one (.pv (.sl false 1 (tI64.encs (readsL n)))), [], 0) : RES).2.1 ((.one (.pv (.sl false 1 (tI64.encs (readsL n)))), [], 0) : RES).2.2 := by
  refine go119 n fun w Xs => ?_
  (repeat' (first | (refine And.intro ?_ ?_) | (refine if_go (fun q => ?_) (fun q => ?_)))); all_goals (first | omega | rfl | (simp [*, readsL]; done) | (simp_all [readsL]; done) | (simp_all [readsL]; omega))
theorem s119 {I : Ops} (hI : I = real) {e : En} (he : e = en119) : Sound Tryz.prog 119 (callE I e sh119) := by
  refine Sound.mkE ent119 hI (fun _ => rfl) ?_ he
  rintro ⟨n, ⟨⟩⟩ hp
  exact ok119 n 
theorem ent117 : Enters Tryz.prog 117 := ⟨Tryz.f117, Tryz.func117, by kernel_rfl, by kernel_rfl⟩
noncomputable def Y117 (I : Ops) (K : FuncId → En) : CallsA := (Tab.calls [(94, true, callRd I (callE I (K 94) sh94))])
theorem tY117 {I : Ops} (hI : I = real) {K : FuncId → En} (k94 : K 94 = en94) : CallsOk Tryz.prog (Y117 I K) := (TabOk.calls mixed ⟨EntryOk.rd (s94 hI k94) hI, fun _ => callRd_quiet _ _, trivial⟩)
theorem go117 (m : NodeV) (n : NodeV) {r : RES} (h : ∀ (w : World) (Xs : Nat → Prop), (if m.op = n.op then (if m.a = n.a then (if m.b = n.b then (if m.col = n.col then (if m.test = n.test then (if m.value = n.value then ((m.cells.length < 4611686018427387904) ∧ r = (.one (.pv (.sc (.bool (decide (m.cells = n.cells))))), [], 0)) else r = (.one (.pv (.sc (.bool false))), [], 0)) else r = (.one (.pv (.sc (.bool false))), [], 0)) else r = (.one (.pv (.sc (.bool false))), [], 0)) else r = (.one (.pv (.sc (.bool false))), [], 0)) else r = (.one (.pv (.sc (.bool false))), [], 0)) else r = (.one (.pv (.sc (.bool false))), [], 0))) : Ok0 Tryz.prog 117 [(pS tNode).enc m, (pS tNode).enc n] r.1 r.2.1 r.2.2 := by
  obtain ⟨I, hI⟩ : ∃ I, I = real := ⟨_, rfl⟩; obtain ⟨K, k94⟩ : ∃ K : FuncId → En, K 94 = en94 := ⟨fun g => (lk g [(94, en94)]).getD default, rfl⟩
  show Ok0 Tryz.prog 117 [.ag [.pv (.sc (.int .i64 m.op)), .pv (.sc (.int .i64 m.a)), .pv (.sc (.int .i64 m.b)), .pv (.sc (.int .i64 m.col)), .pv (.sc (.int .i64 m.test)), .pv (.sc (.int .i64 m.value)), .pv (.sl false 1 (tI64.encs m.cells))], .ag [.pv (.sc (.int .i64 n.op)), .pv (.sc (.int .i64 n.a)), .pv (.sc (.int .i64 n.b)), .pv (.sc (.int .i64 n.col)), .pv (.sc (.int .i64 n.test)), .pv (.sc (.int .i64 n.value)), .pv (.sl false 1 (tI64.encs n.cells))]] _ _ _
  obtain ⟨q0, hq0⟩ := eqv (tI64.encs m.cells)
  try rw [← hq0]
  obtain ⟨q1, hq1⟩ := eqv (tI64.encs n.cells)
  try rw [← hq1]
  obtain ⟨q2, hq2⟩ := eqv m.value
  try rw [← hq2]
  obtain ⟨q3, hq3⟩ := eqv n.value
  try rw [← hq3]
  obtain ⟨q4, hq4⟩ := eqv m.test
  try rw [← hq4]
  obtain ⟨q5, hq5⟩ := eqv n.test
  try rw [← hq5]
  obtain ⟨q6, hq6⟩ := eqv m.col
  try rw [← hq6]
  obtain ⟨q7, hq7⟩ := eqv n.col
  try rw [← hq7]
  obtain ⟨q8, hq8⟩ := eqv m.op
  try rw [← hq8]
  obtain ⟨q9, hq9⟩ := eqv n.op
  try rw [← hq9]
  obtain ⟨q10, hq10⟩ := eqv m.a
  try rw [← hq10]
  obtain ⟨q11, hq11⟩ := eqv m.b
  try rw [← hq11]
  obtain ⟨q12, hq12⟩ := eqv n.a
  try rw [← hq12]
  obtain ⟨q13, hq13⟩ := eqv n.b
  try rw [← hq13]
  have hS := And.intro hI (And.intro k94 (And.intro hq0 (And.intro hq1 (And.intro hq2 (And.intro hq3 (And.intro hq4 (And.intro hq5 (And.intro hq6 (And.intro hq7 (And.intro hq8 (And.intro hq9 (And.intro hq10 (And.intro hq11 (And.intro hq12 hq13))))))))))))))
  refine Ok0_run (Y := (Y117 I K)) xok (tY117 hI k94) Tryz.func117 rfl rfl rfl 2000 hI fun w Xs => ?_; (conv => arg 4; cbv)
  replace h := h w Xs
  exact fin
def sh117 : Shp := fun I i b l s => .ok (.one (.pv (.sc (.bool (b 0)))), [], 0)
def an117 : An (NodeV × NodeV × Unit) where
  pre t := decide (t.1.cells.length < 4611686018427387904)
  b _ t := decide (t.1 = t.2.1)
noncomputable def en117 : En := mkE (parsC (pS tNode) (parsC (pS tNode) pars0)) an117
attribute [simp] en117 an117
theorem ok117 (m : NodeV) (n : NodeV) (p0 : m.cells.length < 4611686018427387904) : Ok0 Tryz.prog 117 [(pS tNode).enc m, (pS tNode).enc n] ((.one (.pv (.sc (.bool (decide (m = n))))), [], 0) : RES).1 ((.one (.pv (.sc (.bool (decide (m = n))))), [], 0) : RES).2.1 ((.one (.pv (.sc (.bool (decide (m = n))))), [], 0) : RES).2.2 := by
  refine go117 m n fun w Xs => ?_
  obtain ⟨m0, m1, m2, m3, m4, m5, m6⟩ := m
  obtain ⟨n0, n1, n2, n3, n4, n5, n6⟩ := n
  dsimp only at *
  (repeat' (first | (refine And.intro ?_ ?_) | (refine if_go (fun q => ?_) (fun q => ?_)))); all_goals (first | omega | rfl | (simp [*, ]; done) | (simp_all []; done) | (simp_all []; omega))
theorem s117 {I : Ops} (hI : I = real) {e : En} (he : e = en117) : Sound Tryz.prog 117 (callE I e sh117) := by
  refine Sound.mkE ent117 hI (fun _ => rfl) ?_ he
  rintro ⟨m, n, ⟨⟩⟩ hp
  have hp : (decide (m.cells.length < 4611686018427387904)) = true := hp
  try simp only [Bool.and_eq_true, decide_eq_true_eq] at hp
  have p0 := hp
  exact ok117 m n p0
theorem ent152 : Enters Tryz.prog 152 := ⟨Tryz.f152, Tryz.func152, by kernel_rfl, by kernel_rfl⟩
theorem s152 {I : Ops} (hI : I = real)  : Sound Tryz.prog 152 (inl X I (Tab.calls []) Tryz.f152) :=
  Sound.inl (Y := (Tab.calls [])) xok (TabOk.calls mixed trivial) ent152 Tryz.func152 rfl rfl hI
theorem ent47 : Enters Tryz.prog 47 := ⟨Tryz.f47, Tryz.func47, by kernel_rfl, by kernel_rfl⟩
theorem s47 {I : Ops} (hI : I = real)  : Sound Tryz.prog 47 (inl X I (Tab.calls []) Tryz.f47) :=
  Sound.inl (Y := (Tab.calls [])) xok (TabOk.calls mixed trivial) ent47 Tryz.func47 rfl rfl hI
theorem ent153 : Enters Tryz.prog 153 := ⟨Tryz.f153, Tryz.func153, by kernel_rfl, by kernel_rfl⟩
noncomputable def Y153 (I : Ops) : CallsA := (Tab.calls [(47, true, callRd I (inl X I (Tab.calls []) Tryz.f47))])
theorem tY153 {I : Ops} (hI : I = real)  : CallsOk Tryz.prog (Y153 I) := (TabOk.calls mixed ⟨EntryOk.rd (s47 hI) hI, fun _ => callRd_quiet _ _, trivial⟩)
theorem s153 {I : Ops} (hI : I = real)  : Sound Tryz.prog 153 (inl X I (Y153 I) Tryz.f153) :=
  Sound.inl (Y := (Y153 I)) xok (tY153 hI) ent153 Tryz.func153 rfl rfl hI
theorem ent121 : Enters Tryz.prog 121 := ⟨Tryz.f121, Tryz.func121, by kernel_rfl, by kernel_rfl⟩
noncomputable def Y121 (I : Ops) : CallsA := (Tab.calls [(152, true, callRd I (inl X I (Tab.calls []) Tryz.f152)), (153, true, callRd I (inl X I (Y153 I) Tryz.f153))])
theorem tY121 {I : Ops} (hI : I = real)  : CallsOk Tryz.prog (Y121 I) := (TabOk.calls mixed ⟨EntryOk.rd (s152 hI) hI, fun _ => callRd_quiet _ _, ⟨EntryOk.rd (s153 hI) hI, fun _ => callRd_quiet _ _, trivial⟩⟩)
theorem go121 (n : NodeV) (ahead : List Int) {r : RES} (h : ∀ (w : World) (Xs : Nat → Prop), (if n.op = 1 then r = (.one (.pv (.sc (.int .i64 n.col))), [], 0) else (if n.op = 3 then r = (.one (.pv (.sc (.int .i64 (n.cells.length : Int)))), [], 0) else (if n.op = 6 then ((0 ≤ n.a ∧ n.a < (ahead.length : Int)) ∧ ((0 ≤ n.b ∧ n.b < (ahead.length : Int)) ∧ r = (.one (.pv (.sc (.int .i64 (IntKind.i64.wrap ((IntKind.i64.wrap ((nth ahead n.a.toNat) + (nth ahead n.b.toNat))) - n.col))))), [], 0))) else (if 7 ≤ n.op then (if n.op ≤ 10 then r = (.one (.pv (.sc (.int .i64 (IntKind.i64.wrap (n.col + 1))))), [], 0) else ((0 ≤ n.a ∧ n.a < (ahead.length : Int)) ∧ r = (.one (.pv (.sc (.int .i64 (nth ahead n.a.toNat)))), [], 0))) else ((0 ≤ n.a ∧ n.a < (ahead.length : Int)) ∧ r = (.one (.pv (.sc (.int .i64 (nth ahead n.a.toNat)))), [], 0))))))) : Ok0 Tryz.prog 121 [(pS tNode).enc n, (pL tI64).enc ahead] r.1 r.2.1 r.2.2 := by
  obtain ⟨I, hI⟩ : ∃ I, I = real := ⟨_, rfl⟩
  show Ok0 Tryz.prog 121 [.ag [.pv (.sc (.int .i64 n.op)), .pv (.sc (.int .i64 n.a)), .pv (.sc (.int .i64 n.b)), .pv (.sc (.int .i64 n.col)), .pv (.sc (.int .i64 n.test)), .pv (.sc (.int .i64 n.value)), .pv (.sl false 1 (tI64.encs n.cells))], .one (.pv (.sl false 1 (tI64.encs ahead)))] _ _ _
  obtain ⟨q0, hq0⟩ := eqv (tI64.encs n.cells)
  try rw [← hq0]
  obtain ⟨q1, hq1⟩ := eqv (tI64.encs ahead)
  try rw [← hq1]
  obtain ⟨q2, hq2⟩ := eqv n.value
  try rw [← hq2]
  obtain ⟨q3, hq3⟩ := eqv n.test
  try rw [← hq3]
  obtain ⟨q4, hq4⟩ := eqv n.col
  try rw [← hq4]
  obtain ⟨q5, hq5⟩ := eqv n.op
  try rw [← hq5]
  obtain ⟨q6, hq6⟩ := eqv n.a
  try rw [← hq6]
  obtain ⟨q7, hq7⟩ := eqv n.b
  try rw [← hq7]
  have hS := And.intro hI (And.intro hq0 (And.intro hq1 (And.intro hq2 (And.intro hq3 (And.intro hq4 (And.intro hq5 (And.intro hq6 hq7)))))))
  refine Ok0_run (Y := (Y121 I)) xok (tY121 hI) Tryz.func121 rfl rfl rfl 2000 hI fun w Xs => ?_; (conv => arg 4; cbv)
  replace h := h w Xs
  exact fin
def sh121 : Shp := fun I i b l s => .ok (.one (.pv (.sc (.int .i64 (i 0)))), [], 0)
def an121 : An (NodeV × List Int × Unit) where
  pre t := decide (t.1.op ≠ 1 → t.1.op ≠ 3 → ¬ (7 ≤ t.1.op ∧ t.1.op ≤ 10) → 0 ≤ t.1.a ∧ t.1.a.toNat < t.2.1.length) && decide (t.1.op = 6 → 0 ≤ t.1.b ∧ t.1.b.toNat < t.2.1.length)
  i _ t := widF t.1 t.2.1
noncomputable def en121 : En := mkE (parsC (pS tNode) (parsC (pL tI64) pars0)) an121
attribute [simp] en121 an121
theorem ok121 (n : NodeV) (ahead : List Int) (p0 : n.op ≠ 1 → n.op ≠ 3 → ¬ (7 ≤ n.op ∧ n.op ≤ 10) → 0 ≤ n.a ∧ n.a.toNat < ahead.length) (p1 : n.op = 6 → 0 ≤ n.b ∧ n.b.toNat < ahead.length) : Ok0 Tryz.prog 121 [(pS tNode).enc n, (pL tI64).enc ahead] ((.one (.pv (.sc (.int .i64 (widF n ahead)))), [], 0) : RES).1 ((.one (.pv (.sc (.int .i64 (widF n ahead)))), [], 0) : RES).2.1 ((.one (.pv (.sc (.int .i64 (widF n ahead)))), [], 0) : RES).2.2 := by
  refine go121 n ahead fun w Xs => ?_
  (repeat' (first | (refine And.intro ?_ ?_) | (refine if_go (fun q => ?_) (fun q => ?_)))); all_goals (first | omega | rfl | (simp [*, widF]; done) | (simp_all [widF]; done) | (simp_all [widF]; omega))
theorem s121 {I : Ops} (hI : I = real) {e : En} (he : e = en121) : Sound Tryz.prog 121 (callE I e sh121) := by
  refine Sound.mkE ent121 hI (fun _ => rfl) ?_ he
  rintro ⟨n, ahead, ⟨⟩⟩ hp
  have hp : (decide (n.op ≠ 1 → n.op ≠ 3 → ¬ (7 ≤ n.op ∧ n.op ≤ 10) → 0 ≤ n.a ∧ n.a.toNat < ahead.length) && decide (n.op = 6 → 0 ≤ n.b ∧ n.b.toNat < ahead.length)) = true := hp
  try simp only [Bool.and_eq_true, decide_eq_true_eq] at hp
  obtain ⟨p0, p1⟩ := hp
  exact ok121 n ahead p0 p1
end Go.Proofs.Tryz
