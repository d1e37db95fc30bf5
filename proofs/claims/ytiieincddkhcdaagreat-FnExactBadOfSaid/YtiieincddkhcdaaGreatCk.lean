/- Contracts. -/
import Derived.Test.YtiieincddkhcdaaGreatCj
set_option linter.unusedSimpArgs false
set_option linter.unusedVariables false
namespace Go.Proofs.Tryz
open Go Go.Aix
set_option maxRecDepth 100000
set_option maxHeartbeats 4000000
def catF : List LinkV → List FrameV
  | [] => []
  | x :: r => x.frames ++ catF r
def okL (s : List LinkV) : Bool := s.all fun x => decide (x.frames.length ≤ 60)
theorem okL_nth {s : List LinkV} (h : okL s = true) {i : Nat} (hi : i < s.length) : (nth s i).frames.length ≤ 60 := by
  unfold okL at h
  simp only [List.all_eq_true, decide_eq_true_eq] at h
  exact h _ (nth_mem hi)
theorem catF_le : ∀ (s : List LinkV), okL s = true → (catF s).length ≤ 60 * s.length
  | [], _ => by simp [catF]
  | x :: r, h => by
    unfold okL at h
    simp only [List.all_cons, Bool.and_eq_true, decide_eq_true_eq] at h
    have := catF_le r h.2
    simp [catF]; omega
theorem ent85 : Enters Tryz.prog 85 := ⟨Tryz.f85, Tryz.func85, by kernel_rfl, by kernel_rfl⟩
abbrev G85_0 (w : World) (Xs : Nat → Prop) (sl : List LinkV) (size : Int) (x11 : Int) (r : RES) : Prop := WL [0, 3, 9, 10, 11] Tryz.prog 85 Tryz.f85 (Ent0 w Xs) (Back (Ent0 w Xs) r.1 r.2.1 r.2.2) (place (bodyOf Tryz.f85) [1,1,0,1,0,0] [])
  ⟨[(0, .one (.pv (.sl false 1 (tLink.encs sl)))), (3, .one (.pv (.sc (.int .i64 size)))), (9, .one (.pv (.sl false 1 (tLink.encs sl)))), (10, .one (.pv (.sc (.int .i64 (sl.length : Int))))), (11, .one (.pv (.sc (.int .i64 x11))))], [], 0⟩
abbrev G85_1 (w : World) (Xs : Nat → Prop) (sl : List LinkV) (x27 : Int) (r : RES) : Prop := WL [6, 25, 26, 27] Tryz.prog 85 Tryz.f85 (Ent0 w Xs) (Back (Ent0 w Xs) r.1 r.2.1 r.2.2) (place (bodyOf Tryz.f85) [1,1,1,1,0,1,0,0] [])
  ⟨[(6, .one (.pv .nl)), (25, .one (.pv (.sl false 1 (tLink.encs sl)))), (26, .one (.pv (.sc (.int .i64 (sl.length : Int))))), (27, .one (.pv (.sc (.int .i64 x27))))], [], 0⟩
abbrev G85_2 (w : World) (Xs : Nat → Prop) (sl : List LinkV) (r0 : List FrameV) (x27' : Int) (r : RES) : Prop := WL [6, 25, 26, 27] Tryz.prog 85 Tryz.f85 (Ent0 w Xs) (Back (Ent0 w Xs) r.1 r.2.1 r.2.2) (place (bodyOf Tryz.f85) [1,1,1,1,0,1,0,0] [])
  ⟨[(6, .one (.arr 0 0 r0.length)), (25, .one (.pv (.sl false 1 (tLink.encs sl)))), (26, .one (.pv (.sc (.int .i64 (sl.length : Int))))), (27, .one (.pv (.sc (.int .i64 x27'))))], [(0, .row 6 (tFrame.encs r0))], 1⟩
noncomputable def Y85 (I : Ops) (K : FuncId → En) : CallsA := (Tab.calls [(126, false, callIce I (callE I (K 126) sh126))])
theorem tY85 {I : Ops} (hI : I = real) {K : FuncId → En} (k126 : K 126 = en126) : CallsOk Tryz.prog (Y85 I K) := (TabOk.calls mixed ⟨EntryOk.own (s126 hI k126) hI, notQuiet, trivial⟩)
theorem st85_0 {w : World} {Xs : Nat → Prop} (sl : List LinkV) (size : Int) (x11 : Int) {r : RES} (h : (if x11 < (sl.length : Int) then ((0 ≤ x11 ∧ x11 < (sl.length : Int)) ∧ (if (IntKind.i64.wrap (size + (((nth sl x11.toNat).frames).length : Int))) < 0 then False else G85_0 w Xs sl (IntKind.i64.wrap (size + (((nth sl x11.toNat).frames).length : Int))) (IntKind.i64.wrap (x11 + 1)) r)) else ((0 ≤ size ∧ size ≤ 1000000) ∧ (if (decide (size = 0)) = true then G85_1 w Xs sl 0 r else G85_2 w Xs sl ([] : List FrameV) 0 r)))) : G85_0 w Xs sl size x11 r := by
  obtain ⟨I, hI⟩ : ∃ I, I = real := ⟨_, rfl⟩; obtain ⟨K, k126⟩ : ∃ K : FuncId → En, K 126 = en126 := ⟨fun g => (lk g [(126, en126)]).getD default, rfl⟩
  unfold G85_0 WL
  obtain ⟨q0, hq0⟩ := eqv (sl.length : Int)
  try rw [← hq0]
  obtain ⟨q1, hq1⟩ := eqv (tLink.encs sl)
  try rw [← hq1]
  have hS := And.intro hI (And.intro k126 (And.intro hq0 hq1))
  refine W_go (Y := (Y85 I K)) xok (tY85 hI k126) Tryz.func85 rfl 2000 _ hI ?_; (conv => arg 4; cbv)
  exact fin
theorem st85_1 {w : World} {Xs : Nat → Prop} (sl : List LinkV) (x27 : Int) {r : RES} (h : (if x27 < (sl.length : Int) then ((0 ≤ x27 ∧ x27 < (sl.length : Int)) ∧ (if 1 ≤ ((nth sl x27.toNat).frames).length then ((((nth sl x27.toNat).frames).length ≤ 1759218604441) ∧ G85_2 w Xs sl ((nth sl x27.toNat).frames) (IntKind.i64.wrap (x27 + 1)) r) else G85_1 w Xs sl (IntKind.i64.wrap (x27 + 1)) r)) else r = (.one (.pv .nl), [], 0))) : G85_1 w Xs sl x27 r := by
  obtain ⟨I, hI⟩ : ∃ I, I = real := ⟨_, rfl⟩; obtain ⟨K, k126⟩ : ∃ K : FuncId → En, K 126 = en126 := ⟨fun g => (lk g [(126, en126)]).getD default, rfl⟩
  unfold G85_1 WL
  obtain ⟨q0, hq0⟩ := eqv (sl.length : Int)
  try rw [← hq0]
  obtain ⟨q1, hq1⟩ := eqv (tLink.encs sl)
  try rw [← hq1]
  have hS := And.intro hI (And.intro k126 (And.intro hq0 hq1))
  refine W_go (Y := (Y85 I K)) xok (tY85 hI k126) Tryz.func85 rfl 2000 _ hI ?_; (conv => arg 4; cbv)
  exact fin
theorem st85_2 {w : World} {Xs : Nat → Prop} (sl : List LinkV) (r0 : List FrameV) (x27' : Int) {r : RES} (h : (if x27' < (sl.length : Int) then ((0 ≤ x27' ∧ x27' < (sl.length : Int)) ∧ (((r0.length + ((nth sl x27'.toNat).frames).length) ≤ 1759218604441) ∧ G85_2 w Xs sl (r0 ++ (nth sl x27'.toNat).frames) (IntKind.i64.wrap (x27' + 1)) r)) else r = (.one (.arr 0 0 r0.length), [(0, .row 6 (tFrame.encs r0))], 1))) : G85_2 w Xs sl r0 x27' r := by
  obtain ⟨I, hI⟩ : ∃ I, I = real := ⟨_, rfl⟩; obtain ⟨K, k126⟩ : ∃ K : FuncId → En, K 126 = en126 := ⟨fun g => (lk g [(126, en126)]).getD default, rfl⟩
  unfold G85_2 WL
  obtain ⟨q0, hq0⟩ := eqv (sl.length : Int)
  try rw [← hq0]
  obtain ⟨q1, hq1⟩ := eqv (tFrame.encs r0)
  try rw [← hq1]
  obtain ⟨q2, hq2⟩ := eqv (tLink.encs sl)
  try rw [← hq2]
  obtain ⟨q3, hq3⟩ := eqv r0.length
  try rw [← hq3]
  have hS := And.intro hI (And.intro k126 (And.intro hq0 (And.intro hq1 (And.intro hq2 hq3))))
  refine W_go (Y := (Y85 I K)) xok (tY85 hI k126) Tryz.func85 rfl 2000 _ hI ?_; (conv => arg 4; cbv)
  exact fin
theorem go85 (sl : List LinkV) {r : RES} (h : ∀ (w : World) (Xs : Nat → Prop), G85_0 w Xs sl 0 0 r) : Ok0 Tryz.prog 85 [(pL tLink).enc sl] r.1 r.2.1 r.2.2 := by
  obtain ⟨I, hI⟩ : ∃ I, I = real := ⟨_, rfl⟩; obtain ⟨K, k126⟩ : ∃ K : FuncId → En, K 126 = en126 := ⟨fun g => (lk g [(126, en126)]).getD default, rfl⟩
  show Ok0 Tryz.prog 85 [.one (.pv (.sl false 1 (tLink.encs sl)))] _ _ _
  obtain ⟨q0, hq0⟩ := eqv (tLink.encs sl)
  try rw [← hq0]
  have hS := And.intro hI (And.intro k126 hq0)
  refine Ok0_run (Y := (Y85 I K)) xok (tY85 hI k126) Tryz.func85 rfl rfl rfl 2000 hI fun w Xs => ?_; (conv => arg 4; cbv)
  replace h := h w Xs
  exact fin
theorem la85 {w : World} {Xs : Nat → Prop} (sl : List LinkV) (hl : sl.length ≤ 9) (ho : okL sl = true) {r : RES} (H : if (decide ((catF sl).length = 0)) = true then G85_1 w Xs sl 0 r else G85_2 w Xs sl ([] : List FrameV) 0 r) : ∀ (k i : Nat) (size : Int), k + i = sl.length → size + (catF (sl.drop i)).length = (catF sl).length → 0 ≤ size → G85_0 w Xs sl size i r := by
  have hc := catF_le sl ho
  intro k
  induction k with
  | zero =>
    intro i size hk hs h0
    apply st85_0
    rw [drop_nil (l := sl) (by omega)] at hs
    simp only [catF, List.length_nil] at hs
    rw [if_neg (by omega)]
    refine ⟨by omega, ?_⟩
    by_cases h : (catF sl).length = 0
    · rw [if_pos (by simpa using h)] at H
      rw [if_pos (by simp; omega)]; exact H
    · rw [if_neg (by simpa using h)] at H
      rw [if_neg (by simp; omega)]; exact H
  | succ k ih =>
    intro i size hk hs h0
    apply st85_0
    rw [nth_drop (l := sl) (i := i) (by omega), catF, List.length_append] at hs
    have hw : IntKind.i64.wrap (size + ((nth sl i).frames.length : Int)) = size + ((nth sl i).frames.length : Int) := by rw [IntKind.wrap_i64]; omega
    rw [if_pos (by omega), wsucc (by omega), Int.toNat_natCast, hw, if_neg (by omega)]
    exact ⟨by omega, ih (i + 1) _ (by omega) (by omega) (by omega)⟩
theorem lb85 {w : World} {Xs : Nat → Prop} (sl : List LinkV) (hl : sl.length ≤ 9) (h0 : (catF sl).length = 0) : ∀ k i : Nat, k + i = sl.length → (catF (sl.drop i)).length = 0 → G85_1 w Xs sl i (.one (.pv .nl), [], 0) := by
  intro k
  induction k with
  | zero =>
    intro i hk hs
    apply st85_1
    rw [if_neg (by omega)]
  | succ k ih =>
    intro i hk hs
    apply st85_1
    rw [nth_drop (l := sl) (i := i) (by omega), catF, List.length_append] at hs
    rw [if_pos (by omega), wsucc (by omega), Int.toNat_natCast, if_neg (by omega)]
    exact ⟨by omega, ih (i + 1) (by omega) (by omega)⟩
theorem lc85 {w : World} {Xs : Nat → Prop} (sl : List LinkV) (hl : sl.length ≤ 9) (ho : okL sl = true) : ∀ (k i : Nat) (acc : List FrameV), k + i = sl.length → acc.length ≤ 60 * i → G85_2 w Xs sl acc i (.one (.arr 0 0 (acc ++ catF (sl.drop i)).length), [(0, .row 6 (tFrame.encs (acc ++ catF (sl.drop i))))], 1) := by
  intro k
  induction k with
  | zero =>
    intro i acc hk ha
    apply st85_2
    rw [if_neg (by omega), drop_nil (l := sl) (by omega)]
    simp [catF]
  | succ k ih =>
    intro i acc hk ha
    have hx := okL_nth ho (i := i) (by omega)
    apply st85_2
    rw [if_pos (by omega), wsucc (by omega), Int.toNat_natCast, nth_drop (l := sl) (i := i) (by omega), catF, ← List.append_assoc]
    exact ⟨by omega, by omega, ih (i + 1) _ (by omega) (by rw [List.length_append]; omega)⟩
def sh85 : Shp := fun I i b l s => .ask (b 0) fun t => match t with | true => .ok (.one (.pv .nl), [], 0) | false => .ok (.one (.arr 0 0 (I.len (l 0))), [(0, .row 6 (l 0))], 1)
def an85 : An (List LinkV × Unit) where
  pre t := decide (t.1.length ≤ 9) && (okL t.1)
  b _ t := (decide ((catF t.1).length = 0))
  l _ t := (tFrame.encs (catF t.1))
noncomputable def en85 : En := mkE (parsC (pL tLink) pars0) an85
attribute [simp] en85 an85
theorem ok85 (sl : List LinkV) (p0 : sl.length ≤ 9) (p1 : okL sl = true) : Ok0 Tryz.prog 85 [(pL tLink).enc sl] (if (decide ((catF sl).length = 0)) = true then ((.one (.pv .nl), [], 0) : RES) else ((.one (.arr 0 0 (catF sl).length), [(0, .row 6 (tFrame.encs (catF sl)))], 1) : RES) : RES).1 (if (decide ((catF sl).length = 0)) = true then ((.one (.pv .nl), [], 0) : RES) else ((.one (.arr 0 0 (catF sl).length), [(0, .row 6 (tFrame.encs (catF sl)))], 1) : RES) : RES).2.1 (if (decide ((catF sl).length = 0)) = true then ((.one (.pv .nl), [], 0) : RES) else ((.one (.arr 0 0 (catF sl).length), [(0, .row 6 (tFrame.encs (catF sl)))], 1) : RES) : RES).2.2 := by
  by_cases h : (catF sl).length = 0
  · rw [if_pos (by simpa using h)]
    refine go85 sl fun w Xs => la85 sl p0 p1 ?_ sl.length 0 0 rfl (by simp) (by omega)
    rw [if_pos (by simpa using h)]
    exact lb85 sl p0 h sl.length 0 rfl (by simpa using h)
  · rw [if_neg (by simpa using h)]
    refine go85 sl fun w Xs => la85 sl p0 p1 ?_ sl.length 0 0 rfl (by simp) (by omega)
    rw [if_neg (by simpa using h)]
    have := lc85 (w := w) (Xs := Xs) sl p0 p1 sl.length 0 [] rfl (by simp)
    simpa using this
theorem s85 {I : Ops} (hI : I = real) {e : En} (he : e = en85) : Sound Tryz.prog 85 (callE I e sh85) := by
  refine Sound.mkR ent85 hI ?_ he
  rintro ⟨sl, ⟨⟩⟩ hp r σ n e
  have hp : (decide (sl.length ≤ 9) && (okL sl)) = true := hp
  try simp only [Bool.and_eq_true, decide_eq_true_eq] at hp
  obtain ⟨p0, p1⟩ := hp
  have e : (R.ok (if (decide ((catF sl).length = 0)) = true then ((.one (.pv .nl), [], 0) : RES) else ((.one (.arr 0 0 (catF sl).length), [(0, .row 6 (tFrame.encs (catF sl)))], 1) : RES) : RES) : R RES).val = some (r, σ, n) := by
    rw [← e]
    cases hb : ((decide ((catF sl).length = 0)) : Bool) <;> (try simp at hb) <;> simp [sh85, an85, hb, val_ask]
  have k := ok85 sl p0 p1
  rw [Option.some.inj e] at k
  exact k
end Go.Proofs.Tryz
