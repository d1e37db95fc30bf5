/-
  THE STRUCTS OF THE PROGRAM, AS LEAN TYPES (written by gentypes.py).
-/
import Derived.Test.YtiieincddkhcdaaGreatAix5
import Derived.Test.YtiieincddkhcdaaGreatAix4
set_option linter.unusedSimpArgs false
set_option linter.unusedVariables false
namespace Go.Aix
theorem tI64_purs : ∀ l, purs (tI64.encs l) = true
  | [] => rfl
  | a :: l => by show (purc (tI64.enc a) && purs (tI64.encs l)) = true; rw [tI64_purs l]; rfl
theorem tU8_purs : ∀ l, purs (tU8.encs l) = true
  | [] => rfl
  | a :: l => by show (purc (tU8.enc a) && purs (tU8.encs l)) = true; rw [tU8_purs l]; rfl
structure NodeV where
  op : Int
  a : Int
  b : Int
  col : Int
  test : Int
  value : Int
  cells : List Int
  deriving DecidableEq, Inhabited
def tNode_own (x : NodeV) : List PV := [.sc (.int .i64 x.op), .sc (.int .i64 x.a), .sc (.int .i64 x.b), .sc (.int .i64 x.col), .sc (.int .i64 x.test), .sc (.int .i64 x.value), .sl true 1 (tI64.encs x.cells)]
def tNode : Ty NodeV where
  sz := 7
  enc x := [.sc (.int .i64 x.op), .sc (.int .i64 x.a), .sc (.int .i64 x.b), .sc (.int .i64 x.col), .sc (.int .i64 x.test), .sc (.int .i64 x.value), .sl false 1 (tI64.encs x.cells)]
  dec ps := ⟨pInt (at0 ps 0), pInt (at0 ps 1), pInt (at0 ps 2), pInt (at0 ps 3), pInt (at0 ps 4), pInt (at0 ps 5), tI64.decs (els (at0 ps 6))⟩
  ok ps := match ps with
    | [q0, q1, q2, q3, q4, q5, q6] => (isPInt .i64 q0) && (isPInt .i64 q1) && (isPInt .i64 q2) && (isPInt .i64 q3) && (isPInt .i64 q4) && (isPInt .i64 q5) && (tI64.okP q6)
    | _ => false
  len _ := rfl
  fit := by
    intro w M ps vs h e
    split at e
    · simp only [Bool.and_eq_true] at e
      obtain ⟨⟨⟨⟨⟨⟨e0, e1⟩, e2⟩, e3⟩, e4⟩, e5⟩, e6⟩ := e
      obtain ⟨v0, _, rfl, h0, h⟩ := h.inv
      obtain ⟨v1, _, rfl, h1, h⟩ := h.inv
      obtain ⟨v2, _, rfl, h2, h⟩ := h.inv
      obtain ⟨v3, _, rfl, h3, h⟩ := h.inv
      obtain ⟨v4, _, rfl, h4, h⟩ := h.inv
      obtain ⟨v5, _, rfl, h5, h⟩ := h.inv
      obtain ⟨v6, _, rfl, h6, h⟩ := h.inv
      exact .mk (fitI h0 e0) (.mk (fitI h1 e1) (.mk (fitI h2 e2) (.mk (fitI h3 e3) (.mk (fitI h4 e4) (.mk (fitI h5 e5) (.mk (tI64.fitP h6 e6) (h)))))))
    · cases e
  dec_enc x := by simp [at0, pInt, pBool, els, Ty.decs_encs]
  ok_enc x := by simp [isPInt, isPBool]; repeat' (first | (refine ⟨?_, ?_⟩) | exact Ty.okP_mk _ _ _)
  down x := by simp [downc, PV.down, Ty.downs_encs]
  dead x := rfl
  own := tNode_own
  olen _ := rfl
  odown x := by simp [tNode_own, downc, PV.down, Ty.downs_encs, Ty.downs_own]
  dec_own x := by simp [tNode_own, at0, pInt, pBool, els, Ty.decs_encs, Ty.decs_own]
  opur x := by simp [tNode_own, purc, PV.pur, Ty.pur_own, tI64_purs]
theorem tNode_odown (x : NodeV) : downc (tNode_own x) = tNode.enc x := tNode.odown x
theorem tNode_rd0 (l : List NodeV) (i : Nat) : real.asInt (real.nth (tNode.encs l) i 0) = (nth l i).op := by
  by_cases h : i < l.length
  · rw [tNode.nth_encs 0 h]; rfl
  · rw [tNode.nth_out 0 h]; simp [nth, h]; rfl
theorem tNode_is0 {l : List NodeV} {i : Nat} (h : i < l.length) : real.isInt .i64 (real.nth (tNode.encs l) i 0) = true := by
  rw [tNode.nth_encs 0 h]; rfl
theorem tNode_ord0 (l : List NodeV) (i : Nat) : real.asInt (real.nth (mapE tNode_own l) i 0) = (nth l i).op := by
  by_cases h : i < l.length
  · rw [Ty.nth_own 0 h]; rfl
  · rw [Ty.nth_own_out 0 h]; simp [nth, h]; rfl
theorem tNode_ois0 {l : List NodeV} {i : Nat} (h : i < l.length) : real.isInt .i64 (real.nth (mapE tNode_own l) i 0) = true := by
  rw [Ty.nth_own 0 h]; rfl
theorem tNode_rd1 (l : List NodeV) (i : Nat) : real.asInt (real.nth (tNode.encs l) i 1) = (nth l i).a := by
  by_cases h : i < l.length
  · rw [tNode.nth_encs 1 h]; rfl
  · rw [tNode.nth_out 1 h]; simp [nth, h]; rfl
theorem tNode_is1 {l : List NodeV} {i : Nat} (h : i < l.length) : real.isInt .i64 (real.nth (tNode.encs l) i 1) = true := by
  rw [tNode.nth_encs 1 h]; rfl
theorem tNode_ord1 (l : List NodeV) (i : Nat) : real.asInt (real.nth (mapE tNode_own l) i 1) = (nth l i).a := by
  by_cases h : i < l.length
  · rw [Ty.nth_own 1 h]; rfl
  · rw [Ty.nth_own_out 1 h]; simp [nth, h]; rfl
theorem tNode_ois1 {l : List NodeV} {i : Nat} (h : i < l.length) : real.isInt .i64 (real.nth (mapE tNode_own l) i 1) = true := by
  rw [Ty.nth_own 1 h]; rfl
theorem tNode_rd2 (l : List NodeV) (i : Nat) : real.asInt (real.nth (tNode.encs l) i 2) = (nth l i).b := by
  by_cases h : i < l.length
  · rw [tNode.nth_encs 2 h]; rfl
  · rw [tNode.nth_out 2 h]; simp [nth, h]; rfl
theorem tNode_is2 {l : List NodeV} {i : Nat} (h : i < l.length) : real.isInt .i64 (real.nth (tNode.encs l) i 2) = true := by
  rw [tNode.nth_encs 2 h]; rfl
theorem tNode_ord2 (l : List NodeV) (i : Nat) : real.asInt (real.nth (mapE tNode_own l) i 2) = (nth l i).b := by
  by_cases h : i < l.length
  · rw [Ty.nth_own 2 h]; rfl
  · rw [Ty.nth_own_out 2 h]; simp [nth, h]; rfl
theorem tNode_ois2 {l : List NodeV} {i : Nat} (h : i < l.length) : real.isInt .i64 (real.nth (mapE tNode_own l) i 2) = true := by
  rw [Ty.nth_own 2 h]; rfl
theorem tNode_rd3 (l : List NodeV) (i : Nat) : real.asInt (real.nth (tNode.encs l) i 3) = (nth l i).col := by
  by_cases h : i < l.length
  · rw [tNode.nth_encs 3 h]; rfl
  · rw [tNode.nth_out 3 h]; simp [nth, h]; rfl
theorem tNode_is3 {l : List NodeV} {i : Nat} (h : i < l.length) : real.isInt .i64 (real.nth (tNode.encs l) i 3) = true := by
  rw [tNode.nth_encs 3 h]; rfl
theorem tNode_ord3 (l : List NodeV) (i : Nat) : real.asInt (real.nth (mapE tNode_own l) i 3) = (nth l i).col := by
  by_cases h : i < l.length
  · rw [Ty.nth_own 3 h]; rfl
  · rw [Ty.nth_own_out 3 h]; simp [nth, h]; rfl
theorem tNode_ois3 {l : List NodeV} {i : Nat} (h : i < l.length) : real.isInt .i64 (real.nth (mapE tNode_own l) i 3) = true := by
  rw [Ty.nth_own 3 h]; rfl
theorem tNode_rd4 (l : List NodeV) (i : Nat) : real.asInt (real.nth (tNode.encs l) i 4) = (nth l i).test := by
  by_cases h : i < l.length
  · rw [tNode.nth_encs 4 h]; rfl
  · rw [tNode.nth_out 4 h]; simp [nth, h]; rfl
theorem tNode_is4 {l : List NodeV} {i : Nat} (h : i < l.length) : real.isInt .i64 (real.nth (tNode.encs l) i 4) = true := by
  rw [tNode.nth_encs 4 h]; rfl
theorem tNode_ord4 (l : List NodeV) (i : Nat) : real.asInt (real.nth (mapE tNode_own l) i 4) = (nth l i).test := by
  by_cases h : i < l.length
  · rw [Ty.nth_own 4 h]; rfl
  · rw [Ty.nth_own_out 4 h]; simp [nth, h]; rfl
theorem tNode_ois4 {l : List NodeV} {i : Nat} (h : i < l.length) : real.isInt .i64 (real.nth (mapE tNode_own l) i 4) = true := by
  rw [Ty.nth_own 4 h]; rfl
theorem tNode_rd5 (l : List NodeV) (i : Nat) : real.asInt (real.nth (tNode.encs l) i 5) = (nth l i).value := by
  by_cases h : i < l.length
  · rw [tNode.nth_encs 5 h]; rfl
  · rw [tNode.nth_out 5 h]; simp [nth, h]; rfl
theorem tNode_is5 {l : List NodeV} {i : Nat} (h : i < l.length) : real.isInt .i64 (real.nth (tNode.encs l) i 5) = true := by
  rw [tNode.nth_encs 5 h]; rfl
theorem tNode_ord5 (l : List NodeV) (i : Nat) : real.asInt (real.nth (mapE tNode_own l) i 5) = (nth l i).value := by
  by_cases h : i < l.length
  · rw [Ty.nth_own 5 h]; rfl
  · rw [Ty.nth_own_out 5 h]; simp [nth, h]; rfl
theorem tNode_ois5 {l : List NodeV} {i : Nat} (h : i < l.length) : real.isInt .i64 (real.nth (mapE tNode_own l) i 5) = true := by
  rw [Ty.nth_own 5 h]; rfl
theorem tNode_rd6 (l : List NodeV) (i : Nat) : real.els (real.nth (tNode.encs l) i 6) = tI64.encs (nth l i).cells := by
  by_cases h : i < l.length
  · rw [tNode.nth_encs 6 h]; rfl
  · rw [tNode.nth_out 6 h]; simp [nth, h]; rfl
theorem tNode_is6 {l : List NodeV} {i : Nat} (h : i < l.length) : real.isSh 1 (real.nth (tNode.encs l) i 6) = true := by
  rw [tNode.nth_encs 6 h]; exact Nat.beq_refl _
theorem tNode_ord6 {l : List NodeV} {i : Nat} (h : i < l.length) : real.nth (mapE tNode_own l) i 6 = .sl true 1 (tI64.encs (nth l i).cells) := by
  rw [Ty.nth_own 6 h]; rfl
theorem tNode_dec (x0 : Int) (x1 : Int) (x2 : Int) (x3 : Int) (x4 : Int) (x5 : Int) (u6 : Bool) (x6 : List Int) : (pS tNode).dec (.ag [.pv (.sc (.int .i64 x0)), .pv (.sc (.int .i64 x1)), .pv (.sc (.int .i64 x2)), .pv (.sc (.int .i64 x3)), .pv (.sc (.int .i64 x4)), .pv (.sc (.int .i64 x5)), .pv (.sl u6 1 (tI64.encs x6))]) = some ⟨x0, x1, x2, x3, x4, x5, x6⟩ := by
  show (if tNode.ok _ = true ∧ Nat.beq _ tNode.sz = true then _ else _) = _
  rw [if_pos ⟨by simp only [tNode, isPInt, isPBool, decide_true, Bool.true_and, Bool.and_true]; first | exact Ty.okP_mk _ _ _ | (simp only [Bool.and_eq_true]; repeat' (first | (refine ⟨?_, ?_⟩) | exact Ty.okP_mk _ _ _)), rfl⟩]
  simp [tNode, at0, pInt, pBool, els, Ty.decs_encs]
theorem pL_Node (u : Bool) (l : List NodeV) : (pL tNode).dec (.one (.pv (.sl u 7 (tNode.encs l)))) = some l := pL_dec tNode u l
theorem tNode_eta (x : NodeV) : NodeV.mk x.op x.a x.b x.col x.test x.value x.cells = x := rfl
def gNode (x : NodeV) : Prop := inI64 x.op ∧ inI64 x.a ∧ inI64 x.b ∧ inI64 x.col ∧ inI64 x.test ∧ inI64 x.value ∧ gL inI64 x.cells
theorem fit_Node {P : Program} {t t0 t1 t2 t3 t4 t5 t6 : TypeId} (hn : P.cellsOf t = 7) (f0 : fldOk P t 0 t0 = true) (u0 : P.underlying t0 = some (.int .i64)) (f1 : fldOk P t 1 t1 = true) (u1 : P.underlying t1 = some (.int .i64)) (f2 : fldOk P t 2 t2 = true) (u2 : P.underlying t2 = some (.int .i64)) (f3 : fldOk P t 3 t3 = true) (u3 : P.underlying t3 = some (.int .i64)) (f4 : fldOk P t 4 t4 = true) (u4 : P.underlying t4 = some (.int .i64)) (f5 : fldOk P t 5 t5 = true) (u5 : P.underlying t5 = some (.int .i64)) (f6 : fldOk P t 6 t6 = true) {e6 : TypeId} (u6 : P.underlying t6 = some (.slice e6)) (c6 : P.cellsOf e6 = tI64.sz) (k6 : TrodFit P tI64 inI64 e6) : TrodFit P tNode gNode t := by
  intro H enc w spare held fuel cs d p h
  have hl := trod_len f0 hn h
  obtain ⟨n0, d0, p0, h0⟩ := trod_fld f0 h
  obtain ⟨n1, d1, p1, h1⟩ := trod_fld f1 h
  obtain ⟨n2, d2, p2, h2⟩ := trod_fld f2 h
  obtain ⟨n3, d3, p3, h3⟩ := trod_fld f3 h
  obtain ⟨n4, d4, p4, h4⟩ := trod_fld f4 h
  obtain ⟨n5, d5, p5, h5⟩ := trod_fld f5 h
  obtain ⟨n6, d6, p6, h6⟩ := trod_fld f6 h
  match cs, hl with
  | [v0, v1, v2, v3, v4, v5, v6], _ =>
    simp only [List.drop_succ_cons, List.drop_zero, List.take_succ_cons, List.take_zero] at h0
    obtain ⟨a0, j0, w0⟩ := trod_i64 u0 h0
    cases j0
    simp only [List.drop_succ_cons, List.drop_zero, List.take_succ_cons, List.take_zero] at h1
    obtain ⟨a1, j1, w1⟩ := trod_i64 u1 h1
    cases j1
    simp only [List.drop_succ_cons, List.drop_zero, List.take_succ_cons, List.take_zero] at h2
    obtain ⟨a2, j2, w2⟩ := trod_i64 u2 h2
    cases j2
    simp only [List.drop_succ_cons, List.drop_zero, List.take_succ_cons, List.take_zero] at h3
    obtain ⟨a3, j3, w3⟩ := trod_i64 u3 h3
    cases j3
    simp only [List.drop_succ_cons, List.drop_zero, List.take_succ_cons, List.take_zero] at h4
    obtain ⟨a4, j4, w4⟩ := trod_i64 u4 h4
    cases j4
    simp only [List.drop_succ_cons, List.drop_zero, List.take_succ_cons, List.take_zero] at h5
    obtain ⟨a5, j5, w5⟩ := trod_i64 u5 h5
    cases j5
    simp only [List.drop_succ_cons, List.drop_zero, List.take_succ_cons, List.take_zero] at h6
    obtain ⟨a6, _, j6, w6, r6⟩ := trod_slice u6 c6 (by decide) k6 h6
    cases j6
    exact ⟨⟨a0, a1, a2, a3, a4, a5, a6⟩, ⟨wf_i64 w0, wf_i64 w1, wf_i64 w2, wf_i64 w3, wf_i64 w4, wf_i64 w5, w6⟩, .mk (.sc rfl) (.mk (.sc rfl) (.mk (.sc rfl) (.mk (.sc rfl) (.mk (.sc rfl) (.mk (.sc rfl) (.mk (r6) (.nil)))))))⟩
structure EntryV where
  row : List Int
  weight : Int
  deriving DecidableEq, Inhabited
def tEntry_own (x : EntryV) : List PV := [.sl true 1 (tI64.encs x.row), .sc (.int .i64 x.weight)]
def tEntry : Ty EntryV where
  sz := 2
  enc x := [.sl false 1 (tI64.encs x.row), .sc (.int .i64 x.weight)]
  dec ps := ⟨tI64.decs (els (at0 ps 0)), pInt (at0 ps 1)⟩
  ok ps := match ps with
    | [q0, q1] => (tI64.okP q0) && (isPInt .i64 q1)
    | _ => false
  len _ := rfl
  fit := by
    intro w M ps vs h e
    split at e
    · simp only [Bool.and_eq_true] at e
      obtain ⟨e0, e1⟩ := e
      obtain ⟨v0, _, rfl, h0, h⟩ := h.inv
      obtain ⟨v1, _, rfl, h1, h⟩ := h.inv
      exact .mk (tI64.fitP h0 e0) (.mk (fitI h1 e1) (h))
    · cases e
  dec_enc x := by simp [at0, pInt, pBool, els, Ty.decs_encs]
  ok_enc x := by simp [isPInt, isPBool]; repeat' (first | (refine ⟨?_, ?_⟩) | exact Ty.okP_mk _ _ _)
  down x := by simp [downc, PV.down, Ty.downs_encs]
  dead x := rfl
  own := tEntry_own
  olen _ := rfl
  odown x := by simp [tEntry_own, downc, PV.down, Ty.downs_encs, Ty.downs_own]
  dec_own x := by simp [tEntry_own, at0, pInt, pBool, els, Ty.decs_encs, Ty.decs_own]
  opur x := by simp [tEntry_own, purc, PV.pur, Ty.pur_own, tI64_purs]
theorem tEntry_odown (x : EntryV) : downc (tEntry_own x) = tEntry.enc x := tEntry.odown x
theorem tEntry_rd0 (l : List EntryV) (i : Nat) : real.els (real.nth (tEntry.encs l) i 0) = tI64.encs (nth l i).row := by
  by_cases h : i < l.length
  · rw [tEntry.nth_encs 0 h]; rfl
  · rw [tEntry.nth_out 0 h]; simp [nth, h]; rfl
theorem tEntry_is0 {l : List EntryV} {i : Nat} (h : i < l.length) : real.isSh 1 (real.nth (tEntry.encs l) i 0) = true := by
  rw [tEntry.nth_encs 0 h]; exact Nat.beq_refl _
theorem tEntry_ord0 {l : List EntryV} {i : Nat} (h : i < l.length) : real.nth (mapE tEntry_own l) i 0 = .sl true 1 (tI64.encs (nth l i).row) := by
  rw [Ty.nth_own 0 h]; rfl
theorem tEntry_rd1 (l : List EntryV) (i : Nat) : real.asInt (real.nth (tEntry.encs l) i 1) = (nth l i).weight := by
  by_cases h : i < l.length
  · rw [tEntry.nth_encs 1 h]; rfl
  · rw [tEntry.nth_out 1 h]; simp [nth, h]; rfl
theorem tEntry_is1 {l : List EntryV} {i : Nat} (h : i < l.length) : real.isInt .i64 (real.nth (tEntry.encs l) i 1) = true := by
  rw [tEntry.nth_encs 1 h]; rfl
theorem tEntry_ord1 (l : List EntryV) (i : Nat) : real.asInt (real.nth (mapE tEntry_own l) i 1) = (nth l i).weight := by
  by_cases h : i < l.length
  · rw [Ty.nth_own 1 h]; rfl
  · rw [Ty.nth_own_out 1 h]; simp [nth, h]; rfl
theorem tEntry_ois1 {l : List EntryV} {i : Nat} (h : i < l.length) : real.isInt .i64 (real.nth (mapE tEntry_own l) i 1) = true := by
  rw [Ty.nth_own 1 h]; rfl
theorem tEntry_dec (u0 : Bool) (x0 : List Int) (x1 : Int) : (pS tEntry).dec (.ag [.pv (.sl u0 1 (tI64.encs x0)), .pv (.sc (.int .i64 x1))]) = some ⟨x0, x1⟩ := by
  show (if tEntry.ok _ = true ∧ Nat.beq _ tEntry.sz = true then _ else _) = _
  rw [if_pos ⟨by simp only [tEntry, isPInt, isPBool, decide_true, Bool.true_and, Bool.and_true]; first | exact Ty.okP_mk _ _ _ | (simp only [Bool.and_eq_true]; repeat' (first | (refine ⟨?_, ?_⟩) | exact Ty.okP_mk _ _ _)), rfl⟩]
  simp [tEntry, at0, pInt, pBool, els, Ty.decs_encs]
theorem pL_Entry (u : Bool) (l : List EntryV) : (pL tEntry).dec (.one (.pv (.sl u 2 (tEntry.encs l)))) = some l := pL_dec tEntry u l
theorem tEntry_eta (x : EntryV) : EntryV.mk x.row x.weight = x := rfl
def gEntry (x : EntryV) : Prop := gL inI64 x.row ∧ inI64 x.weight
theorem fit_Entry {P : Program} {t t0 t1 : TypeId} (hn : P.cellsOf t = 2) (f0 : fldOk P t 0 t0 = true) {e0 : TypeId} (u0 : P.underlying t0 = some (.slice e0)) (c0 : P.cellsOf e0 = tI64.sz) (k0 : TrodFit P tI64 inI64 e0) (f1 : fldOk P t 1 t1 = true) (u1 : P.underlying t1 = some (.int .i64)) : TrodFit P tEntry gEntry t := by
  intro H enc w spare held fuel cs d p h
  have hl := trod_len f0 hn h
  obtain ⟨n0, d0, p0, h0⟩ := trod_fld f0 h
  obtain ⟨n1, d1, p1, h1⟩ := trod_fld f1 h
  match cs, hl with
  | [v0, v1], _ =>
    simp only [List.drop_succ_cons, List.drop_zero, List.take_succ_cons, List.take_zero] at h0
    obtain ⟨a0, _, j0, w0, r0⟩ := trod_slice u0 c0 (by decide) k0 h0
    cases j0
    simp only [List.drop_succ_cons, List.drop_zero, List.take_succ_cons, List.take_zero] at h1
    obtain ⟨a1, j1, w1⟩ := trod_i64 u1 h1
    cases j1
    exact ⟨⟨a0, a1⟩, ⟨w0, wf_i64 w1⟩, .mk (r0) (.mk (.sc rfl) (.nil))⟩
structure CountV where
  place : Int
  epoch : Int
  n : Int
  deriving DecidableEq, Inhabited
def tCount_own (x : CountV) : List PV := [.sc (.int .i64 x.place), .sc (.int .i64 x.epoch), .sc (.int .i64 x.n)]
def tCount : Ty CountV where
  sz := 3
  enc x := [.sc (.int .i64 x.place), .sc (.int .i64 x.epoch), .sc (.int .i64 x.n)]
  dec ps := ⟨pInt (at0 ps 0), pInt (at0 ps 1), pInt (at0 ps 2)⟩
  ok ps := match ps with
    | [q0, q1, q2] => (isPInt .i64 q0) && (isPInt .i64 q1) && (isPInt .i64 q2)
    | _ => false
  len _ := rfl
  fit := by
    intro w M ps vs h e
    split at e
    · simp only [Bool.and_eq_true] at e
      obtain ⟨⟨e0, e1⟩, e2⟩ := e
      obtain ⟨v0, _, rfl, h0, h⟩ := h.inv
      obtain ⟨v1, _, rfl, h1, h⟩ := h.inv
      obtain ⟨v2, _, rfl, h2, h⟩ := h.inv
      exact .mk (fitI h0 e0) (.mk (fitI h1 e1) (.mk (fitI h2 e2) (h)))
    · cases e
  dec_enc x := by simp [at0, pInt, pBool, els, Ty.decs_encs]
  ok_enc x := by simp [isPInt, isPBool]
  down x := by simp [downc, PV.down, Ty.downs_encs]
  dead x := rfl
  own := tCount_own
  olen _ := rfl
  odown x := by simp [tCount_own, downc, PV.down, Ty.downs_encs, Ty.downs_own]
  dec_own x := by simp [tCount_own, at0, pInt, pBool, els, Ty.decs_encs, Ty.decs_own]
  opur x := by simp [tCount_own, purc, PV.pur, Ty.pur_own]
theorem tCount_purs : ∀ l, purs (tCount.encs l) = true
  | [] => rfl
  | a :: l => by show (purc (tCount.enc a) && purs (tCount.encs l)) = true; rw [tCount_purs l]; rfl
theorem tCount_odown (x : CountV) : downc (tCount_own x) = tCount.enc x := tCount.odown x
theorem tCount_rd0 (l : List CountV) (i : Nat) : real.asInt (real.nth (tCount.encs l) i 0) = (nth l i).place := by
  by_cases h : i < l.length
  · rw [tCount.nth_encs 0 h]; rfl
  · rw [tCount.nth_out 0 h]; simp [nth, h]; rfl
theorem tCount_is0 {l : List CountV} {i : Nat} (h : i < l.length) : real.isInt .i64 (real.nth (tCount.encs l) i 0) = true := by
  rw [tCount.nth_encs 0 h]; rfl
theorem tCount_ord0 (l : List CountV) (i : Nat) : real.asInt (real.nth (mapE tCount_own l) i 0) = (nth l i).place := by
  by_cases h : i < l.length
  · rw [Ty.nth_own 0 h]; rfl
  · rw [Ty.nth_own_out 0 h]; simp [nth, h]; rfl
theorem tCount_ois0 {l : List CountV} {i : Nat} (h : i < l.length) : real.isInt .i64 (real.nth (mapE tCount_own l) i 0) = true := by
  rw [Ty.nth_own 0 h]; rfl
theorem tCount_rd1 (l : List CountV) (i : Nat) : real.asInt (real.nth (tCount.encs l) i 1) = (nth l i).epoch := by
  by_cases h : i < l.length
  · rw [tCount.nth_encs 1 h]; rfl
  · rw [tCount.nth_out 1 h]; simp [nth, h]; rfl
theorem tCount_is1 {l : List CountV} {i : Nat} (h : i < l.length) : real.isInt .i64 (real.nth (tCount.encs l) i 1) = true := by
  rw [tCount.nth_encs 1 h]; rfl
theorem tCount_ord1 (l : List CountV) (i : Nat) : real.asInt (real.nth (mapE tCount_own l) i 1) = (nth l i).epoch := by
  by_cases h : i < l.length
  · rw [Ty.nth_own 1 h]; rfl
  · rw [Ty.nth_own_out 1 h]; simp [nth, h]; rfl
theorem tCount_ois1 {l : List CountV} {i : Nat} (h : i < l.length) : real.isInt .i64 (real.nth (mapE tCount_own l) i 1) = true := by
  rw [Ty.nth_own 1 h]; rfl
theorem tCount_rd2 (l : List CountV) (i : Nat) : real.asInt (real.nth (tCount.encs l) i 2) = (nth l i).n := by
  by_cases h : i < l.length
  · rw [tCount.nth_encs 2 h]; rfl
  · rw [tCount.nth_out 2 h]; simp [nth, h]; rfl
theorem tCount_is2 {l : List CountV} {i : Nat} (h : i < l.length) : real.isInt .i64 (real.nth (tCount.encs l) i 2) = true := by
  rw [tCount.nth_encs 2 h]; rfl
theorem tCount_ord2 (l : List CountV) (i : Nat) : real.asInt (real.nth (mapE tCount_own l) i 2) = (nth l i).n := by
  by_cases h : i < l.length
  · rw [Ty.nth_own 2 h]; rfl
  · rw [Ty.nth_own_out 2 h]; simp [nth, h]; rfl
theorem tCount_ois2 {l : List CountV} {i : Nat} (h : i < l.length) : real.isInt .i64 (real.nth (mapE tCount_own l) i 2) = true := by
  rw [Ty.nth_own 2 h]; rfl
theorem tCount_dec (x0 : Int) (x1 : Int) (x2 : Int) : (pS tCount).dec (.ag [.pv (.sc (.int .i64 x0)), .pv (.sc (.int .i64 x1)), .pv (.sc (.int .i64 x2))]) = some ⟨x0, x1, x2⟩ := by
  rfl
theorem pL_Count (u : Bool) (l : List CountV) : (pL tCount).dec (.one (.pv (.sl u 3 (tCount.encs l)))) = some l := pL_dec tCount u l
theorem tCount_eta (x : CountV) : CountV.mk x.place x.epoch x.n = x := rfl
def gCount (x : CountV) : Prop := inI64 x.place ∧ inI64 x.epoch ∧ inI64 x.n
theorem fit_Count {P : Program} {t t0 t1 t2 : TypeId} (hn : P.cellsOf t = 3) (f0 : fldOk P t 0 t0 = true) (u0 : P.underlying t0 = some (.int .i64)) (f1 : fldOk P t 1 t1 = true) (u1 : P.underlying t1 = some (.int .i64)) (f2 : fldOk P t 2 t2 = true) (u2 : P.underlying t2 = some (.int .i64)) : TrodFit P tCount gCount t := by
  intro H enc w spare held fuel cs d p h
  have hl := trod_len f0 hn h
  obtain ⟨n0, d0, p0, h0⟩ := trod_fld f0 h
  obtain ⟨n1, d1, p1, h1⟩ := trod_fld f1 h
  obtain ⟨n2, d2, p2, h2⟩ := trod_fld f2 h
  match cs, hl with
  | [v0, v1, v2], _ =>
    simp only [List.drop_succ_cons, List.drop_zero, List.take_succ_cons, List.take_zero] at h0
    obtain ⟨a0, j0, w0⟩ := trod_i64 u0 h0
    cases j0
    simp only [List.drop_succ_cons, List.drop_zero, List.take_succ_cons, List.take_zero] at h1
    obtain ⟨a1, j1, w1⟩ := trod_i64 u1 h1
    cases j1
    simp only [List.drop_succ_cons, List.drop_zero, List.take_succ_cons, List.take_zero] at h2
    obtain ⟨a2, j2, w2⟩ := trod_i64 u2 h2
    cases j2
    exact ⟨⟨a0, a1, a2⟩, ⟨wf_i64 w0, wf_i64 w1, wf_i64 w2⟩, .mk (.sc rfl) (.mk (.sc rfl) (.mk (.sc rfl) (.nil)))⟩
structure BatchV where
  side : Int
  epoch : Int
  set : List EntryV
  deriving DecidableEq, Inhabited
def tBatch_own (x : BatchV) : List PV := [.sc (.int .i64 x.side), .sc (.int .i64 x.epoch), .sl true 2 (mapE tEntry_own x.set)]
def tBatch : Ty BatchV where
  sz := 3
  enc x := [.sc (.int .i64 x.side), .sc (.int .i64 x.epoch), .sl false 2 (tEntry.encs x.set)]
  dec ps := ⟨pInt (at0 ps 0), pInt (at0 ps 1), tEntry.decs (els (at0 ps 2))⟩
  ok ps := match ps with
    | [q0, q1, q2] => (isPInt .i64 q0) && (isPInt .i64 q1) && (tEntry.okP q2)
    | _ => false
  len _ := rfl
  fit := by
    intro w M ps vs h e
    split at e
    · simp only [Bool.and_eq_true] at e
      obtain ⟨⟨e0, e1⟩, e2⟩ := e
      obtain ⟨v0, _, rfl, h0, h⟩ := h.inv
      obtain ⟨v1, _, rfl, h1, h⟩ := h.inv
      obtain ⟨v2, _, rfl, h2, h⟩ := h.inv
      exact .mk (fitI h0 e0) (.mk (fitI h1 e1) (.mk (tEntry.fitP h2 e2) (h)))
    · cases e
  dec_enc x := by simp [at0, pInt, pBool, els, Ty.decs_encs]
  ok_enc x := by simp [isPInt, isPBool]; repeat' (first | (refine ⟨?_, ?_⟩) | exact Ty.okP_mk _ _ _)
  down x := by simp [downc, PV.down, Ty.downs_encs]
  dead x := rfl
  own := tBatch_own
  olen _ := rfl
  odown x := by simp [tBatch_own, downc, PV.down, Ty.downs_encs, Ty.downs_own, show ∀ l, downs (mapE tEntry_own l) = tEntry.encs l from tEntry.downs_own]
  dec_own x := by simp [tBatch_own, at0, pInt, pBool, els, Ty.decs_encs, Ty.decs_own, show ∀ l, tEntry.decs (mapE tEntry_own l) = l from tEntry.decs_own]
  opur x := by simp [tBatch_own, purc, PV.pur, Ty.pur_own, show ∀ l, purs (mapE tEntry_own l) = true from tEntry.pur_own]
theorem tBatch_odown (x : BatchV) : downc (tBatch_own x) = tBatch.enc x := tBatch.odown x
theorem tBatch_rd0 (l : List BatchV) (i : Nat) : real.asInt (real.nth (tBatch.encs l) i 0) = (nth l i).side := by
  by_cases h : i < l.length
  · rw [tBatch.nth_encs 0 h]; rfl
  · rw [tBatch.nth_out 0 h]; simp [nth, h]; rfl
theorem tBatch_is0 {l : List BatchV} {i : Nat} (h : i < l.length) : real.isInt .i64 (real.nth (tBatch.encs l) i 0) = true := by
  rw [tBatch.nth_encs 0 h]; rfl
theorem tBatch_ord0 (l : List BatchV) (i : Nat) : real.asInt (real.nth (mapE tBatch_own l) i 0) = (nth l i).side := by
  by_cases h : i < l.length
  · rw [Ty.nth_own 0 h]; rfl
  · rw [Ty.nth_own_out 0 h]; simp [nth, h]; rfl
theorem tBatch_ois0 {l : List BatchV} {i : Nat} (h : i < l.length) : real.isInt .i64 (real.nth (mapE tBatch_own l) i 0) = true := by
  rw [Ty.nth_own 0 h]; rfl
theorem tBatch_rd1 (l : List BatchV) (i : Nat) : real.asInt (real.nth (tBatch.encs l) i 1) = (nth l i).epoch := by
  by_cases h : i < l.length
  · rw [tBatch.nth_encs 1 h]; rfl
  · rw [tBatch.nth_out 1 h]; simp [nth, h]; rfl
theorem tBatch_is1 {l : List BatchV} {i : Nat} (h : i < l.length) : real.isInt .i64 (real.nth (tBatch.encs l) i 1) = true := by
  rw [tBatch.nth_encs 1 h]; rfl
theorem tBatch_ord1 (l : List BatchV) (i : Nat) : real.asInt (real.nth (mapE tBatch_own l) i 1) = (nth l i).epoch := by
  by_cases h : i < l.length
  · rw [Ty.nth_own 1 h]; rfl
  · rw [Ty.nth_own_out 1 h]; simp [nth, h]; rfl
theorem tBatch_ois1 {l : List BatchV} {i : Nat} (h : i < l.length) : real.isInt .i64 (real.nth (mapE tBatch_own l) i 1) = true := by
  rw [Ty.nth_own 1 h]; rfl
theorem tBatch_rd2 (l : List BatchV) (i : Nat) : real.els (real.nth (tBatch.encs l) i 2) = tEntry.encs (nth l i).set := by
  by_cases h : i < l.length
  · rw [tBatch.nth_encs 2 h]; rfl
  · rw [tBatch.nth_out 2 h]; simp [nth, h]; rfl
theorem tBatch_is2 {l : List BatchV} {i : Nat} (h : i < l.length) : real.isSh 2 (real.nth (tBatch.encs l) i 2) = true := by
  rw [tBatch.nth_encs 2 h]; exact Nat.beq_refl _
theorem tBatch_ord2 {l : List BatchV} {i : Nat} (h : i < l.length) : real.nth (mapE tBatch_own l) i 2 = .sl true 2 (mapE tEntry_own (nth l i).set) := by
  rw [Ty.nth_own 2 h]; rfl
theorem tBatch_dec (x0 : Int) (x1 : Int) (u2 : Bool) (x2 : List EntryV) : (pS tBatch).dec (.ag [.pv (.sc (.int .i64 x0)), .pv (.sc (.int .i64 x1)), .pv (.sl u2 2 (tEntry.encs x2))]) = some ⟨x0, x1, x2⟩ := by
  show (if tBatch.ok _ = true ∧ Nat.beq _ tBatch.sz = true then _ else _) = _
  rw [if_pos ⟨by simp only [tBatch, isPInt, isPBool, decide_true, Bool.true_and, Bool.and_true]; first | exact Ty.okP_mk _ _ _ | (simp only [Bool.and_eq_true]; repeat' (first | (refine ⟨?_, ?_⟩) | exact Ty.okP_mk _ _ _)), rfl⟩]
  simp [tBatch, at0, pInt, pBool, els, Ty.decs_encs]
theorem pL_Batch (u : Bool) (l : List BatchV) : (pL tBatch).dec (.one (.pv (.sl u 3 (tBatch.encs l)))) = some l := pL_dec tBatch u l
theorem tBatch_eta (x : BatchV) : BatchV.mk x.side x.epoch x.set = x := rfl
def gBatch (x : BatchV) : Prop := inI64 x.side ∧ inI64 x.epoch ∧ gL gEntry x.set
theorem fit_Batch {P : Program} {t t0 t1 t2 : TypeId} (hn : P.cellsOf t = 3) (f0 : fldOk P t 0 t0 = true) (u0 : P.underlying t0 = some (.int .i64)) (f1 : fldOk P t 1 t1 = true) (u1 : P.underlying t1 = some (.int .i64)) (f2 : fldOk P t 2 t2 = true) {e2 : TypeId} (u2 : P.underlying t2 = some (.slice e2)) (c2 : P.cellsOf e2 = tEntry.sz) (k2 : TrodFit P tEntry gEntry e2) : TrodFit P tBatch gBatch t := by
  intro H enc w spare held fuel cs d p h
  have hl := trod_len f0 hn h
  obtain ⟨n0, d0, p0, h0⟩ := trod_fld f0 h
  obtain ⟨n1, d1, p1, h1⟩ := trod_fld f1 h
  obtain ⟨n2, d2, p2, h2⟩ := trod_fld f2 h
  match cs, hl with
  | [v0, v1, v2], _ =>
    simp only [List.drop_succ_cons, List.drop_zero, List.take_succ_cons, List.take_zero] at h0
    obtain ⟨a0, j0, w0⟩ := trod_i64 u0 h0
    cases j0
    simp only [List.drop_succ_cons, List.drop_zero, List.take_succ_cons, List.take_zero] at h1
    obtain ⟨a1, j1, w1⟩ := trod_i64 u1 h1
    cases j1
    simp only [List.drop_succ_cons, List.drop_zero, List.take_succ_cons, List.take_zero] at h2
    obtain ⟨a2, _, j2, w2, r2⟩ := trod_slice u2 c2 (by decide) k2 h2
    cases j2
    exact ⟨⟨a0, a1, a2⟩, ⟨wf_i64 w0, wf_i64 w1, w2⟩, .mk (.sc rfl) (.mk (.sc rfl) (.mk (r2) (.nil)))⟩
structure FrameV where
  kind : Int
  node : Int
  side : Int
  epoch : Int
  set : List EntryV
  news : List CountV
  deriving DecidableEq, Inhabited
def tFrame_own (x : FrameV) : List PV := [.sc (.int .i64 x.kind), .sc (.int .i64 x.node), .sc (.int .i64 x.side), .sc (.int .i64 x.epoch), .sl true 2 (mapE tEntry_own x.set), .sl true 3 (tCount.encs x.news)]
def tFrame : Ty FrameV where
  sz := 6
  enc x := [.sc (.int .i64 x.kind), .sc (.int .i64 x.node), .sc (.int .i64 x.side), .sc (.int .i64 x.epoch), .sl false 2 (tEntry.encs x.set), .sl false 3 (tCount.encs x.news)]
  dec ps := ⟨pInt (at0 ps 0), pInt (at0 ps 1), pInt (at0 ps 2), pInt (at0 ps 3), tEntry.decs (els (at0 ps 4)), tCount.decs (els (at0 ps 5))⟩
  ok ps := match ps with
    | [q0, q1, q2, q3, q4, q5] => (isPInt .i64 q0) && (isPInt .i64 q1) && (isPInt .i64 q2) && (isPInt .i64 q3) && (tEntry.okP q4) && (tCount.okP q5)
    | _ => false
  len _ := rfl
  fit := by
    intro w M ps vs h e
    split at e
    · simp only [Bool.and_eq_true] at e
      obtain ⟨⟨⟨⟨⟨e0, e1⟩, e2⟩, e3⟩, e4⟩, e5⟩ := e
      obtain ⟨v0, _, rfl, h0, h⟩ := h.inv
      obtain ⟨v1, _, rfl, h1, h⟩ := h.inv
      obtain ⟨v2, _, rfl, h2, h⟩ := h.inv
      obtain ⟨v3, _, rfl, h3, h⟩ := h.inv
      obtain ⟨v4, _, rfl, h4, h⟩ := h.inv
      obtain ⟨v5, _, rfl, h5, h⟩ := h.inv
      exact .mk (fitI h0 e0) (.mk (fitI h1 e1) (.mk (fitI h2 e2) (.mk (fitI h3 e3) (.mk (tEntry.fitP h4 e4) (.mk (tCount.fitP h5 e5) (h))))))
    · cases e
  dec_enc x := by simp [at0, pInt, pBool, els, Ty.decs_encs]
  ok_enc x := by simp [isPInt, isPBool]; repeat' (first | (refine ⟨?_, ?_⟩) | exact Ty.okP_mk _ _ _)
  down x := by simp [downc, PV.down, Ty.downs_encs]
  dead x := rfl
  own := tFrame_own
  olen _ := rfl
  odown x := by simp [tFrame_own, downc, PV.down, Ty.downs_encs, Ty.downs_own, show ∀ l, downs (mapE tEntry_own l) = tEntry.encs l from tEntry.downs_own]
  dec_own x := by simp [tFrame_own, at0, pInt, pBool, els, Ty.decs_encs, Ty.decs_own, show ∀ l, tEntry.decs (mapE tEntry_own l) = l from tEntry.decs_own]
  opur x := by simp [tFrame_own, purc, PV.pur, Ty.pur_own, show ∀ l, purs (mapE tEntry_own l) = true from tEntry.pur_own, tCount_purs]
theorem tFrame_odown (x : FrameV) : downc (tFrame_own x) = tFrame.enc x := tFrame.odown x
theorem tFrame_rd0 (l : List FrameV) (i : Nat) : real.asInt (real.nth (tFrame.encs l) i 0) = (nth l i).kind := by
  by_cases h : i < l.length
  · rw [tFrame.nth_encs 0 h]; rfl
  · rw [tFrame.nth_out 0 h]; simp [nth, h]; rfl
theorem tFrame_is0 {l : List FrameV} {i : Nat} (h : i < l.length) : real.isInt .i64 (real.nth (tFrame.encs l) i 0) = true := by
  rw [tFrame.nth_encs 0 h]; rfl
theorem tFrame_ord0 (l : List FrameV) (i : Nat) : real.asInt (real.nth (mapE tFrame_own l) i 0) = (nth l i).kind := by
  by_cases h : i < l.length
  · rw [Ty.nth_own 0 h]; rfl
  · rw [Ty.nth_own_out 0 h]; simp [nth, h]; rfl
theorem tFrame_ois0 {l : List FrameV} {i : Nat} (h : i < l.length) : real.isInt .i64 (real.nth (mapE tFrame_own l) i 0) = true := by
  rw [Ty.nth_own 0 h]; rfl
theorem tFrame_rd1 (l : List FrameV) (i : Nat) : real.asInt (real.nth (tFrame.encs l) i 1) = (nth l i).node := by
  by_cases h : i < l.length
  · rw [tFrame.nth_encs 1 h]; rfl
  · rw [tFrame.nth_out 1 h]; simp [nth, h]; rfl
theorem tFrame_is1 {l : List FrameV} {i : Nat} (h : i < l.length) : real.isInt .i64 (real.nth (tFrame.encs l) i 1) = true := by
  rw [tFrame.nth_encs 1 h]; rfl
theorem tFrame_ord1 (l : List FrameV) (i : Nat) : real.asInt (real.nth (mapE tFrame_own l) i 1) = (nth l i).node := by
  by_cases h : i < l.length
  · rw [Ty.nth_own 1 h]; rfl
  · rw [Ty.nth_own_out 1 h]; simp [nth, h]; rfl
theorem tFrame_ois1 {l : List FrameV} {i : Nat} (h : i < l.length) : real.isInt .i64 (real.nth (mapE tFrame_own l) i 1) = true := by
  rw [Ty.nth_own 1 h]; rfl
theorem tFrame_rd2 (l : List FrameV) (i : Nat) : real.asInt (real.nth (tFrame.encs l) i 2) = (nth l i).side := by
  by_cases h : i < l.length
  · rw [tFrame.nth_encs 2 h]; rfl
  · rw [tFrame.nth_out 2 h]; simp [nth, h]; rfl
theorem tFrame_is2 {l : List FrameV} {i : Nat} (h : i < l.length) : real.isInt .i64 (real.nth (tFrame.encs l) i 2) = true := by
  rw [tFrame.nth_encs 2 h]; rfl
theorem tFrame_ord2 (l : List FrameV) (i : Nat) : real.asInt (real.nth (mapE tFrame_own l) i 2) = (nth l i).side := by
  by_cases h : i < l.length
  · rw [Ty.nth_own 2 h]; rfl
  · rw [Ty.nth_own_out 2 h]; simp [nth, h]; rfl
theorem tFrame_ois2 {l : List FrameV} {i : Nat} (h : i < l.length) : real.isInt .i64 (real.nth (mapE tFrame_own l) i 2) = true := by
  rw [Ty.nth_own 2 h]; rfl
theorem tFrame_rd3 (l : List FrameV) (i : Nat) : real.asInt (real.nth (tFrame.encs l) i 3) = (nth l i).epoch := by
  by_cases h : i < l.length
  · rw [tFrame.nth_encs 3 h]; rfl
  · rw [tFrame.nth_out 3 h]; simp [nth, h]; rfl
theorem tFrame_is3 {l : List FrameV} {i : Nat} (h : i < l.length) : real.isInt .i64 (real.nth (tFrame.encs l) i 3) = true := by
  rw [tFrame.nth_encs 3 h]; rfl
theorem tFrame_ord3 (l : List FrameV) (i : Nat) : real.asInt (real.nth (mapE tFrame_own l) i 3) = (nth l i).epoch := by
  by_cases h : i < l.length
  · rw [Ty.nth_own 3 h]; rfl
  · rw [Ty.nth_own_out 3 h]; simp [nth, h]; rfl
theorem tFrame_ois3 {l : List FrameV} {i : Nat} (h : i < l.length) : real.isInt .i64 (real.nth (mapE tFrame_own l) i 3) = true := by
  rw [Ty.nth_own 3 h]; rfl
theorem tFrame_rd4 (l : List FrameV) (i : Nat) : real.els (real.nth (tFrame.encs l) i 4) = tEntry.encs (nth l i).set := by
  by_cases h : i < l.length
  · rw [tFrame.nth_encs 4 h]; rfl
  · rw [tFrame.nth_out 4 h]; simp [nth, h]; rfl
theorem tFrame_is4 {l : List FrameV} {i : Nat} (h : i < l.length) : real.isSh 2 (real.nth (tFrame.encs l) i 4) = true := by
  rw [tFrame.nth_encs 4 h]; exact Nat.beq_refl _
theorem tFrame_ord4 {l : List FrameV} {i : Nat} (h : i < l.length) : real.nth (mapE tFrame_own l) i 4 = .sl true 2 (mapE tEntry_own (nth l i).set) := by
  rw [Ty.nth_own 4 h]; rfl
theorem tFrame_rd5 (l : List FrameV) (i : Nat) : real.els (real.nth (tFrame.encs l) i 5) = tCount.encs (nth l i).news := by
  by_cases h : i < l.length
  · rw [tFrame.nth_encs 5 h]; rfl
  · rw [tFrame.nth_out 5 h]; simp [nth, h]; rfl
theorem tFrame_is5 {l : List FrameV} {i : Nat} (h : i < l.length) : real.isSh 3 (real.nth (tFrame.encs l) i 5) = true := by
  rw [tFrame.nth_encs 5 h]; exact Nat.beq_refl _
theorem tFrame_ord5 {l : List FrameV} {i : Nat} (h : i < l.length) : real.nth (mapE tFrame_own l) i 5 = .sl true 3 (tCount.encs (nth l i).news) := by
  rw [Ty.nth_own 5 h]; rfl
theorem tFrame_dec (x0 : Int) (x1 : Int) (x2 : Int) (x3 : Int) (u4 : Bool) (x4 : List EntryV) (u5 : Bool) (x5 : List CountV) : (pS tFrame).dec (.ag [.pv (.sc (.int .i64 x0)), .pv (.sc (.int .i64 x1)), .pv (.sc (.int .i64 x2)), .pv (.sc (.int .i64 x3)), .pv (.sl u4 2 (tEntry.encs x4)), .pv (.sl u5 3 (tCount.encs x5))]) = some ⟨x0, x1, x2, x3, x4, x5⟩ := by
  show (if tFrame.ok _ = true ∧ Nat.beq _ tFrame.sz = true then _ else _) = _
  rw [if_pos ⟨by simp only [tFrame, isPInt, isPBool, decide_true, Bool.true_and, Bool.and_true]; first | exact Ty.okP_mk _ _ _ | (simp only [Bool.and_eq_true]; repeat' (first | (refine ⟨?_, ?_⟩) | exact Ty.okP_mk _ _ _)), rfl⟩]
  simp [tFrame, at0, pInt, pBool, els, Ty.decs_encs]
theorem pL_Frame (u : Bool) (l : List FrameV) : (pL tFrame).dec (.one (.pv (.sl u 6 (tFrame.encs l)))) = some l := pL_dec tFrame u l
theorem tFrame_eta (x : FrameV) : FrameV.mk x.kind x.node x.side x.epoch x.set x.news = x := rfl
def gFrame (x : FrameV) : Prop := inI64 x.kind ∧ inI64 x.node ∧ inI64 x.side ∧ inI64 x.epoch ∧ gL gEntry x.set ∧ gL gCount x.news
theorem fit_Frame {P : Program} {t t0 t1 t2 t3 t4 t5 : TypeId} (hn : P.cellsOf t = 6) (f0 : fldOk P t 0 t0 = true) (u0 : P.underlying t0 = some (.int .i64)) (f1 : fldOk P t 1 t1 = true) (u1 : P.underlying t1 = some (.int .i64)) (f2 : fldOk P t 2 t2 = true) (u2 : P.underlying t2 = some (.int .i64)) (f3 : fldOk P t 3 t3 = true) (u3 : P.underlying t3 = some (.int .i64)) (f4 : fldOk P t 4 t4 = true) {e4 : TypeId} (u4 : P.underlying t4 = some (.slice e4)) (c4 : P.cellsOf e4 = tEntry.sz) (k4 : TrodFit P tEntry gEntry e4) (f5 : fldOk P t 5 t5 = true) {e5 : TypeId} (u5 : P.underlying t5 = some (.slice e5)) (c5 : P.cellsOf e5 = tCount.sz) (k5 : TrodFit P tCount gCount e5) : TrodFit P tFrame gFrame t := by
  intro H enc w spare held fuel cs d p h
  have hl := trod_len f0 hn h
  obtain ⟨n0, d0, p0, h0⟩ := trod_fld f0 h
  obtain ⟨n1, d1, p1, h1⟩ := trod_fld f1 h
  obtain ⟨n2, d2, p2, h2⟩ := trod_fld f2 h
  obtain ⟨n3, d3, p3, h3⟩ := trod_fld f3 h
  obtain ⟨n4, d4, p4, h4⟩ := trod_fld f4 h
  obtain ⟨n5, d5, p5, h5⟩ := trod_fld f5 h
  match cs, hl with
  | [v0, v1, v2, v3, v4, v5], _ =>
    simp only [List.drop_succ_cons, List.drop_zero, List.take_succ_cons, List.take_zero] at h0
    obtain ⟨a0, j0, w0⟩ := trod_i64 u0 h0
    cases j0
    simp only [List.drop_succ_cons, List.drop_zero, List.take_succ_cons, List.take_zero] at h1
    obtain ⟨a1, j1, w1⟩ := trod_i64 u1 h1
    cases j1
    simp only [List.drop_succ_cons, List.drop_zero, List.take_succ_cons, List.take_zero] at h2
    obtain ⟨a2, j2, w2⟩ := trod_i64 u2 h2
    cases j2
    simp only [List.drop_succ_cons, List.drop_zero, List.take_succ_cons, List.take_zero] at h3
    obtain ⟨a3, j3, w3⟩ := trod_i64 u3 h3
    cases j3
    simp only [List.drop_succ_cons, List.drop_zero, List.take_succ_cons, List.take_zero] at h4
    obtain ⟨a4, _, j4, w4, r4⟩ := trod_slice u4 c4 (by decide) k4 h4
    cases j4
    simp only [List.drop_succ_cons, List.drop_zero, List.take_succ_cons, List.take_zero] at h5
    obtain ⟨a5, _, j5, w5, r5⟩ := trod_slice u5 c5 (by decide) k5 h5
    cases j5
    exact ⟨⟨a0, a1, a2, a3, a4, a5⟩, ⟨wf_i64 w0, wf_i64 w1, wf_i64 w2, wf_i64 w3, w4, w5⟩, .mk (.sc rfl) (.mk (.sc rfl) (.mk (.sc rfl) (.mk (.sc rfl) (.mk (r4) (.mk (r5) (.nil))))))⟩
structure HeldV where
  oldA : List EntryV
  oldB : List EntryV
  waits : List BatchV
  told : Int
  deriving DecidableEq, Inhabited
def tHeld_own (x : HeldV) : List PV := [.sl true 2 (mapE tEntry_own x.oldA), .sl true 2 (mapE tEntry_own x.oldB), .sl true 3 (mapE tBatch_own x.waits), .sc (.int .i64 x.told)]
def tHeld : Ty HeldV where
  sz := 4
  enc x := [.sl false 2 (tEntry.encs x.oldA), .sl false 2 (tEntry.encs x.oldB), .sl false 3 (tBatch.encs x.waits), .sc (.int .i64 x.told)]
  dec ps := ⟨tEntry.decs (els (at0 ps 0)), tEntry.decs (els (at0 ps 1)), tBatch.decs (els (at0 ps 2)), pInt (at0 ps 3)⟩
  ok ps := match ps with
    | [q0, q1, q2, q3] => (tEntry.okP q0) && (tEntry.okP q1) && (tBatch.okP q2) && (isPInt .i64 q3)
    | _ => false
  len _ := rfl
  fit := by
    intro w M ps vs h e
    split at e
    · simp only [Bool.and_eq_true] at e
      obtain ⟨⟨⟨e0, e1⟩, e2⟩, e3⟩ := e
      obtain ⟨v0, _, rfl, h0, h⟩ := h.inv
      obtain ⟨v1, _, rfl, h1, h⟩ := h.inv
      obtain ⟨v2, _, rfl, h2, h⟩ := h.inv
      obtain ⟨v3, _, rfl, h3, h⟩ := h.inv
      exact .mk (tEntry.fitP h0 e0) (.mk (tEntry.fitP h1 e1) (.mk (tBatch.fitP h2 e2) (.mk (fitI h3 e3) (h))))
    · cases e
  dec_enc x := by simp [at0, pInt, pBool, els, Ty.decs_encs]
  ok_enc x := by simp [isPInt, isPBool]; repeat' (first | (refine ⟨?_, ?_⟩) | exact Ty.okP_mk _ _ _)
  down x := by simp [downc, PV.down, Ty.downs_encs]
  dead x := rfl
  own := tHeld_own
  olen _ := rfl
  odown x := by simp [tHeld_own, downc, PV.down, Ty.downs_encs, Ty.downs_own, show ∀ l, downs (mapE tBatch_own l) = tBatch.encs l from tBatch.downs_own, show ∀ l, downs (mapE tEntry_own l) = tEntry.encs l from tEntry.downs_own]
  dec_own x := by simp [tHeld_own, at0, pInt, pBool, els, Ty.decs_encs, Ty.decs_own, show ∀ l, tBatch.decs (mapE tBatch_own l) = l from tBatch.decs_own, show ∀ l, tEntry.decs (mapE tEntry_own l) = l from tEntry.decs_own]
  opur x := by simp [tHeld_own, purc, PV.pur, Ty.pur_own, show ∀ l, purs (mapE tBatch_own l) = true from tBatch.pur_own, show ∀ l, purs (mapE tEntry_own l) = true from tEntry.pur_own]
theorem tHeld_odown (x : HeldV) : downc (tHeld_own x) = tHeld.enc x := tHeld.odown x
theorem tHeld_rd0 (l : List HeldV) (i : Nat) : real.els (real.nth (tHeld.encs l) i 0) = tEntry.encs (nth l i).oldA := by
  by_cases h : i < l.length
  · rw [tHeld.nth_encs 0 h]; rfl
  · rw [tHeld.nth_out 0 h]; simp [nth, h]; rfl
theorem tHeld_is0 {l : List HeldV} {i : Nat} (h : i < l.length) : real.isSh 2 (real.nth (tHeld.encs l) i 0) = true := by
  rw [tHeld.nth_encs 0 h]; exact Nat.beq_refl _
theorem tHeld_ord0 {l : List HeldV} {i : Nat} (h : i < l.length) : real.nth (mapE tHeld_own l) i 0 = .sl true 2 (mapE tEntry_own (nth l i).oldA) := by
  rw [Ty.nth_own 0 h]; rfl
theorem tHeld_rd1 (l : List HeldV) (i : Nat) : real.els (real.nth (tHeld.encs l) i 1) = tEntry.encs (nth l i).oldB := by
  by_cases h : i < l.length
  · rw [tHeld.nth_encs 1 h]; rfl
  · rw [tHeld.nth_out 1 h]; simp [nth, h]; rfl
theorem tHeld_is1 {l : List HeldV} {i : Nat} (h : i < l.length) : real.isSh 2 (real.nth (tHeld.encs l) i 1) = true := by
  rw [tHeld.nth_encs 1 h]; exact Nat.beq_refl _
theorem tHeld_ord1 {l : List HeldV} {i : Nat} (h : i < l.length) : real.nth (mapE tHeld_own l) i 1 = .sl true 2 (mapE tEntry_own (nth l i).oldB) := by
  rw [Ty.nth_own 1 h]; rfl
theorem tHeld_rd2 (l : List HeldV) (i : Nat) : real.els (real.nth (tHeld.encs l) i 2) = tBatch.encs (nth l i).waits := by
  by_cases h : i < l.length
  · rw [tHeld.nth_encs 2 h]; rfl
  · rw [tHeld.nth_out 2 h]; simp [nth, h]; rfl
theorem tHeld_is2 {l : List HeldV} {i : Nat} (h : i < l.length) : real.isSh 3 (real.nth (tHeld.encs l) i 2) = true := by
  rw [tHeld.nth_encs 2 h]; exact Nat.beq_refl _
theorem tHeld_ord2 {l : List HeldV} {i : Nat} (h : i < l.length) : real.nth (mapE tHeld_own l) i 2 = .sl true 3 (mapE tBatch_own (nth l i).waits) := by
  rw [Ty.nth_own 2 h]; rfl
theorem tHeld_rd3 (l : List HeldV) (i : Nat) : real.asInt (real.nth (tHeld.encs l) i 3) = (nth l i).told := by
  by_cases h : i < l.length
  · rw [tHeld.nth_encs 3 h]; rfl
  · rw [tHeld.nth_out 3 h]; simp [nth, h]; rfl
theorem tHeld_is3 {l : List HeldV} {i : Nat} (h : i < l.length) : real.isInt .i64 (real.nth (tHeld.encs l) i 3) = true := by
  rw [tHeld.nth_encs 3 h]; rfl
theorem tHeld_ord3 (l : List HeldV) (i : Nat) : real.asInt (real.nth (mapE tHeld_own l) i 3) = (nth l i).told := by
  by_cases h : i < l.length
  · rw [Ty.nth_own 3 h]; rfl
  · rw [Ty.nth_own_out 3 h]; simp [nth, h]; rfl
theorem tHeld_ois3 {l : List HeldV} {i : Nat} (h : i < l.length) : real.isInt .i64 (real.nth (mapE tHeld_own l) i 3) = true := by
  rw [Ty.nth_own 3 h]; rfl
theorem tHeld_dec (u0 : Bool) (x0 : List EntryV) (u1 : Bool) (x1 : List EntryV) (u2 : Bool) (x2 : List BatchV) (x3 : Int) : (pS tHeld).dec (.ag [.pv (.sl u0 2 (tEntry.encs x0)), .pv (.sl u1 2 (tEntry.encs x1)), .pv (.sl u2 3 (tBatch.encs x2)), .pv (.sc (.int .i64 x3))]) = some ⟨x0, x1, x2, x3⟩ := by
  show (if tHeld.ok _ = true ∧ Nat.beq _ tHeld.sz = true then _ else _) = _
  rw [if_pos ⟨by simp only [tHeld, isPInt, isPBool, decide_true, Bool.true_and, Bool.and_true]; first | exact Ty.okP_mk _ _ _ | (simp only [Bool.and_eq_true]; repeat' (first | (refine ⟨?_, ?_⟩) | exact Ty.okP_mk _ _ _)), rfl⟩]
  simp [tHeld, at0, pInt, pBool, els, Ty.decs_encs]
theorem pL_Held (u : Bool) (l : List HeldV) : (pL tHeld).dec (.one (.pv (.sl u 4 (tHeld.encs l)))) = some l := pL_dec tHeld u l
theorem tHeld_eta (x : HeldV) : HeldV.mk x.oldA x.oldB x.waits x.told = x := rfl
def gHeld (x : HeldV) : Prop := gL gEntry x.oldA ∧ gL gEntry x.oldB ∧ gL gBatch x.waits ∧ inI64 x.told
theorem fit_Held {P : Program} {t t0 t1 t2 t3 : TypeId} (hn : P.cellsOf t = 4) (f0 : fldOk P t 0 t0 = true) {e0 : TypeId} (u0 : P.underlying t0 = some (.slice e0)) (c0 : P.cellsOf e0 = tEntry.sz) (k0 : TrodFit P tEntry gEntry e0) (f1 : fldOk P t 1 t1 = true) {e1 : TypeId} (u1 : P.underlying t1 = some (.slice e1)) (c1 : P.cellsOf e1 = tEntry.sz) (k1 : TrodFit P tEntry gEntry e1) (f2 : fldOk P t 2 t2 = true) {e2 : TypeId} (u2 : P.underlying t2 = some (.slice e2)) (c2 : P.cellsOf e2 = tBatch.sz) (k2 : TrodFit P tBatch gBatch e2) (f3 : fldOk P t 3 t3 = true) (u3 : P.underlying t3 = some (.int .i64)) : TrodFit P tHeld gHeld t := by
  intro H enc w spare held fuel cs d p h
  have hl := trod_len f0 hn h
  obtain ⟨n0, d0, p0, h0⟩ := trod_fld f0 h
  obtain ⟨n1, d1, p1, h1⟩ := trod_fld f1 h
  obtain ⟨n2, d2, p2, h2⟩ := trod_fld f2 h
  obtain ⟨n3, d3, p3, h3⟩ := trod_fld f3 h
  match cs, hl with
  | [v0, v1, v2, v3], _ =>
    simp only [List.drop_succ_cons, List.drop_zero, List.take_succ_cons, List.take_zero] at h0
    obtain ⟨a0, _, j0, w0, r0⟩ := trod_slice u0 c0 (by decide) k0 h0
    cases j0
    simp only [List.drop_succ_cons, List.drop_zero, List.take_succ_cons, List.take_zero] at h1
    obtain ⟨a1, _, j1, w1, r1⟩ := trod_slice u1 c1 (by decide) k1 h1
    cases j1
    simp only [List.drop_succ_cons, List.drop_zero, List.take_succ_cons, List.take_zero] at h2
    obtain ⟨a2, _, j2, w2, r2⟩ := trod_slice u2 c2 (by decide) k2 h2
    cases j2
    simp only [List.drop_succ_cons, List.drop_zero, List.take_succ_cons, List.take_zero] at h3
    obtain ⟨a3, j3, w3⟩ := trod_i64 u3 h3
    cases j3
    exact ⟨⟨a0, a1, a2, a3⟩, ⟨w0, w1, w2, wf_i64 w3⟩, .mk (r0) (.mk (r1) (.mk (r2) (.mk (.sc rfl) (.nil))))⟩
structure ReleaseV where
  node : Int
  epoch : Int
  set : List EntryV
  deriving DecidableEq, Inhabited
def tRelease_own (x : ReleaseV) : List PV := [.sc (.int .i64 x.node), .sc (.int .i64 x.epoch), .sl true 2 (mapE tEntry_own x.set)]
def tRelease : Ty ReleaseV where
  sz := 3
  enc x := [.sc (.int .i64 x.node), .sc (.int .i64 x.epoch), .sl false 2 (tEntry.encs x.set)]
  dec ps := ⟨pInt (at0 ps 0), pInt (at0 ps 1), tEntry.decs (els (at0 ps 2))⟩
  ok ps := match ps with
    | [q0, q1, q2] => (isPInt .i64 q0) && (isPInt .i64 q1) && (tEntry.okP q2)
    | _ => false
  len _ := rfl
  fit := by
    intro w M ps vs h e
    split at e
    · simp only [Bool.and_eq_true] at e
      obtain ⟨⟨e0, e1⟩, e2⟩ := e
      obtain ⟨v0, _, rfl, h0, h⟩ := h.inv
      obtain ⟨v1, _, rfl, h1, h⟩ := h.inv
      obtain ⟨v2, _, rfl, h2, h⟩ := h.inv
      exact .mk (fitI h0 e0) (.mk (fitI h1 e1) (.mk (tEntry.fitP h2 e2) (h)))
    · cases e
  dec_enc x := by simp [at0, pInt, pBool, els, Ty.decs_encs]
  ok_enc x := by simp [isPInt, isPBool]; repeat' (first | (refine ⟨?_, ?_⟩) | exact Ty.okP_mk _ _ _)
  down x := by simp [downc, PV.down, Ty.downs_encs]
  dead x := rfl
  own := tRelease_own
  olen _ := rfl
  odown x := by simp [tRelease_own, downc, PV.down, Ty.downs_encs, Ty.downs_own, show ∀ l, downs (mapE tEntry_own l) = tEntry.encs l from tEntry.downs_own]
  dec_own x := by simp [tRelease_own, at0, pInt, pBool, els, Ty.decs_encs, Ty.decs_own, show ∀ l, tEntry.decs (mapE tEntry_own l) = l from tEntry.decs_own]
  opur x := by simp [tRelease_own, purc, PV.pur, Ty.pur_own, show ∀ l, purs (mapE tEntry_own l) = true from tEntry.pur_own]
theorem tRelease_odown (x : ReleaseV) : downc (tRelease_own x) = tRelease.enc x := tRelease.odown x
theorem tRelease_rd0 (l : List ReleaseV) (i : Nat) : real.asInt (real.nth (tRelease.encs l) i 0) = (nth l i).node := by
  by_cases h : i < l.length
  · rw [tRelease.nth_encs 0 h]; rfl
  · rw [tRelease.nth_out 0 h]; simp [nth, h]; rfl
theorem tRelease_is0 {l : List ReleaseV} {i : Nat} (h : i < l.length) : real.isInt .i64 (real.nth (tRelease.encs l) i 0) = true := by
  rw [tRelease.nth_encs 0 h]; rfl
theorem tRelease_ord0 (l : List ReleaseV) (i : Nat) : real.asInt (real.nth (mapE tRelease_own l) i 0) = (nth l i).node := by
  by_cases h : i < l.length
  · rw [Ty.nth_own 0 h]; rfl
  · rw [Ty.nth_own_out 0 h]; simp [nth, h]; rfl
theorem tRelease_ois0 {l : List ReleaseV} {i : Nat} (h : i < l.length) : real.isInt .i64 (real.nth (mapE tRelease_own l) i 0) = true := by
  rw [Ty.nth_own 0 h]; rfl
theorem tRelease_rd1 (l : List ReleaseV) (i : Nat) : real.asInt (real.nth (tRelease.encs l) i 1) = (nth l i).epoch := by
  by_cases h : i < l.length
  · rw [tRelease.nth_encs 1 h]; rfl
  · rw [tRelease.nth_out 1 h]; simp [nth, h]; rfl
theorem tRelease_is1 {l : List ReleaseV} {i : Nat} (h : i < l.length) : real.isInt .i64 (real.nth (tRelease.encs l) i 1) = true := by
  rw [tRelease.nth_encs 1 h]; rfl
theorem tRelease_ord1 (l : List ReleaseV) (i : Nat) : real.asInt (real.nth (mapE tRelease_own l) i 1) = (nth l i).epoch := by
  by_cases h : i < l.length
  · rw [Ty.nth_own 1 h]; rfl
  · rw [Ty.nth_own_out 1 h]; simp [nth, h]; rfl
theorem tRelease_ois1 {l : List ReleaseV} {i : Nat} (h : i < l.length) : real.isInt .i64 (real.nth (mapE tRelease_own l) i 1) = true := by
  rw [Ty.nth_own 1 h]; rfl
theorem tRelease_rd2 (l : List ReleaseV) (i : Nat) : real.els (real.nth (tRelease.encs l) i 2) = tEntry.encs (nth l i).set := by
  by_cases h : i < l.length
  · rw [tRelease.nth_encs 2 h]; rfl
  · rw [tRelease.nth_out 2 h]; simp [nth, h]; rfl
theorem tRelease_is2 {l : List ReleaseV} {i : Nat} (h : i < l.length) : real.isSh 2 (real.nth (tRelease.encs l) i 2) = true := by
  rw [tRelease.nth_encs 2 h]; exact Nat.beq_refl _
theorem tRelease_ord2 {l : List ReleaseV} {i : Nat} (h : i < l.length) : real.nth (mapE tRelease_own l) i 2 = .sl true 2 (mapE tEntry_own (nth l i).set) := by
  rw [Ty.nth_own 2 h]; rfl
theorem tRelease_dec (x0 : Int) (x1 : Int) (u2 : Bool) (x2 : List EntryV) : (pS tRelease).dec (.ag [.pv (.sc (.int .i64 x0)), .pv (.sc (.int .i64 x1)), .pv (.sl u2 2 (tEntry.encs x2))]) = some ⟨x0, x1, x2⟩ := by
  show (if tRelease.ok _ = true ∧ Nat.beq _ tRelease.sz = true then _ else _) = _
  rw [if_pos ⟨by simp only [tRelease, isPInt, isPBool, decide_true, Bool.true_and, Bool.and_true]; first | exact Ty.okP_mk _ _ _ | (simp only [Bool.and_eq_true]; repeat' (first | (refine ⟨?_, ?_⟩) | exact Ty.okP_mk _ _ _)), rfl⟩]
  simp [tRelease, at0, pInt, pBool, els, Ty.decs_encs]
theorem pL_Release (u : Bool) (l : List ReleaseV) : (pL tRelease).dec (.one (.pv (.sl u 3 (tRelease.encs l)))) = some l := pL_dec tRelease u l
theorem tRelease_eta (x : ReleaseV) : ReleaseV.mk x.node x.epoch x.set = x := rfl
def gRelease (x : ReleaseV) : Prop := inI64 x.node ∧ inI64 x.epoch ∧ gL gEntry x.set
theorem fit_Release {P : Program} {t t0 t1 t2 : TypeId} (hn : P.cellsOf t = 3) (f0 : fldOk P t 0 t0 = true) (u0 : P.underlying t0 = some (.int .i64)) (f1 : fldOk P t 1 t1 = true) (u1 : P.underlying t1 = some (.int .i64)) (f2 : fldOk P t 2 t2 = true) {e2 : TypeId} (u2 : P.underlying t2 = some (.slice e2)) (c2 : P.cellsOf e2 = tEntry.sz) (k2 : TrodFit P tEntry gEntry e2) : TrodFit P tRelease gRelease t := by
  intro H enc w spare held fuel cs d p h
  have hl := trod_len f0 hn h
  obtain ⟨n0, d0, p0, h0⟩ := trod_fld f0 h
  obtain ⟨n1, d1, p1, h1⟩ := trod_fld f1 h
  obtain ⟨n2, d2, p2, h2⟩ := trod_fld f2 h
  match cs, hl with
  | [v0, v1, v2], _ =>
    simp only [List.drop_succ_cons, List.drop_zero, List.take_succ_cons, List.take_zero] at h0
    obtain ⟨a0, j0, w0⟩ := trod_i64 u0 h0
    cases j0
    simp only [List.drop_succ_cons, List.drop_zero, List.take_succ_cons, List.take_zero] at h1
    obtain ⟨a1, j1, w1⟩ := trod_i64 u1 h1
    cases j1
    simp only [List.drop_succ_cons, List.drop_zero, List.take_succ_cons, List.take_zero] at h2
    obtain ⟨a2, _, j2, w2, r2⟩ := trod_slice u2 c2 (by decide) k2 h2
    cases j2
    exact ⟨⟨a0, a1, a2⟩, ⟨wf_i64 w0, wf_i64 w1, w2⟩, .mk (.sc rfl) (.mk (.sc rfl) (.mk (r2) (.nil)))⟩
structure WorkerV where
  inbox : List FrameV
  counts : List CountV
  nodes : List HeldV
  epoch : Int
  top : Int
  outs : List ReleaseV
  bad : Bool
  deriving DecidableEq, Inhabited
def tWorker_own (x : WorkerV) : List PV := [.sl true 6 (mapE tFrame_own x.inbox), .sl true 3 (tCount.encs x.counts), .sl true 4 (mapE tHeld_own x.nodes), .sc (.int .i64 x.epoch), .sc (.int .i64 x.top), .sl true 3 (mapE tRelease_own x.outs), .sc (.bool x.bad)]
def tWorker : Ty WorkerV where
  sz := 7
  enc x := [.sl false 6 (tFrame.encs x.inbox), .sl false 3 (tCount.encs x.counts), .sl false 4 (tHeld.encs x.nodes), .sc (.int .i64 x.epoch), .sc (.int .i64 x.top), .sl false 3 (tRelease.encs x.outs), .sc (.bool x.bad)]
  dec ps := ⟨tFrame.decs (els (at0 ps 0)), tCount.decs (els (at0 ps 1)), tHeld.decs (els (at0 ps 2)), pInt (at0 ps 3), pInt (at0 ps 4), tRelease.decs (els (at0 ps 5)), pBool (at0 ps 6)⟩
  ok ps := match ps with
    | [q0, q1, q2, q3, q4, q5, q6] => (tFrame.okP q0) && (tCount.okP q1) && (tHeld.okP q2) && (isPInt .i64 q3) && (isPInt .i64 q4) && (tRelease.okP q5) && (isPBool q6)
    | _ => false
  len _ := rfl
  fit := by
    intro w M ps vs h e
    split at e
    · simp only [Bool.and_eq_true] at e
      obtain ⟨⟨⟨⟨⟨⟨e0, e1⟩, e2⟩, e3⟩, e4⟩, e5⟩, e6⟩ := e
      obtain ⟨v0, _, rfl, h0, h⟩ := h.inv
      obtain ⟨v1, _, rfl, h1, h⟩ := h.inv
      obtain ⟨v2, _, rfl, h2, h⟩ := h.inv
      obtain ⟨v3, _, rfl, h3, h⟩ := h.inv
      obtain ⟨v4, _, rfl, h4, h⟩ := h.inv
      obtain ⟨v5, _, rfl, h5, h⟩ := h.inv
      obtain ⟨v6, _, rfl, h6, h⟩ := h.inv
      exact .mk (tFrame.fitP h0 e0) (.mk (tCount.fitP h1 e1) (.mk (tHeld.fitP h2 e2) (.mk (fitI h3 e3) (.mk (fitI h4 e4) (.mk (tRelease.fitP h5 e5) (.mk (fitB h6 e6) (h)))))))
    · cases e
  dec_enc x := by simp [at0, pInt, pBool, els, Ty.decs_encs]
  ok_enc x := by simp [isPInt, isPBool]; repeat' (first | (refine ⟨?_, ?_⟩) | exact Ty.okP_mk _ _ _)
  down x := by simp [downc, PV.down, Ty.downs_encs]
  dead x := rfl
  own := tWorker_own
  olen _ := rfl
  odown x := by simp [tWorker_own, downc, PV.down, Ty.downs_encs, Ty.downs_own, show ∀ l, downs (mapE tFrame_own l) = tFrame.encs l from tFrame.downs_own, show ∀ l, downs (mapE tHeld_own l) = tHeld.encs l from tHeld.downs_own, show ∀ l, downs (mapE tRelease_own l) = tRelease.encs l from tRelease.downs_own]
  dec_own x := by simp [tWorker_own, at0, pInt, pBool, els, Ty.decs_encs, Ty.decs_own, show ∀ l, tFrame.decs (mapE tFrame_own l) = l from tFrame.decs_own, show ∀ l, tHeld.decs (mapE tHeld_own l) = l from tHeld.decs_own, show ∀ l, tRelease.decs (mapE tRelease_own l) = l from tRelease.decs_own]
  opur x := by simp [tWorker_own, purc, PV.pur, Ty.pur_own, show ∀ l, purs (mapE tFrame_own l) = true from tFrame.pur_own, show ∀ l, purs (mapE tHeld_own l) = true from tHeld.pur_own, show ∀ l, purs (mapE tRelease_own l) = true from tRelease.pur_own, tCount_purs]
theorem tWorker_odown (x : WorkerV) : downc (tWorker_own x) = tWorker.enc x := tWorker.odown x
theorem tWorker_rd0 (l : List WorkerV) (i : Nat) : real.els (real.nth (tWorker.encs l) i 0) = tFrame.encs (nth l i).inbox := by
  by_cases h : i < l.length
  · rw [tWorker.nth_encs 0 h]; rfl
  · rw [tWorker.nth_out 0 h]; simp [nth, h]; rfl
theorem tWorker_is0 {l : List WorkerV} {i : Nat} (h : i < l.length) : real.isSh 6 (real.nth (tWorker.encs l) i 0) = true := by
  rw [tWorker.nth_encs 0 h]; exact Nat.beq_refl _
theorem tWorker_ord0 {l : List WorkerV} {i : Nat} (h : i < l.length) : real.nth (mapE tWorker_own l) i 0 = .sl true 6 (mapE tFrame_own (nth l i).inbox) := by
  rw [Ty.nth_own 0 h]; rfl
theorem tWorker_rd1 (l : List WorkerV) (i : Nat) : real.els (real.nth (tWorker.encs l) i 1) = tCount.encs (nth l i).counts := by
  by_cases h : i < l.length
  · rw [tWorker.nth_encs 1 h]; rfl
  · rw [tWorker.nth_out 1 h]; simp [nth, h]; rfl
theorem tWorker_is1 {l : List WorkerV} {i : Nat} (h : i < l.length) : real.isSh 3 (real.nth (tWorker.encs l) i 1) = true := by
  rw [tWorker.nth_encs 1 h]; exact Nat.beq_refl _
theorem tWorker_ord1 {l : List WorkerV} {i : Nat} (h : i < l.length) : real.nth (mapE tWorker_own l) i 1 = .sl true 3 (tCount.encs (nth l i).counts) := by
  rw [Ty.nth_own 1 h]; rfl
theorem tWorker_rd2 (l : List WorkerV) (i : Nat) : real.els (real.nth (tWorker.encs l) i 2) = tHeld.encs (nth l i).nodes := by
  by_cases h : i < l.length
  · rw [tWorker.nth_encs 2 h]; rfl
  · rw [tWorker.nth_out 2 h]; simp [nth, h]; rfl
theorem tWorker_is2 {l : List WorkerV} {i : Nat} (h : i < l.length) : real.isSh 4 (real.nth (tWorker.encs l) i 2) = true := by
  rw [tWorker.nth_encs 2 h]; exact Nat.beq_refl _
theorem tWorker_ord2 {l : List WorkerV} {i : Nat} (h : i < l.length) : real.nth (mapE tWorker_own l) i 2 = .sl true 4 (mapE tHeld_own (nth l i).nodes) := by
  rw [Ty.nth_own 2 h]; rfl
theorem tWorker_rd3 (l : List WorkerV) (i : Nat) : real.asInt (real.nth (tWorker.encs l) i 3) = (nth l i).epoch := by
  by_cases h : i < l.length
  · rw [tWorker.nth_encs 3 h]; rfl
  · rw [tWorker.nth_out 3 h]; simp [nth, h]; rfl
theorem tWorker_is3 {l : List WorkerV} {i : Nat} (h : i < l.length) : real.isInt .i64 (real.nth (tWorker.encs l) i 3) = true := by
  rw [tWorker.nth_encs 3 h]; rfl
theorem tWorker_ord3 (l : List WorkerV) (i : Nat) : real.asInt (real.nth (mapE tWorker_own l) i 3) = (nth l i).epoch := by
  by_cases h : i < l.length
  · rw [Ty.nth_own 3 h]; rfl
  · rw [Ty.nth_own_out 3 h]; simp [nth, h]; rfl
theorem tWorker_ois3 {l : List WorkerV} {i : Nat} (h : i < l.length) : real.isInt .i64 (real.nth (mapE tWorker_own l) i 3) = true := by
  rw [Ty.nth_own 3 h]; rfl
theorem tWorker_rd4 (l : List WorkerV) (i : Nat) : real.asInt (real.nth (tWorker.encs l) i 4) = (nth l i).top := by
  by_cases h : i < l.length
  · rw [tWorker.nth_encs 4 h]; rfl
  · rw [tWorker.nth_out 4 h]; simp [nth, h]; rfl
theorem tWorker_is4 {l : List WorkerV} {i : Nat} (h : i < l.length) : real.isInt .i64 (real.nth (tWorker.encs l) i 4) = true := by
  rw [tWorker.nth_encs 4 h]; rfl
theorem tWorker_ord4 (l : List WorkerV) (i : Nat) : real.asInt (real.nth (mapE tWorker_own l) i 4) = (nth l i).top := by
  by_cases h : i < l.length
  · rw [Ty.nth_own 4 h]; rfl
  · rw [Ty.nth_own_out 4 h]; simp [nth, h]; rfl
theorem tWorker_ois4 {l : List WorkerV} {i : Nat} (h : i < l.length) : real.isInt .i64 (real.nth (mapE tWorker_own l) i 4) = true := by
  rw [Ty.nth_own 4 h]; rfl
theorem tWorker_rd5 (l : List WorkerV) (i : Nat) : real.els (real.nth (tWorker.encs l) i 5) = tRelease.encs (nth l i).outs := by
  by_cases h : i < l.length
  · rw [tWorker.nth_encs 5 h]; rfl
  · rw [tWorker.nth_out 5 h]; simp [nth, h]; rfl
theorem tWorker_is5 {l : List WorkerV} {i : Nat} (h : i < l.length) : real.isSh 3 (real.nth (tWorker.encs l) i 5) = true := by
  rw [tWorker.nth_encs 5 h]; exact Nat.beq_refl _
theorem tWorker_ord5 {l : List WorkerV} {i : Nat} (h : i < l.length) : real.nth (mapE tWorker_own l) i 5 = .sl true 3 (mapE tRelease_own (nth l i).outs) := by
  rw [Ty.nth_own 5 h]; rfl
theorem tWorker_rd6 (l : List WorkerV) (i : Nat) : real.asBool (real.nth (tWorker.encs l) i 6) = (nth l i).bad := by
  by_cases h : i < l.length
  · rw [tWorker.nth_encs 6 h]; rfl
  · rw [tWorker.nth_out 6 h]; simp [nth, h]; rfl
theorem tWorker_is6 {l : List WorkerV} {i : Nat} (h : i < l.length) : real.isBool (real.nth (tWorker.encs l) i 6) = true := by
  rw [tWorker.nth_encs 6 h]; rfl
theorem tWorker_ord6 (l : List WorkerV) (i : Nat) : real.asBool (real.nth (mapE tWorker_own l) i 6) = (nth l i).bad := by
  by_cases h : i < l.length
  · rw [Ty.nth_own 6 h]; rfl
  · rw [Ty.nth_own_out 6 h]; simp [nth, h]; rfl
theorem tWorker_ois6 {l : List WorkerV} {i : Nat} (h : i < l.length) : real.isBool (real.nth (mapE tWorker_own l) i 6) = true := by
  rw [Ty.nth_own 6 h]; rfl
theorem tWorker_dec (u0 : Bool) (x0 : List FrameV) (u1 : Bool) (x1 : List CountV) (u2 : Bool) (x2 : List HeldV) (x3 : Int) (x4 : Int) (u5 : Bool) (x5 : List ReleaseV) (x6 : Bool) : (pS tWorker).dec (.ag [.pv (.sl u0 6 (tFrame.encs x0)), .pv (.sl u1 3 (tCount.encs x1)), .pv (.sl u2 4 (tHeld.encs x2)), .pv (.sc (.int .i64 x3)), .pv (.sc (.int .i64 x4)), .pv (.sl u5 3 (tRelease.encs x5)), .pv (.sc (.bool x6))]) = some ⟨x0, x1, x2, x3, x4, x5, x6⟩ := by
  show (if tWorker.ok _ = true ∧ Nat.beq _ tWorker.sz = true then _ else _) = _
  rw [if_pos ⟨by simp only [tWorker, isPInt, isPBool, decide_true, Bool.true_and, Bool.and_true]; first | exact Ty.okP_mk _ _ _ | (simp only [Bool.and_eq_true]; repeat' (first | (refine ⟨?_, ?_⟩) | exact Ty.okP_mk _ _ _)), rfl⟩]
  simp [tWorker, at0, pInt, pBool, els, Ty.decs_encs]
theorem pL_Worker (u : Bool) (l : List WorkerV) : (pL tWorker).dec (.one (.pv (.sl u 7 (tWorker.encs l)))) = some l := pL_dec tWorker u l
theorem tWorker_eta (x : WorkerV) : WorkerV.mk x.inbox x.counts x.nodes x.epoch x.top x.outs x.bad = x := rfl
def gWorker (x : WorkerV) : Prop := gL gFrame x.inbox ∧ gL gCount x.counts ∧ gL gHeld x.nodes ∧ inI64 x.epoch ∧ inI64 x.top ∧ gL gRelease x.outs
theorem fit_Worker {P : Program} {t t0 t1 t2 t3 t4 t5 t6 : TypeId} (hn : P.cellsOf t = 7) (f0 : fldOk P t 0 t0 = true) {e0 : TypeId} (u0 : P.underlying t0 = some (.slice e0)) (c0 : P.cellsOf e0 = tFrame.sz) (k0 : TrodFit P tFrame gFrame e0) (f1 : fldOk P t 1 t1 = true) {e1 : TypeId} (u1 : P.underlying t1 = some (.slice e1)) (c1 : P.cellsOf e1 = tCount.sz) (k1 : TrodFit P tCount gCount e1) (f2 : fldOk P t 2 t2 = true) {e2 : TypeId} (u2 : P.underlying t2 = some (.slice e2)) (c2 : P.cellsOf e2 = tHeld.sz) (k2 : TrodFit P tHeld gHeld e2) (f3 : fldOk P t 3 t3 = true) (u3 : P.underlying t3 = some (.int .i64)) (f4 : fldOk P t 4 t4 = true) (u4 : P.underlying t4 = some (.int .i64)) (f5 : fldOk P t 5 t5 = true) {e5 : TypeId} (u5 : P.underlying t5 = some (.slice e5)) (c5 : P.cellsOf e5 = tRelease.sz) (k5 : TrodFit P tRelease gRelease e5) (f6 : fldOk P t 6 t6 = true) (u6 : P.underlying t6 = some .bool) : TrodFit P tWorker gWorker t := by
  intro H enc w spare held fuel cs d p h
  have hl := trod_len f0 hn h
  obtain ⟨n0, d0, p0, h0⟩ := trod_fld f0 h
  obtain ⟨n1, d1, p1, h1⟩ := trod_fld f1 h
  obtain ⟨n2, d2, p2, h2⟩ := trod_fld f2 h
  obtain ⟨n3, d3, p3, h3⟩ := trod_fld f3 h
  obtain ⟨n4, d4, p4, h4⟩ := trod_fld f4 h
  obtain ⟨n5, d5, p5, h5⟩ := trod_fld f5 h
  obtain ⟨n6, d6, p6, h6⟩ := trod_fld f6 h
  match cs, hl with
  | [v0, v1, v2, v3, v4, v5, v6], _ =>
    simp only [List.drop_succ_cons, List.drop_zero, List.take_succ_cons, List.take_zero] at h0
    obtain ⟨a0, _, j0, w0, r0⟩ := trod_slice u0 c0 (by decide) k0 h0
    cases j0
    simp only [List.drop_succ_cons, List.drop_zero, List.take_succ_cons, List.take_zero] at h1
    obtain ⟨a1, _, j1, w1, r1⟩ := trod_slice u1 c1 (by decide) k1 h1
    cases j1
    simp only [List.drop_succ_cons, List.drop_zero, List.take_succ_cons, List.take_zero] at h2
    obtain ⟨a2, _, j2, w2, r2⟩ := trod_slice u2 c2 (by decide) k2 h2
    cases j2
    simp only [List.drop_succ_cons, List.drop_zero, List.take_succ_cons, List.take_zero] at h3
    obtain ⟨a3, j3, w3⟩ := trod_i64 u3 h3
    cases j3
    simp only [List.drop_succ_cons, List.drop_zero, List.take_succ_cons, List.take_zero] at h4
    obtain ⟨a4, j4, w4⟩ := trod_i64 u4 h4
    cases j4
    simp only [List.drop_succ_cons, List.drop_zero, List.take_succ_cons, List.take_zero] at h5
    obtain ⟨a5, _, j5, w5, r5⟩ := trod_slice u5 c5 (by decide) k5 h5
    cases j5
    simp only [List.drop_succ_cons, List.drop_zero, List.take_succ_cons, List.take_zero] at h6
    obtain ⟨a6, j6, _⟩ := DataW.trod_bool u6 h6
    cases j6
    exact ⟨⟨a0, a1, a2, a3, a4, a5, a6⟩, ⟨w0, w1, w2, wf_i64 w3, wf_i64 w4, w5⟩, .mk (r0) (.mk (r1) (.mk (r2) (.mk (.sc rfl) (.mk (.sc rfl) (.mk (r5) (.mk (.sc rfl) (.nil)))))))⟩
structure ClusterV where
  plan : List NodeV
  workers : List WorkerV
  links : List (List FrameV)
  deriving DecidableEq, Inhabited
def tCluster_own (x : ClusterV) : List PV := [.sl true 7 (mapE tNode_own x.plan), .sl true 7 (mapE tWorker_own x.workers), .sl true 1 (mapE (tL tFrame).own x.links)]
def tCluster : Ty ClusterV where
  sz := 3
  enc x := [.sl false 7 (tNode.encs x.plan), .sl false 7 (tWorker.encs x.workers), .sl false 1 ((tL tFrame).encs x.links)]
  dec ps := ⟨tNode.decs (els (at0 ps 0)), tWorker.decs (els (at0 ps 1)), (tL tFrame).decs (els (at0 ps 2))⟩
  ok ps := match ps with
    | [q0, q1, q2] => (tNode.okP q0) && (tWorker.okP q1) && ((tL tFrame).okP q2)
    | _ => false
  len _ := rfl
  fit := by
    intro w M ps vs h e
    split at e
    · simp only [Bool.and_eq_true] at e
      obtain ⟨⟨e0, e1⟩, e2⟩ := e
      obtain ⟨v0, _, rfl, h0, h⟩ := h.inv
      obtain ⟨v1, _, rfl, h1, h⟩ := h.inv
      obtain ⟨v2, _, rfl, h2, h⟩ := h.inv
      exact .mk (tNode.fitP h0 e0) (.mk (tWorker.fitP h1 e1) (.mk ((tL tFrame).fitP h2 e2) (h)))
    · cases e
  dec_enc x := by simp [at0, pInt, pBool, els, Ty.decs_encs]
  ok_enc x := by simp [isPInt, isPBool]; repeat' (first | (refine ⟨?_, ?_⟩) | exact Ty.okP_mk _ _ _)
  down x := by simp [downc, PV.down, Ty.downs_encs]
  dead x := rfl
  own := tCluster_own
  olen _ := rfl
  odown x := by simp [tCluster_own, downc, PV.down, Ty.downs_encs, Ty.downs_own, show ∀ l, downs (mapE tNode_own l) = tNode.encs l from tNode.downs_own, show ∀ l, downs (mapE tWorker_own l) = tWorker.encs l from tWorker.downs_own]
  dec_own x := by simp [tCluster_own, at0, pInt, pBool, els, Ty.decs_encs, Ty.decs_own, show ∀ l, tNode.decs (mapE tNode_own l) = l from tNode.decs_own, show ∀ l, tWorker.decs (mapE tWorker_own l) = l from tWorker.decs_own]
  opur x := by simp [tCluster_own, purc, PV.pur, Ty.pur_own, show ∀ l, purs (mapE tNode_own l) = true from tNode.pur_own, show ∀ l, purs (mapE tWorker_own l) = true from tWorker.pur_own]
theorem tCluster_odown (x : ClusterV) : downc (tCluster_own x) = tCluster.enc x := tCluster.odown x
theorem tCluster_rd0 (l : List ClusterV) (i : Nat) : real.els (real.nth (tCluster.encs l) i 0) = tNode.encs (nth l i).plan := by
  by_cases h : i < l.length
  · rw [tCluster.nth_encs 0 h]; rfl
  · rw [tCluster.nth_out 0 h]; simp [nth, h]; rfl
theorem tCluster_is0 {l : List ClusterV} {i : Nat} (h : i < l.length) : real.isSh 7 (real.nth (tCluster.encs l) i 0) = true := by
  rw [tCluster.nth_encs 0 h]; exact Nat.beq_refl _
theorem tCluster_ord0 {l : List ClusterV} {i : Nat} (h : i < l.length) : real.nth (mapE tCluster_own l) i 0 = .sl true 7 (mapE tNode_own (nth l i).plan) := by
  rw [Ty.nth_own 0 h]; rfl
theorem tCluster_rd1 (l : List ClusterV) (i : Nat) : real.els (real.nth (tCluster.encs l) i 1) = tWorker.encs (nth l i).workers := by
  by_cases h : i < l.length
  · rw [tCluster.nth_encs 1 h]; rfl
  · rw [tCluster.nth_out 1 h]; simp [nth, h]; rfl
theorem tCluster_is1 {l : List ClusterV} {i : Nat} (h : i < l.length) : real.isSh 7 (real.nth (tCluster.encs l) i 1) = true := by
  rw [tCluster.nth_encs 1 h]; exact Nat.beq_refl _
theorem tCluster_ord1 {l : List ClusterV} {i : Nat} (h : i < l.length) : real.nth (mapE tCluster_own l) i 1 = .sl true 7 (mapE tWorker_own (nth l i).workers) := by
  rw [Ty.nth_own 1 h]; rfl
theorem tCluster_rd2 (l : List ClusterV) (i : Nat) : real.els (real.nth (tCluster.encs l) i 2) = (tL tFrame).encs (nth l i).links := by
  by_cases h : i < l.length
  · rw [tCluster.nth_encs 2 h]; rfl
  · rw [tCluster.nth_out 2 h]; simp [nth, h]; rfl
theorem tCluster_is2 {l : List ClusterV} {i : Nat} (h : i < l.length) : real.isSh 1 (real.nth (tCluster.encs l) i 2) = true := by
  rw [tCluster.nth_encs 2 h]; exact Nat.beq_refl _
theorem tCluster_ord2 {l : List ClusterV} {i : Nat} (h : i < l.length) : real.nth (mapE tCluster_own l) i 2 = .sl true 1 (mapE (tL tFrame).own (nth l i).links) := by
  rw [Ty.nth_own 2 h]; rfl
theorem tCluster_dec (u0 : Bool) (x0 : List NodeV) (u1 : Bool) (x1 : List WorkerV) (u2 : Bool) (x2 : List (List FrameV)) : (pS tCluster).dec (.ag [.pv (.sl u0 7 (tNode.encs x0)), .pv (.sl u1 7 (tWorker.encs x1)), .pv (.sl u2 1 ((tL tFrame).encs x2))]) = some ⟨x0, x1, x2⟩ := by
  show (if tCluster.ok _ = true ∧ Nat.beq _ tCluster.sz = true then _ else _) = _
  rw [if_pos ⟨by simp only [tCluster, isPInt, isPBool, decide_true, Bool.true_and, Bool.and_true]; first | exact Ty.okP_mk _ _ _ | (simp only [Bool.and_eq_true]; repeat' (first | (refine ⟨?_, ?_⟩) | exact Ty.okP_mk _ _ _)), rfl⟩]
  simp [tCluster, at0, pInt, pBool, els, Ty.decs_encs]
theorem pL_Cluster (u : Bool) (l : List ClusterV) : (pL tCluster).dec (.one (.pv (.sl u 3 (tCluster.encs l)))) = some l := pL_dec tCluster u l
theorem tCluster_eta (x : ClusterV) : ClusterV.mk x.plan x.workers x.links = x := rfl
def gCluster (x : ClusterV) : Prop := gL gNode x.plan ∧ gL gWorker x.workers ∧ gL (gL gFrame) x.links
theorem fit_Cluster {P : Program} {t t0 t1 t2 : TypeId} (hn : P.cellsOf t = 3) (f0 : fldOk P t 0 t0 = true) {e0 : TypeId} (u0 : P.underlying t0 = some (.slice e0)) (c0 : P.cellsOf e0 = tNode.sz) (k0 : TrodFit P tNode gNode e0) (f1 : fldOk P t 1 t1 = true) {e1 : TypeId} (u1 : P.underlying t1 = some (.slice e1)) (c1 : P.cellsOf e1 = tWorker.sz) (k1 : TrodFit P tWorker gWorker e1) (f2 : fldOk P t 2 t2 = true) {e2 : TypeId} (u2 : P.underlying t2 = some (.slice e2)) (c2 : P.cellsOf e2 = (tL tFrame).sz) (k2 : TrodFit P (tL tFrame) (gL gFrame) e2) : TrodFit P tCluster gCluster t := by
  intro H enc w spare held fuel cs d p h
  have hl := trod_len f0 hn h
  obtain ⟨n0, d0, p0, h0⟩ := trod_fld f0 h
  obtain ⟨n1, d1, p1, h1⟩ := trod_fld f1 h
  obtain ⟨n2, d2, p2, h2⟩ := trod_fld f2 h
  match cs, hl with
  | [v0, v1, v2], _ =>
    simp only [List.drop_succ_cons, List.drop_zero, List.take_succ_cons, List.take_zero] at h0
    obtain ⟨a0, _, j0, w0, r0⟩ := trod_slice u0 c0 (by decide) k0 h0
    cases j0
    simp only [List.drop_succ_cons, List.drop_zero, List.take_succ_cons, List.take_zero] at h1
    obtain ⟨a1, _, j1, w1, r1⟩ := trod_slice u1 c1 (by decide) k1 h1
    cases j1
    simp only [List.drop_succ_cons, List.drop_zero, List.take_succ_cons, List.take_zero] at h2
    obtain ⟨a2, _, j2, w2, r2⟩ := trod_slice u2 c2 (by decide) k2 h2
    cases j2
    exact ⟨⟨a0, a1, a2⟩, ⟨w0, w1, w2⟩, .mk (r0) (.mk (r1) (.mk (r2) (.nil)))⟩
theorem pL_I64 (u : Bool) (l : List Int) : (pL tI64).dec (.one (.pv (.sl u 1 (tI64.encs l)))) = some l := pL_dec tI64 u l
theorem pL_U8 (u : Bool) (l : List Int) : (pL tU8).dec (.one (.pv (.sl u 1 (tU8.encs l)))) = some l := pL_dec tU8 u l
theorem pI_dec (n : Int) : pI.dec (.one (.pv (.sc (.int .i64 n)))) = some n := rfl
theorem pU8_dec (n : Int) : pU8.dec (.one (.pv (.sc (.int .u8 n)))) = some n := rfl
theorem pB_dec (n : Bool) : pB.dec (.one (.pv (.sc (.bool n)))) = some n := rfl
theorem pars0_dec : pars0.dec [] = some () := rfl
theorem parsC_dec {α τ : Type} (p : Par α) (q : Pars τ) (x : AV) (r : List AV) : (parsC p q).dec (x :: r) = match p.dec x, q.dec r with
      | some a, some t => some (a, t)
      | _, _ => none := rfl
theorem mkE_pre {τ : Type} (q : Pars τ) (a : An τ) (args : List AV) : (mkE q a).pre args = match q.dec args with
    | some t => a.pre t
    | none => false := rfl
theorem mkE_i {τ : Type} (q : Pars τ) (a : An τ) (j : Nat) (args : List AV) : (mkE q a).i j args = match q.dec args with
    | some t => a.i j t
    | none => 0 := rfl
theorem mkE_b {τ : Type} (q : Pars τ) (a : An τ) (j : Nat) (args : List AV) : (mkE q a).b j args = match q.dec args with
    | some t => a.b j t
    | none => false := rfl
theorem mkE_l {τ : Type} (q : Pars τ) (a : An τ) (j : Nat) (args : List AV) : (mkE q a).l j args = match q.dec args with
    | some t => a.l j t
    | none => [] := rfl
theorem Ty.encs_nil {α : Type} (T : Ty α) : T.encs [] = [] := rfl
theorem mapE_ext {α : Type} (f : α → List PV) (l : List α) (o n : Nat) : real.ext (mapE f l) o n = mapE f ((l.drop o).take n) := by
  show ((mapE f l).drop o).take n = _
  simp [mapE_map]
def pad {α : Type} (f : α → List PV) (z : List PV) (l : List α) (i : Nat) : List (List PV) := mapE f (l.take i) ++ List.replicate (l.length - i) z
theorem pad_zero {α : Type} (f : α → List PV) (z : List PV) (l : List α) (n : Nat) (h : n = l.length) : real.rep n z = pad f z l 0 := by
  show List.replicate n z = _
  simp [pad, mapE, h]
theorem pad_done {α : Type} (f : α → List PV) (z : List PV) (l : List α) (i : Nat) (h : l.length ≤ i) : pad f z l i = mapE f l := by
  simp [pad, List.take_of_length_le h, Nat.sub_eq_zero_of_le h]
theorem pad_length {α : Type} (f : α → List PV) (z : List PV) (l : List α) (i : Nat) (h : i ≤ l.length) : (pad f z l i).length = l.length := by
  simp [pad, mapE_length]; omega
theorem pad_set {α : Type} [Inhabited α] (f : α → List PV) (z : List PV) (l : List α) (i : Nat) (h : i < l.length) (v : List PV) (hv : v = f (nth l i)) : real.set (pad f z l i) i v = pad f z l (i + 1) := by
  show (pad f z l i).set i v = _
  subst hv
  have e : List.replicate (l.length - i) z = z :: List.replicate (l.length - (i + 1)) z := by
    rw [show l.length - i = (l.length - (i + 1)) + 1 from by omega, List.replicate_succ]
  have hl : (mapE f (l.take i)).length = i := by rw [mapE_length, List.length_take]; omega
  unfold pad
  rw [e, List.set_append_right _ _ (by omega), hl, Nat.sub_self, List.set_cons_zero]
  rw [show l.take (i + 1) = l.take i ++ [nth l i] from by rw [List.take_succ_eq_append_getElem h]; simp [nth, h]]
  simp [mapE_map]
theorem on_ask {H : AV → St → Prop} {L N : List Nat → St → Prop} {b : Bool} {k : Bool → Out} (h1 : b = true → (k true).holds H L N) (h2 : b = false → (k false).holds H L N) : Out.holds H L N (.ask b k) := ⟨h1, h2⟩
theorem on_true {H : AV → St → Prop} {L N : List Nat → St → Prop} {b : Bool} {k : Bool → Out} (h : b = true) (h1 : (k true).holds H L N) : Out.holds H L N (.ask b k) := ⟨fun _ => h1, fun e => absurd (h.symm.trans e) (by simp)⟩
theorem on_false {H : AV → St → Prop} {L N : List Nat → St → Prop} {b : Bool} {k : Bool → Out} (h : b = false) (h1 : (k false).holds H L N) : Out.holds H L N (.ask b k) := ⟨fun e => absurd (h.symm.trans e) (by simp), fun _ => h1⟩
theorem on_must {H : AV → St → Prop} {L N : List Nat → St → Prop} {b : Bool} {k : Out} (h1 : b = true) (h2 : k.holds H L N) : Out.holds H L N (.must b k) := ⟨h1, h2⟩
theorem on_both {H : AV → St → Prop} {L N : List Nat → St → Prop} {k : Bool → Out} (h1 : (k true).holds H L N) (h2 : (k false).holds H L N) : Out.holds H L N (.both k) := ⟨h1, h2⟩
theorem on_eqs {H : AV → St → Prop} {L N : List Nat → St → Prop} {a b : AV} {k : Out} (h1 : a = b) (h2 : k.holds H L N) : Out.holds H L N (.eqs a b k) := ⟨h1, h2⟩
theorem on_any {H : AV → St → Prop} {L N : List Nat → St → Prop} {p : List Nat} {S : St} (h : N p S) : Out.holds H L N (.any p S) := h
theorem RCell.nl {sz : Nat} {w : World} {M : Nat → Prop} {env : EnvT} {v : Value} (h : RCell w M env (.pv .nl) v) : RCell w M env (.pv (.sl false sz [])) v := by
  cases h with
  | pv h => cases h; exact .pv .nil
theorem on_ret {H : AV → St → Prop} {L N : List Nat → St → Prop} {r : AV} {S : St} (h : H r S) : Out.holds H L N (.ret r S) := h
theorem on_loop {H : AV → St → Prop} {L N : List Nat → St → Prop} {p : List Nat} {S : St} (h : L p S) : Out.holds H L N (.loop p S) := h
theorem r_eql (a b : Int) : real.cmp .eql a b = (a == b) := rfl
theorem r_neq (a b : Int) : real.cmp .neq a b = (a != b) := rfl
theorem r_lss (a b : Int) : real.cmp .lss a b = decide (a < b) := rfl
theorem r_leq (a b : Int) : real.cmp .leq a b = decide (a ≤ b) := rfl
theorem r_gtr (a b : Int) : real.cmp .gtr a b = decide (b < a) := rfl
theorem r_geq (a b : Int) : real.cmp .geq a b = decide (b ≤ a) := rfl
theorem r_add (k : IntKind) (a b : Int) : real.ar .add k a b = k.wrap (a + b) := rfl
theorem r_sub (k : IntKind) (a b : Int) : real.ar .sub k a b = k.wrap (a - b) := rfl
theorem r_mul (k : IntKind) (a b : Int) : real.ar .mul k a b = k.wrap (a * b) := rfl
theorem r_ofn (n : Nat) : real.ofn n = (n : Int) := rfl
theorem r_len (es : List (List PV)) : real.len es = es.length := rfl
theorem r_inb (i : Int) (n : Nat) : real.inb i n = decide (0 ≤ i ∧ i < n) := rfl
theorem r_inle (i : Int) (n : Nat) : real.inle i n = decide (0 ≤ i ∧ i ≤ n) := rfl
theorem r_nle (a b : Nat) : real.nle a b = decide (a ≤ b) := rfl
theorem r_ne (a b : Nat) : real.neq a b = decide (a = b) := rfl
theorem r_tn (i : Int) : real.tn i = i.toNat := rfl
theorem r_nadd (a b : Nat) : real.add a b = a + b := rfl
theorem r_nsub (a b : Nat) : real.sub a b = a - b := rfl
theorem r_bnot (b : Bool) : real.bnot b = !b := rfl
theorem r_conv (k : IntKind) (n : Int) : real.conv k n = k.wrap n := rfl
theorem r_beq (a b : Bool) : real.beq .eql a b = (a == b) := rfl
theorem r_mn (a b : Int) : real.mn a b = min a b := by show (if b < a then b else a) = _; split <;> omega
theorem r_mx (a b : Int) : real.mx a b = max a b := by show (if b > a then b else a) = _; split <;> omega
theorem r_els (u : Bool) (s : Nat) (es : List (List PV)) : real.els (.sl u s es) = es := rfl
theorem r_isShF (s : Nat) (es : List (List PV)) : real.isSh s (.sl false s es) = true := Nat.beq_refl s
theorem r_setset (es : List (List PV)) (i : Nat) (a b : List PV) : real.set (real.set es i a) i b = real.set es i b := List.set_set ..
theorem r_nthset {es : List (List PV)} {i : Nat} (h : i < es.length) (v : List PV) (q : Nat) : real.nth (real.set es i v) i q = (v[q]?).getD (.sc .nilFunc) := by
  show ((((es.set i v)[i]?).getD [])[q]?).getD (.sc .nilFunc) = _
  rw [List.getElem?_set_self h]
  rfl
theorem r_ext1 (a : List PV) : real.ext [a] 0 1 = [a] := rfl
theorem r_ext2 (a b : List PV) : real.ext [a, b] 0 2 = [a, b] := rfl
theorem r_ext5 (a b c d e : List PV) : real.ext [a, b, c, d, e] 0 5 = [a, b, c, d, e] := rfl
theorem r_purI (l : List Int) : real.pur (tI64.encs l) = true := tI64_purs l
theorem r_purB (l : List Int) : real.pur (tU8.encs l) = true := tU8_purs l
theorem r_purC (l : List CountV) : real.pur (tCount.encs l) = true := tCount_purs l
theorem r_app (a b : List (List PV)) : real.app a b = a ++ b := rfl
theorem wrap_id {n : Int} (h : -9223372036854775808 ≤ n ∧ n ≤ 9223372036854775807) : IntKind.i64.wrap n = n := by rw [IntKind.wrap_i64]; omega
section
variable {E : Ent} {R : Value → World → Prop} {S : St} {r r' : AV}
theorem Ended.ice {I : Ops} (hI : I = real) {c sz : Nat} {es : List (List PV)} (hlk : lk c S.σ = some (.row sz es)) (h : Ended E R (iceA I c sz es r) (Aix.ice I c sz es S)) : Ended E R r S := by
  subst hI
  intro β O a w u hr hv
  obtain ⟨h1, h2⟩ := hr.ice hlk
  exact h β O a w u h1 (h2 hv)
end
theorem tNode_pur_own (l : List NodeV) : real.pur (mapE tNode_own l) = true := tNode.pur_own l
theorem tNode_odowns : ∀ l, real.downs (mapE tNode_own l) = tNode.encs l
  | [] => rfl
  | a :: l => by
    show downc (tNode_own a) :: downs (mapE tNode_own l) = tNode.enc a :: tNode.encs l
    rw [tNode_odown, show downs (mapE tNode_own l) = tNode.encs l from tNode_odowns l]
theorem tEntry_pur_own (l : List EntryV) : real.pur (mapE tEntry_own l) = true := tEntry.pur_own l
theorem tEntry_odowns : ∀ l, real.downs (mapE tEntry_own l) = tEntry.encs l
  | [] => rfl
  | a :: l => by
    show downc (tEntry_own a) :: downs (mapE tEntry_own l) = tEntry.enc a :: tEntry.encs l
    rw [tEntry_odown, show downs (mapE tEntry_own l) = tEntry.encs l from tEntry_odowns l]
theorem tCount_pur_own (l : List CountV) : real.pur (mapE tCount_own l) = true := tCount.pur_own l
theorem tCount_odowns : ∀ l, real.downs (mapE tCount_own l) = tCount.encs l
  | [] => rfl
  | a :: l => by
    show downc (tCount_own a) :: downs (mapE tCount_own l) = tCount.enc a :: tCount.encs l
    rw [tCount_odown, show downs (mapE tCount_own l) = tCount.encs l from tCount_odowns l]
theorem tBatch_pur_own (l : List BatchV) : real.pur (mapE tBatch_own l) = true := tBatch.pur_own l
theorem tBatch_odowns : ∀ l, real.downs (mapE tBatch_own l) = tBatch.encs l
  | [] => rfl
  | a :: l => by
    show downc (tBatch_own a) :: downs (mapE tBatch_own l) = tBatch.enc a :: tBatch.encs l
    rw [tBatch_odown, show downs (mapE tBatch_own l) = tBatch.encs l from tBatch_odowns l]
theorem tFrame_pur_own (l : List FrameV) : real.pur (mapE tFrame_own l) = true := tFrame.pur_own l
theorem tFrame_odowns : ∀ l, real.downs (mapE tFrame_own l) = tFrame.encs l
  | [] => rfl
  | a :: l => by
    show downc (tFrame_own a) :: downs (mapE tFrame_own l) = tFrame.enc a :: tFrame.encs l
    rw [tFrame_odown, show downs (mapE tFrame_own l) = tFrame.encs l from tFrame_odowns l]
theorem tHeld_pur_own (l : List HeldV) : real.pur (mapE tHeld_own l) = true := tHeld.pur_own l
theorem tHeld_odowns : ∀ l, real.downs (mapE tHeld_own l) = tHeld.encs l
  | [] => rfl
  | a :: l => by
    show downc (tHeld_own a) :: downs (mapE tHeld_own l) = tHeld.enc a :: tHeld.encs l
    rw [tHeld_odown, show downs (mapE tHeld_own l) = tHeld.encs l from tHeld_odowns l]
theorem tRelease_pur_own (l : List ReleaseV) : real.pur (mapE tRelease_own l) = true := tRelease.pur_own l
theorem tRelease_odowns : ∀ l, real.downs (mapE tRelease_own l) = tRelease.encs l
  | [] => rfl
  | a :: l => by
    show downc (tRelease_own a) :: downs (mapE tRelease_own l) = tRelease.enc a :: tRelease.encs l
    rw [tRelease_odown, show downs (mapE tRelease_own l) = tRelease.encs l from tRelease_odowns l]
theorem tWorker_pur_own (l : List WorkerV) : real.pur (mapE tWorker_own l) = true := tWorker.pur_own l
theorem tWorker_odowns : ∀ l, real.downs (mapE tWorker_own l) = tWorker.encs l
  | [] => rfl
  | a :: l => by
    show downc (tWorker_own a) :: downs (mapE tWorker_own l) = tWorker.enc a :: tWorker.encs l
    rw [tWorker_odown, show downs (mapE tWorker_own l) = tWorker.encs l from tWorker_odowns l]
theorem tCluster_pur_own (l : List ClusterV) : real.pur (mapE tCluster_own l) = true := tCluster.pur_own l
theorem tCluster_odowns : ∀ l, real.downs (mapE tCluster_own l) = tCluster.encs l
  | [] => rfl
  | a :: l => by
    show downc (tCluster_own a) :: downs (mapE tCluster_own l) = tCluster.enc a :: tCluster.encs l
    rw [tCluster_odown, show downs (mapE tCluster_own l) = tCluster.encs l from tCluster_odowns l]
end Go.Aix
/-
  THE CALCULUS: an element of a row is taken to hand, what it owns with it; and laid back.
-/
namespace Go.Aix
def openP (I : Ops) (k : Kd) (p : PV) (next : Nat) : R (Cell × Store) := match k with
  | .int k => .must (I.isInt k p) (.ok (.pv (.sc (.int k (I.asInt p))), []))
  | .bool => .must (I.isBool p) (.ok (.pv (.sc (.bool (I.asBool p))), []))
  | .str => .must (I.isStr p) (.ok (.pv (.sc (.string (I.asStr p))), []))
  | .sl s => .ask (I.isNo p) fun t => match t with
    | true => .ok (.pv (.sl true s []), [])
    | false => .must (I.isOwn s p) (.ok (.arr next 0 (I.len (I.els p)), [(next, .row s (I.els p))]))
  | .other => .must (I.isOne p) (.ok (.pv p, []))
def opens (I : Ops) : List Kd → List PV → Nat → R (List Cell × Store)
  | [], ps, _ => match ps with
    | [] => .ok ([], [])
    | _ :: _ => .stuck
  | k :: ks, ps, next => match ps with
    | [] => .stuck
    | p :: ps => do
      let (c, s1) ← openP I k p next
      let (cs, s2) ← opens I ks ps (next + s1.length)
      .ok (c :: cs, s1 ++ s2)
def focusA (I : Ops) (c i : Nat) (ks : List Kd) (S : St) : R St := match lk c S.σ with
  | some (.row sz es) => do
    demand (I.nle (I.add i 1) (I.len es))
    let (cs, s) ← opens I ks ((List.range sz).map fun q => I.nth es i q) S.next
    .ok ⟨S.T, put c (.foc sz es i cs) S.σ ++ s, S.next + s.length⟩
  | _ => .stuck
def unfocusA (I : Ops) (c : Nat) (S : St) : R St := match lk c S.σ with
  | some (.foc sz es i cs) => do
    let (ps, S) ← freezes I S cs
    .ok ⟨S.T, put c (.row sz (I.set es i ps)) S.σ, S.next⟩
  | _ => .stuck
section
variable {P : Program} {X : Ctx} {Y : CallsA} {f : FuncId} {fn : Func} {b : Code} {E : Ent} {R : Value → World → Prop} {β : Nat → Nat × Nat} {O : Nat → List Nat} {S : St} {a : Act} {w : World}
  {M M' : Nat → Prop} {env env' : EnvT}
theorem RL.of_take' : ∀ {ps : List PV} {vs : List Value} {n : Nat} {O : List Nat}, RL w M ps (vs.take n) O → RL w M ps vs O
  | [], vs, n, O, h => by cases h; exact .nil
  | p :: ps, vs, n, O, h => by
    cases vs with
    | nil => simpa using h
    | cons v vs => cases n with
      | zero => simp only [List.take_zero] at h; cases h
      | succ n =>
        rw [List.take_succ_cons] at h
        cases h with
        | cons h hr => exact .cons h (RL.of_take' hr)
theorem isNo_nil {p : PV} {v : Value} {Op : List Nat} {s : Nat} (h : RPV w M p v Op) (hp : isNo p = true) : RPV w M (.sl true s []) v [] ∧ Op = [] := by
  cases h with
  | sc => cases hp
  | nl => exact ⟨.nil, rfl⟩
  | nil => exact ⟨.nil, rfl⟩
  | @sh sz b off cap es cs a hM hb hc hR =>
    cases es with
    | nil => exact absurd rfl a
    | cons => cases hp
  | @un sz b cap es cs t Op a hb hc hr hR =>
    cases es with
    | nil => exact absurd rfl a
    | cons => cases hp
  | dd => cases hp
inductive OneCh (w : World) (M : Nat → Prop) : Store → Nat → List (Nat × Nat × List Nat) → List Nat → Prop
  | none {next : Nat} : OneCh w M [] next [] []
  | some {next b N s : Nat} {es : List (List PV)} {Op : List Nat} (h : ∀ env, ChunkRel w M env b N (.row s es) Op) : OneCh w M [(next, .row s es)] next [(b, N, Op)] (b :: Op)
def EnvAt (env : EnvT) (s : Store) (L : List (Nat × Nat × List Nat)) : Prop := ∀ (j : Nat) (c : Nat) (ch : Chunk) (x : Nat × Nat × List Nat), s[j]? = some (c, ch) → L[j]? = some x → env c = some (x.1, ch.sz, ch.cnt, x.2.1)
theorem openP_sound {k : Kd} {p : PV} {v : Value} {c : Cell} {s : Store} {Op : List Nat} {next : Nat} (h : RPV w M p v Op) (e : (openP real k p next).val = some (c, s)) :
    ∃ L, OneCh w M s next L Op ∧ ∀ env, EnvAt env s L → RCell w M env c v := by
  unfold openP at e
  cases k with
  | int k =>
    simp only [R.val] at e
    split at e
    · rename_i hp
      have hp : isPInt k p = true := hp
      unfold isPInt at hp
      simp only [Option.some.injEq, Prod.mk.injEq] at e
      obtain ⟨rfl, rfl⟩ := e
      split at hp
      · simp only [decide_eq_true_eq] at hp
        subst hp
        cases h with
        | sc h => exact ⟨[], .none, fun _ _ => .pv (.sc h)⟩
      · cases hp
    · cases e
  | bool =>
    simp only [R.val] at e
    split at e
    · rename_i hp
      have hp : isPBool p = true := hp
      unfold isPBool at hp
      simp only [Option.some.injEq, Prod.mk.injEq] at e
      obtain ⟨rfl, rfl⟩ := e
      split at hp
      · cases h with
        | sc h => exact ⟨[], .none, fun _ _ => .pv (.sc h)⟩
      · cases hp
    · cases e
  | str =>
    simp only [R.val] at e
    split at e
    · rename_i hp
      have hp : isPStr p = true := hp
      unfold isPStr at hp
      simp only [Option.some.injEq, Prod.mk.injEq] at e
      obtain ⟨rfl, rfl⟩ := e
      split at hp
      · cases h with
        | sc h => exact ⟨[], .none, fun _ _ => .pv (.sc h)⟩
      · cases hp
    · cases e
  | sl sz =>
    rw [val_ask] at e
    split at e
    · rename_i hp
      simp only [val_ok, Option.some.injEq, Prod.mk.injEq] at e
      obtain ⟨rfl, rfl⟩ := e
      obtain ⟨h1, rfl⟩ := isNo_nil (s := sz) h hp
      exact ⟨[], .none, fun _ _ => .pv h1⟩
    · simp only [R.val] at e
      split at e
      · rename_i hp
        have hp : isOwn sz p = true := hp
        simp only [Option.some.injEq, Prod.mk.injEq] at e
        obtain ⟨rfl, rfl⟩ := e
        cases h with
        | sc => cases hp
        | nl => cases hp
        | @nil un _ _ _ => cases un <;> simp [isOwn] at hp
        | sh a => cases hp
        | dd => cases hp
        | @un sz' b cap es cs t Op a hb hc hr hR =>
          have hsz : sz' = sz := by
            cases es with
            | nil => exact absurd rfl a
            | cons => exact beq_eq hp
          subst hsz
          refine ⟨[(b, cs.size, Op)], .some (fun env => .row hb rfl hR), fun env he => ?_⟩
          have := he 0 next (.row sz' es) (b, cs.size, Op) rfl rfl
          exact .arr this (by show 0 + es.length ≤ es.length; omega) hc (.inr ⟨by simp, by show 0 * sz' + cap * sz' ≤ cs.size; omega⟩)
      · cases e
  | other =>
    simp only [R.val] at e
    split at e
    · rename_i hp
      simp only [Option.some.injEq, Prod.mk.injEq] at e
      obtain ⟨rfl, rfl⟩ := e
      have h1 := h.one hp
      have hO : Op = [] := by
        have hp : isOne p = true := hp
        cases h with
        | sc => rfl
        | nl => rfl
        | nil => rfl
        | sh => rfl
        | dd => rfl
        | @un sz b cap es cs t Op a hb hc hr hR =>
          cases es with
          | nil => exact absurd rfl a
          | cons => cases hp
      subst hO
      exact ⟨[], .none, fun _ _ => .pv h1⟩
    · cases e
structure Opened (w : World) (M : Nat → Prop) (s : Store) (next : Nat) (L : List (Nat × Nat × List Nat)) (B : List Nat) : Prop where
  len : L.length = s.length
  all : B = L.flatMap fun x => x.1 :: x.2.2
  at_ : ∀ (j : Nat) (x : Nat × Nat × List Nat), L[j]? = some x → ∃ ch, s[j]? = some (next + j, ch) ∧ ∀ env, ChunkRel w M env x.1 x.2.1 ch x.2.2
theorem opens_sound : ∀ {ks : List Kd} {ps : List PV} {vs : List Value} {cs : List Cell} {s : Store} {B : List Nat} {next : Nat}, RL w M ps vs B → ps.length = vs.length → (opens real ks ps next).val = some (cs, s) →
    ∃ L, Opened w M s next L B ∧ ∀ env, EnvAt env s L → RCs w M env cs vs
  | [], [], vs, cs, s, B, next, h, hl, e => by
    obtain rfl : vs = [] := List.length_eq_zero_iff.1 hl.symm
    have e := Option.some.inj (show some (([] : List Cell), ([] : Store)) = some (cs, s) from e)
    simp only [Prod.mk.injEq] at e
    obtain ⟨rfl, rfl⟩ := e
    cases h
    exact ⟨[], ⟨rfl, rfl, fun j x hx => by simp at hx⟩, fun _ _ => .nil⟩
  | [], _ :: _, vs, cs, s, B, next, h, hl, e => by simp [opens, val_stuck] at e
  | k :: ks, [], vs, cs, s, B, next, h, hl, e => by simp [opens, val_stuck] at e
  | k :: ks, p :: ps, vs, cs, s, B, next, h, hl, e => by
    unfold opens at e
    rw [val_do] at e
    obtain ⟨⟨c, s1⟩, e1, e⟩ := some_bind e
    rw [val_do] at e
    obtain ⟨⟨cs', s2⟩, e2, e⟩ := some_bind e
    simp only [val_ok, Option.some.injEq, Prod.mk.injEq] at e
    obtain ⟨rfl, rfl⟩ := e
    cases h with
    | cons h hr =>
      rename_i v vs O1 O2
      obtain ⟨L1, q1, q2⟩ := openP_sound h e1
      obtain ⟨L2, r1, r2⟩ := opens_sound hr (by simpa using hl) e2
      cases q1 with
      | none =>
        refine ⟨L2, ⟨by simpa using r1.len, by simpa using r1.all, fun j x hx => by simpa using r1.at_ j x hx⟩, fun env he => .cons (q2 env (fun j c ch x hj _ => by simp at hj)) (r2 env (by simpa using he))⟩
      | @some _ b N sz es Op hch =>
        refine ⟨(b, N, Op) :: L2, ⟨by simpa using r1.len, by rw [r1.all]; simp, ?_⟩, fun env he => .cons (q2 env ?_) (r2 env ?_)⟩
        · intro j x hx
          cases j with
          | zero =>
            simp only [List.getElem?_cons_zero, Option.some.injEq] at hx
            subst hx
            exact ⟨_, rfl, hch⟩
          | succ j =>
            simp only [List.getElem?_cons_succ] at hx
            obtain ⟨ch, g1, g2⟩ := r1.at_ j x hx
            refine ⟨ch, ?_, g2⟩
            simp only [List.singleton_append, List.getElem?_cons_succ, List.length_singleton] at g1 ⊢
            rw [g1, show next + 1 + j = next + (j + 1) from by omega]
        · intro j c ch x hj hx
          cases j with
          | zero => exact he 0 c ch x (by simpa using hj) (by simpa using hx)
          | succ j => simp at hj
        · intro j c ch x hj hx
          exact he (j + 1) c ch x (by simpa using hj) (by simpa using hx)
theorem store_get : ∀ {s : Store} {L : List (Nat × Nat × List Nat)} {next : Nat}, L.length = s.length → (∀ (j : Nat) (x : Nat × Nat × List Nat), L[j]? = some x → ∃ ch, s[j]? = some (next + j, ch)) → ∀ (d : Nat) (ch : Chunk), lk d s = some ch → ∃ j x, d = next + j ∧ s[j]? = some (d, ch) ∧ L[j]? = some x
  | [], _, _, _, _, d, ch, h => by simp [lk] at h
  | (k, c0) :: s, [], _, hl, _, d, ch, h => by simp at hl
  | (k, c0) :: s, x0 :: L, next, hl, ha, d, ch, h => by
    obtain ⟨ch0, h0⟩ := ha 0 x0 rfl
    simp only [List.getElem?_cons_zero, Option.some.injEq, Prod.mk.injEq, Nat.add_zero] at h0
    obtain ⟨rfl, rfl⟩ := h0
    unfold lk at h
    cases hb : Nat.beq d k with
    | true =>
      rw [hb] at h
      obtain rfl := Option.some.inj h
      obtain rfl := beq_eq hb
      exact ⟨0, x0, rfl, rfl, rfl⟩
    | false =>
      rw [hb] at h
      obtain ⟨j, x, q1, q2, q3⟩ := store_get (s := s) (L := L) (next := k + 1) (by simpa using hl) (fun j x hx => by
        obtain ⟨ch, q⟩ := ha (j + 1) x (by simpa using hx)
        exact ⟨ch, by simpa [Nat.add_assoc, Nat.add_comm 1 j] using q⟩) d ch h
      exact ⟨j + 1, x, by omega, by simpa using q2, by simpa using q3⟩
theorem store_lk : ∀ {s : Store} {next j : Nat} {ch : Chunk}, (∀ (i : Nat) (c : Nat) (ch : Chunk), s[i]? = some (c, ch) → c = next + i) → s[j]? = some (next + j, ch) → lk (next + j) s = some ch
  | [], _, _, _, _, h => by simp at h
  | (k, c0) :: s, next, j, ch, ha, h => by
    have hk := ha 0 k c0 rfl
    simp only [Nat.add_zero] at hk
    subst hk
    cases j with
    | zero =>
      simp only [List.getElem?_cons_zero, Option.some.injEq, Prod.mk.injEq] at h
      obtain ⟨_, rfl⟩ := h
      unfold lk
      simp
    | succ j =>
      unfold lk
      rw [beq_f (by omega : k + (j + 1) ≠ k)]
      simp only [List.getElem?_cons_succ] at h
      have := store_lk (s := s) (next := k + 1) (j := j) (ch := ch) (fun i c ch hi => by have := ha (i + 1) c ch (by simpa using hi); omega) (by rw [h]; congr 2; omega)
      rw [show k + (j + 1) = k + 1 + j from by omega]
      exact this
theorem flat_apart : ∀ {L : List (Nat × Nat × List Nat)} {i j : Nat} {x y : Nat × Nat × List Nat}, (L.flatMap fun x => x.1 :: x.2.2).Nodup → L[i]? = some x → L[j]? = some y → i ≠ j → ∀ b ∈ x.1 :: x.2.2, b ∉ y.1 :: y.2.2
  | [], _, _, _, _, _, h, _, _ => by simp at h
  | z :: L, 0, 0, _, _, _, _, _, h => absurd rfl h
  | z :: L, 0, j + 1, x, y, hn, hi, hj, _ => by
    simp only [List.getElem?_cons_zero, Option.some.injEq] at hi
    subst hi
    simp only [List.getElem?_cons_succ] at hj
    rw [List.flatMap_cons, List.nodup_append] at hn
    intro b hb hm
    exact hn.2.2 b hb b (List.mem_flatMap.2 ⟨y, List.mem_of_getElem? hj, hm⟩) rfl
  | z :: L, i + 1, 0, x, y, hn, hi, hj, _ => by
    simp only [List.getElem?_cons_zero, Option.some.injEq] at hj
    subst hj
    simp only [List.getElem?_cons_succ] at hi
    rw [List.flatMap_cons, List.nodup_append] at hn
    intro b hb hm
    exact hn.2.2 b hm b (List.mem_flatMap.2 ⟨x, List.mem_of_getElem? hi, hb⟩) rfl
  | z :: L, i + 1, j + 1, x, y, hn, hi, hj, h => by
    rw [List.flatMap_cons, List.nodup_append] at hn
    exact flat_apart (L := L) hn.2.1 (by simpa using hi) (by simpa using hj) (by omega)
theorem flat_nodup : ∀ {L : List (Nat × Nat × List Nat)} {i : Nat} {x : Nat × Nat × List Nat}, (L.flatMap fun x => x.1 :: x.2.2).Nodup → L[i]? = some x → (x.1 :: x.2.2).Nodup
  | [], _, _, _, h => by simp at h
  | z :: L, 0, x, hn, hi => by
    simp only [List.getElem?_cons_zero, Option.some.injEq] at hi
    subst hi
    rw [List.flatMap_cons, List.nodup_append] at hn
    exact hn.1
  | z :: L, i + 1, x, hn, hi => by
    rw [List.flatMap_cons, List.nodup_append] at hn
    exact flat_nodup (L := L) hn.2.1 (by simpa using hi)
theorem focus_sound (h : Rel E β O S a w) {c i : Nat} {ks : List Kd} {S' : St} (e : (focusA real c i ks S).val = some S') : ∃ β' O', Rel E β' O' S' a w := by
  unfold focusA at e
  split at e
  · rename_i sz es hlk
    rw [val_demand] at e
    split at e
    · rename_i hle
      have hi : i + 1 ≤ es.length := of_decide_eq_true hle
      rw [val_do] at e
      obtain ⟨⟨cs, s⟩, e1, e⟩ := some_bind e
      simp only [val_ok, Option.some.injEq] at e
      subst e
      have hcr := h.mem.chunk c _ hlk
      have hnd := h.mem.nodup c _ hlk
      have hcn := h.mem.keys c _ hlk
      generalize hO : O c = Oc at hcr hnd
      cases hcr with
      | row hb hN hR =>
        rename_i vs ty
        have hge : es[i]? = some es[i] := List.getElem?_eq_getElem hi
        obtain ⟨A, BC, hABC, hRA0, hRest⟩ : ∃ A B, Oc = A ++ B ∧ RLL w (Mof E β O S.σ) sz (es.take i) vs.toList A ∧ RLL w (Mof E β O S.σ) sz (es.drop i) (vs.toList.drop (i * sz)) B := by
          clear e1
          generalize vs.toList = us at hR
          have : ∀ (i : Nat) (es : List (List PV)) (us : List Value) (Oc : List Nat), RLL w (Mof E β O S.σ) sz es us Oc → ∃ A B, Oc = A ++ B ∧ RLL w (Mof E β O S.σ) sz (es.take i) us A ∧ RLL w (Mof E β O S.σ) sz (es.drop i) (us.drop (i * sz)) B := by
            intro i
            induction i with
            | zero => intro es us Oc h; exact ⟨[], Oc, rfl, by simpa using .nil, by simpa using h⟩
            | succ i ih =>
              intro es us Oc h
              cases h with
              | nil => exact ⟨[], [], rfl, by simpa using .nil, by simpa using .nil⟩
              | cons hl h hr =>
                obtain ⟨A, B, h1, h2, h3⟩ := ih _ _ _ hr
                rename_i ps es' O1 O2
                refine ⟨O1 ++ A, B, by rw [h1]; simp, .cons hl h h2, ?_⟩
                rw [List.drop_drop] at h3
                rw [List.drop_succ_cons, show (i + 1) * sz = sz + i * sz from by rw [Nat.add_mul]; omega]
                exact h3
          exact this i es us Oc hR
        have hdi : es.drop i = es[i] :: es.drop (i + 1) := List.drop_eq_getElem_cons hi
        rw [hdi] at hRest
        generalize hBC : BC = BC' at hRest
        cases hRest with
        | cons hl hE hC =>
          rename_i B C
          subst hBC
          subst hABC
          rw [List.drop_drop, show i * sz + sz = (i + 1) * sz from by rw [Nat.add_mul]; omega] at hC
          -- the element's cells
          have hle := hR.le
          have hmul : (i + 1) * sz ≤ es.length * sz := Nat.mul_le_mul_right _ hi
          rw [Nat.add_mul, Nat.one_mul] at hmul
          have hels : (List.range sz).map (fun q => real.nth es i q) = es[i] := by
            apply List.ext_getElem
            · simp [hl]
            · intro q h1 h2
              simp only [List.getElem_map, List.getElem_range]
              show ((es[i]?.getD [])[q]?).getD _ = _
              rw [hge]
              simp [List.getElem?_eq_getElem h2]
          rw [hels] at e1
          have hE' : RL w (Mof E β O S.σ) es[i] ((vs.toList.drop (i * sz)).take sz) B := hE.pre _ (by rw [hl, List.take_take, Nat.min_self])
          have hlen : es[i].length = ((vs.toList.drop (i * sz)).take sz).length := by rw [hl, List.length_take, List.length_drop]; omega
          obtain ⟨L, q1, q2⟩ := opens_sound hE' hlen e1
          have hcsl : cs.length = sz := by
            have : ∀ {ks : List Kd} {ps : List PV} {next : Nat} {cs : List Cell} {s : Store}, (opens real ks ps next).val = some (cs, s) → cs.length = ps.length := by
              intro ks
              induction ks with
              | nil =>
                intro ps next cs s e
                cases ps with
                | nil =>
                  have e := Option.some.inj (show some (([] : List Cell), ([] : Store)) = some (cs, s) from e)
                  simp only [Prod.mk.injEq] at e
                  rw [← e.1]
                  rfl
                | cons => simp [opens, val_stuck] at e
              | cons k ks ih =>
                intro ps next cs s e
                cases ps with
                | nil => simp [opens, val_stuck] at e
                | cons p ps =>
                  unfold opens at e
                  rw [val_do] at e
                  obtain ⟨⟨c, s1⟩, e1, e⟩ := some_bind e
                  rw [val_do] at e
                  obtain ⟨⟨cs', s2⟩, e2, e⟩ := some_bind e
                  simp only [val_ok, Option.some.injEq, Prod.mk.injEq] at e
                  rw [← e.1]
                  simp [ih e2]
            rw [this e1, hl]
          have keyS : ∀ (j : Nat) (d : Nat) (ch : Chunk), s[j]? = some (d, ch) → d = S.next + j := by
            intro j d ch hj
            have hjl : j < L.length := by rw [q1.len]; exact (List.getElem?_eq_some_iff.1 hj).1
            obtain ⟨ch', g1, _⟩ := q1.at_ j L[j] (List.getElem?_eq_getElem hjl)
            rw [hj] at g1
            simp only [Option.some.injEq, Prod.mk.injEq] at g1
            exact g1.1
          let β' : Nat → Nat × Nat := fun d => if d < S.next then β d else ((L[d - S.next]?).getD (0, 0, [])).1 |> fun b => (b, ((L[d - S.next]?).getD (0, 0, [])).2.1)
          let O' : Nat → List Nat := fun d => if d = c then A ++ C else if d < S.next then O d else ((L[d - S.next]?).getD (0, 0, [])).2.2
          have b1 : ∀ d, d < S.next → β' d = β d := fun d hd => if_pos hd
          have o1 : ∀ d, d < S.next → d ≠ c → O' d = O d := fun d hd hdc => by show (if d = c then _ else if d < S.next then _ else _) = _; rw [if_neg hdc, if_pos hd]
          have oc : O' c = A ++ C := if_pos rfl
          have b2 : ∀ j x, L[j]? = some x → β' (S.next + j) = (x.1, x.2.1) ∧ O' (S.next + j) = x.2.2 := by
            intro j x hx
            have hn : ¬ S.next + j < S.next := by omega
            have hnc : S.next + j ≠ c := by omega
            constructor
            · show (if S.next + j < S.next then _ else _) = _
              rw [if_neg hn, Nat.add_sub_cancel_left, hx]
              rfl
            · show (if S.next + j = c then _ else if S.next + j < S.next then _ else _) = _
              rw [if_neg hnc, if_neg hn, Nat.add_sub_cancel_left, hx]
              rfl
          generalize hσ' : put c (.foc sz es i cs) S.σ ++ s = σ'
          have look : ∀ d x, lk d σ' = some x → (d = c ∧ x = .foc sz es i cs) ∨ (d < S.next ∧ d ≠ c ∧ lk d S.σ = some x) ∨ (∃ j y, d = S.next + j ∧ s[j]? = some (d, x) ∧ L[j]? = some y) := by
            intro d x hd
            rw [← hσ', lk_app] at hd
            by_cases hdc : d = c
            · subst hdc
              rw [lk_put_self] at hd
              exact .inl ⟨rfl, (Option.some.inj hd).symm⟩
            · rw [lk_put_ne _ hdc] at hd
              cases eo : lk d S.σ with
              | some y =>
                rw [eo] at hd
                exact .inr (.inl ⟨h.mem.keys d y eo, hdc, hd⟩)
              | none =>
                rw [eo] at hd
                obtain ⟨j, y, g1, g2, g3⟩ := store_get q1.len (fun j x hx => by obtain ⟨ch, g, _⟩ := q1.at_ j x hx; exact ⟨ch, g⟩) d x hd
                exact .inr (.inr ⟨j, y, g1, g2, g3⟩)
          have lookc : lk c σ' = some (.foc sz es i cs) := by rw [← hσ', lk_app, lk_put_self]
          have looko : ∀ d x, d ≠ c → lk d S.σ = some x → lk d σ' = some x := by
            intro d x hdc hd
            rw [← hσ', lk_app, lk_put_ne _ hdc, hd]
          have lookn : ∀ j ch, s[j]? = some (S.next + j, ch) → lk (S.next + j) σ' = some ch := by
            intro j ch hj
            have hn : lk (S.next + j) S.σ = none := by
              cases eo : lk (S.next + j) S.σ with
              | none => rfl
              | some y => have := h.mem.keys _ y eo; omega
            rw [← hσ', lk_app, lk_put_ne _ (by omega), hn]
            exact store_lk keyS hj
          -- the blocks
          have hBO : ∀ (j : Nat) (x : Nat × Nat × List Nat), L[j]? = some x → ∀ y ∈ x.1 :: x.2.2, y ∈ B := by
            intro j x hx y hy
            rw [q1.all]
            exact List.mem_flatMap.2 ⟨x, List.mem_of_getElem? hx, hy⟩
          have hndB : B.Nodup := by
            have := (List.nodup_cons.1 hnd).2
            rw [List.nodup_append] at this
            have := this.2.1
            rw [List.nodup_append] at this
            exact this.1
          have hAC : ∀ y ∈ A ++ C, y ∈ O c := by
            intro y hy
            rw [hO]
            simp only [List.mem_append] at hy ⊢
            grind
          have hBc : ∀ y ∈ B, y ∈ O c := fun y hy => by rw [hO]; simp [hy]
          have hBAC : ∀ y ∈ B, y ∉ (β c).1 :: (A ++ C) := by
            intro y hy hm
            have h0 := hnd
            simp only [List.nodup_cons, List.nodup_append, List.mem_append] at h0
            rcases List.mem_cons.1 hm with rfl | hm
            · exact h0.1 (by simp [hy])
            · rcases List.mem_append.1 hm with hm | hm
              · exact h0.2.2.2 y hm y (by simp [hy]) rfl
              · exact h0.2.2.1.2.2 y hy y hm rfl
          have hM : ∀ y, Mof E β' O' σ' y → Mof E β O S.σ y := by
            rintro y (hx | ⟨d, x, hd, hy⟩)
            · exact .inl hx
            · rcases look d x hd with ⟨rfl, _⟩ | ⟨g1, g2, g3⟩ | ⟨j, z, rfl, g2, g3⟩
              · rw [b1 _ hcn, oc] at hy
                refine .inr ⟨d, _, hlk, ?_⟩
                rcases List.mem_cons.1 hy with rfl | hy
                · exact List.mem_cons_self
                · exact List.mem_cons_of_mem _ (hAC y hy)
              · rw [b1 d g1, o1 d g1 g2] at hy
                exact .inr ⟨d, x, g3, hy⟩
              · rw [(b2 j z g3).1, (b2 j z g3).2] at hy
                exact .inr ⟨c, _, hlk, List.mem_cons_of_mem _ (hBc y (hBO j z g3 y hy))⟩
          have t : Turn w w (Mof E β O S.σ) (Mof E β' O' σ') (fun _ => False) := ⟨fun _ _ _ h => h, fun _ h => h.elim, fun b hb => .inl (hM b hb)⟩
          have hE1 : ∀ d x, envOf β S.σ d = some x → envOf β' σ' d = some x := by
            intro d x hx
            unfold envOf at *
            obtain ⟨ch, hch, hx⟩ := Option.map_eq_some_iff.1 hx
            have hdn := h.mem.keys d ch hch
            by_cases hdc : d = c
            · subst hdc
              rw [hlk] at hch
              obtain rfl := Option.some.inj hch
              rw [lookc, b1 _ hdn, Option.map_some, ← hx]
              rfl
            · rw [looko d ch hdc hch, b1 _ hdn, Option.map_some, hx]
          have hEn : EnvAt (envOf β' σ') s L := by
            intro j d ch x hj hx
            have := keyS j d ch hj
            subst this
            unfold envOf
            rw [lookn j ch hj, (b2 j x hx).1]
            rfl
          have sub0 : ∀ d x, lk d σ' = some x → ∃ d' y, lk d' S.σ = some y ∧ (∀ z ∈ (β' d).1 :: O' d, z ∈ (β d').1 :: O d') := by
            intro d x hd
            rcases look d x hd with ⟨rfl, _⟩ | ⟨g1, g2, g3⟩ | ⟨j, z, rfl, g2, g3⟩
            · refine ⟨d, _, hlk, fun z hz => ?_⟩
              rw [b1 _ hcn, oc] at hz
              rcases List.mem_cons.1 hz with rfl | hz
              · exact List.mem_cons_self
              · exact List.mem_cons_of_mem _ (hAC z hz)
            · exact ⟨d, x, g3, fun z hz => by rw [b1 d g1, o1 d g1 g2] at hz; exact hz⟩
            · refine ⟨c, _, hlk, fun y hy => ?_⟩
              rw [(b2 j z g3).1, (b2 j z g3).2] at hy
              exact List.mem_cons_of_mem _ (hBc y (hBO j z g3 y hy))
          refine ⟨β', O', ⟨⟨?_, ?_, ?_, ?_, ?_, h.mem.os, h.mem.tape, h.mem.output, h.mem.size, h.mem.frame, h.mem.xlt, Nat.le_trans h.mem.nxt (Nat.le_add_right _ _), ?_⟩, ?_, h.nodef⟩⟩
          · intro d x hd
            show d < S.next + s.length
            rcases look d x hd with ⟨rfl, _⟩ | ⟨g1, _⟩ | ⟨j, z, rfl, g2, _⟩
            · omega
            · omega
            · have := (List.getElem?_eq_some_iff.1 g2).1
              omega
          · intro d x hd
            show ChunkRel w (Mof E β' O' σ') (envOf β' σ') _ _ _ _
            rcases look d x hd with ⟨rfl, rfl⟩ | ⟨g1, g2, g3⟩ | ⟨j, z, rfl, g2, g3⟩
            · rw [b1 _ hcn, oc]
              refine .foc hb hN hi hcsl (hRA0.turn t (fun _ _ h => h)) ?_ (hC.turn t (fun _ _ h => h))
              exact (q2 _ hEn |> fun hc => by exact hc.turn t (fun _ _ h => h))
            · rw [b1 d g1, o1 d g1 g2]
              exact (h.mem.chunk d x g3).turn t hE1 (fun _ _ h => h) rfl
            · rw [(b2 j z g3).1, (b2 j z g3).2]
              obtain ⟨ch, k1, k2⟩ := q1.at_ j z g3
              rw [g2] at k1
              simp only [Option.some.injEq, Prod.mk.injEq, true_and] at k1
              subst k1
              exact (k2 (envOf β' σ')).turn t (fun _ _ h => h) (fun _ _ h => h) rfl
          · intro d x hd
            rcases look d x hd with ⟨rfl, rfl⟩ | ⟨g1, g2, g3⟩ | ⟨j, z, rfl, g2, g3⟩
            · rw [b1 _ hcn, oc]
              have h0 := hnd
              clear hBAC hBO hAC hBc hM sub0
              simp only [List.nodup_cons, List.nodup_append, List.mem_append] at h0 ⊢
              grind
            · rw [b1 d g1, o1 d g1 g2]; exact h.mem.nodup d x g3
            · rw [(b2 j z g3).1, (b2 j z g3).2]
              exact flat_nodup (by rw [← q1.all]; exact hndB) g3
          · intro d d' x y hd hd' hne z hz hm
            rcases look d x hd with ⟨rfl, rfl⟩ | ⟨g1, g2, g3⟩ | ⟨j, u, rfl, g2, g3⟩
            · rw [b1 _ hcn, oc] at hz
              rcases look d' y hd' with ⟨rfl, rfl⟩ | ⟨k1, k2, k3⟩ | ⟨j', u', rfl, k2, k3⟩
              · exact hne rfl
              · rw [b1 d' k1, o1 d' k1 k2] at hm
                refine h.mem.disj d d' _ y hlk k3 hne z ?_ hm
                rcases List.mem_cons.1 hz with rfl | hz
                · exact List.mem_cons_self
                · exact List.mem_cons_of_mem _ (hAC z hz)
              · rw [(b2 j' u' k3).1, (b2 j' u' k3).2] at hm
                exact hBAC z (hBO j' u' k3 z hm) hz
            · rw [b1 d g1, o1 d g1 g2] at hz
              rcases look d' y hd' with ⟨rfl, rfl⟩ | ⟨k1, k2, k3⟩ | ⟨j', u', rfl, k2, k3⟩
              · rw [b1 _ hcn, oc] at hm
                refine h.mem.disj d d' x _ g3 hlk hne z hz ?_
                rcases List.mem_cons.1 hm with rfl | hm
                · exact List.mem_cons_self
                · exact List.mem_cons_of_mem _ (hAC z hm)
              · rw [b1 d' k1, o1 d' k1 k2] at hm
                exact h.mem.disj d d' x y g3 k3 hne z hz hm
              · rw [(b2 j' u' k3).1, (b2 j' u' k3).2] at hm
                exact h.mem.disj d c x _ g3 hlk g2 z hz (List.mem_cons_of_mem _ (hBc z (hBO j' u' k3 z hm)))
            · rw [(b2 j u g3).1, (b2 j u g3).2] at hz
              rcases look d' y hd' with ⟨rfl, rfl⟩ | ⟨k1, k2, k3⟩ | ⟨j', u', rfl, k2, k3⟩
              · rw [b1 _ hcn, oc] at hm
                exact hBAC z (hBO j u g3 z hz) hm
              · rw [b1 d' k1, o1 d' k1 k2] at hm
                exact h.mem.disj c d' _ y hlk k3 (Ne.symm k2) z (List.mem_cons_of_mem _ (hBc z (hBO j u g3 z hz))) hm
              · rw [(b2 j' u' k3).1, (b2 j' u' k3).2] at hm
                exact flat_apart (by rw [← q1.all]; exact hndB) g3 k3 (fun e => hne (by rw [e])) z hz hm
          · intro d x hd z hz
            obtain ⟨d', y, k1, k2⟩ := sub0 d x hd
            exact h.mem.own d' y k1 z (k2 z hz)
          · intro d x hlt hd
            have hdl : d < S.next := Nat.lt_of_lt_of_le hlt h.mem.nxt
            rcases look d x hd with ⟨rfl, rfl⟩ | ⟨g1, g2, g3⟩ | ⟨j, u, rfl, g2, g3⟩
            · rw [b1 _ hcn]; exact h.mem.fix d _ hlt hlk
            · rw [b1 d g1]; exact h.mem.fix d x hlt g3
            · omega
          · intro q av hq
            obtain ⟨g1, g2⟩ := h.slots q av hq
            refine ⟨g1, ?_⟩
            show RAV w (Mof E β' O' σ') (envOf β' σ') _ _
            exact g2.turn t hE1
    · cases e
  · simp [val_stuck] at e
theorem RLL.mid {sz i : Nat} {es : List (List PV)} {ps : List PV} {vs : List Value} {A B C : List Nat} (hi : i < es.length) (hl : ps.length = sz) (hle : i * sz ≤ vs.length) (h1 : RLL w M sz (es.take i) vs A) (h2 : RL w M ps (vs.drop (i * sz)) B) (h3 : RLL w M sz (es.drop (i + 1)) (vs.drop ((i + 1) * sz)) C) :
    RLL w M sz (es.set i ps) vs (A ++ (B ++ C)) := by
  have e : es.set i ps = es.take i ++ ps :: es.drop (i + 1) := by rw [List.set_eq_take_append_cons_drop, if_pos hi]
  rw [e]
  refine RLL.append h1 ?_
  have ht : (es.take i).length = i := by rw [List.length_take]; omega
  rw [ht]
  refine .cons hl h2 ?_
  rw [List.drop_drop, show i * sz + sz = (i + 1) * sz from by rw [Nat.add_mul]; omega]
  exact h3
theorem unfocus_sound (h : Rel E β O S a w) {c : Nat} {S' : St} (e : (unfocusA real c S).val = some S') : ∃ β' O', Rel E β' O' S' a w := by
  unfold unfocusA at e
  split at e
  · rename_i sz es i cs hlk
    rw [val_do] at e
    obtain ⟨⟨ps, S1⟩, e1, e⟩ := some_bind e
    simp only [val_ok, Option.some.injEq] at e
    subst e
    have hcr := h.mem.chunk c _ hlk
    have hnd := h.mem.nodup c _ hlk
    generalize hO : O c = Oc at hcr hnd
    cases hcr with
    | foc hb hN hi hl h1 h2 h3 =>
      rename_i vs ty A C
      obtain ⟨Op, g1, g2, g2', g3, g4, g5, g6, g7, g8⟩ := freezes_sound h (fun _ _ h => h) h2 e1
      obtain ⟨d1, d2, d3⟩ := given h g4 g5
      -- the chunk stands as it stood
      have hlk1 : ∃ cs1, lk c S1.σ = some (.foc sz es i cs1) := by
        have fz : ∀ {cs : List Cell} {S : St} {ps : List PV} {S1 : St} {cs0 : List Cell}, (freezes real S cs).val = some (ps, S1) → lk c S.σ = some (.foc sz es i cs0) → ∃ cs1, lk c S1.σ = some (.foc sz es i cs1) := by
          intro cs
          induction cs with
          | nil =>
            intro S ps S1 cs0 e hl
            have e := Option.some.inj (show some (([] : List PV), S) = some (ps, S1) from e)
            simp only [Prod.mk.injEq] at e
            obtain ⟨rfl, rfl⟩ := e
            exact ⟨cs0, hl⟩
          | cons x cs ih =>
            intro S ps S1 cs0 e hl
            simp only [freezes, val_do] at e
            obtain ⟨⟨p, S2⟩, e1, e⟩ := some_bind e
            obtain ⟨⟨qs, S3⟩, e2, e⟩ := some_bind e
            simp only [val_ok, Option.some.injEq, Prod.mk.injEq] at e
            obtain ⟨_, rfl⟩ := e
            have : ∃ cs1, lk c S2.σ = some (.foc sz es i cs1) := by
              unfold freeze at e1
              split at e1
              · simp only [val_ok, Option.some.injEq, Prod.mk.injEq] at e1
                obtain ⟨_, rfl⟩ := e1
                exact ⟨cs0, hl⟩
              · rename_i d n
                split at e1
                · rename_i hd
                  simp only [val_ok, Option.some.injEq, Prod.mk.injEq] at e1
                  obtain ⟨_, rfl⟩ := e1
                  have hne : c ≠ d := fun e => by subst e; rw [hl] at hd; cases hd
                  refine ⟨cs0.map (killC d), ?_⟩
                  show lk c ((rm d S.σ).map fun e => (e.1, killK d e.2)) = _
                  rw [kill_lk, if_neg hne, hl]
                  rfl
                · simp [val_stuck] at e1
              · simp only [val_ok, Option.some.injEq, Prod.mk.injEq] at e1
                obtain ⟨_, rfl⟩ := e1
                exact ⟨cs0, hl⟩
              · split at e1
                · simp only [val_ok, Option.some.injEq, Prod.mk.injEq] at e1
                  obtain ⟨_, rfl⟩ := e1
                  exact ⟨cs0, hl⟩
                · simp [val_stuck] at e1
              · simp [val_stuck] at e1
            obtain ⟨cs1, h1⟩ := this
            exact ih e2 h1
        exact fz e1 hlk
      obtain ⟨cs1, hlk1⟩ := hlk1
      have hcr1 := g1.mem.chunk c _ hlk1
      rw [hO] at hcr1
      have hle3 := h3.le
      have hgl := h2.length
      rw [List.length_take, List.length_drop] at hgl
      have hpl : ps.length = sz := by rw [g2', List.length_take, List.length_drop]; omega
      have hle : i * sz ≤ vs.toList.length := by
        by_cases hz : sz = 0
        · subst hz; simp
        · generalize i * sz = X at *
          omega
      have hR : RLL w (Mof E β O S.σ) sz (es.set i ps) vs.toList (A ++ (Op ++ C)) := RLL.mid hi hpl hle h1 (RL.of_take' g2) h3
      have hdisj := d1 c _ hlk1
      rw [hO] at hdisj
      have hnd' : ((β c).1 :: (A ++ (Op ++ C))).Nodup := by
        clear d1 d2 d3 g1 g4 g5 g6 g7 hcr1 h1 h2 h3 hR
        simp only [List.nodup_append, List.mem_append, List.nodup_cons, List.mem_cons] at *
        grind
      have hOkM : ∀ y ∈ A ++ (Op ++ C), Mof E β O S.σ y := by
        intro y hy
        rcases List.mem_append.1 hy with hy | hy
        · exact .inr ⟨c, _, hlk, List.mem_cons_of_mem _ (by rw [hO]; exact List.mem_append_left _ hy)⟩
        · rcases List.mem_append.1 hy with hy | hy
          · exact d3 y hy
          · exact .inr ⟨c, _, hlk, List.mem_cons_of_mem _ (by rw [hO]; exact List.mem_append_right _ hy)⟩
      have hrow : World.setRow w (β c).1 vs ty = w := setRow_same hb
      have hT := put_turn (E := E) (O := O) (w := w) (β := β) (σ := S1.σ) (M := Mof E β O S.σ) g6 (ch' := .row sz (es.set i ps)) (vs := vs) (t := ty) hlk1 hOkM
      have hm := g1.mem.put g6 (ch' := .row sz (es.set i ps)) (Ok := A ++ (Op ++ C)) (vs := vs) (t := ty) hlk1 rfl (by show (es.set i ps).length = es.length; simp) hN hOkM
        (.row (setRow_self (blk_lt (blk_some hb))) hN (hR.turn hT (fun x hx e => (List.nodup_cons.1 hnd').1 (e ▸ hx)))) hnd'
        (by
          intro d x hd hdx y hy
          rcases List.mem_append.1 hy with hy | hy
          · exact g1.mem.disj c d _ x hlk1 hdx (Ne.symm hd) y (List.mem_cons_of_mem _ (by rw [hO]; exact List.mem_append_left _ hy))
          · rcases List.mem_append.1 hy with hy | hy
            · exact d1 d x hdx y hy
            · exact g1.mem.disj c d _ x hlk1 hdx (Ne.symm hd) y (List.mem_cons_of_mem _ (by rw [hO]; exact List.mem_append_right _ hy)))
        (by
          intro y hy
          rcases List.mem_append.1 hy with hy | hy
          · exact h.mem.own c _ hlk y (List.mem_cons_of_mem _ (by rw [hO]; exact List.mem_append_left _ hy))
          · rcases List.mem_append.1 hy with hy | hy
            · exact d2 y hy
            · exact h.mem.own c _ hlk y (List.mem_cons_of_mem _ (by rw [hO]; exact List.mem_append_right _ hy)))
      have := putSlots (S := S1) (ch' := .row sz (es.set i ps)) g1 g6 hlk1 rfl (by show (es.set i ps).length = es.length; simp) (Ok := A ++ (Op ++ C)) hOkM hm
      rw [hrow] at this
      exact ⟨_, _, this⟩
  · simp [val_stuck] at e
theorem W_focus {k : List Item} (c i : Nat) (ks : List Kd) {I : Ops} (hI : I = real) (h : ((focusA I c i ks S).out fun S' => .loop [] S').holds (fun _ _ => False) (fun _ S' => W P f fn E R k S') (fun _ _ => False)) : W P f fn E R k S := by
  subst hI
  obtain ⟨S', h1, h2⟩ := _root_.Go.Aix.R.out_holds h
  intro β O a w hr hs
  obtain ⟨β', O', h3⟩ := focus_sound hr h1
  exact h2 β' O' a w h3 hs
theorem W_unfocus {k : List Item} (c : Nat) {S' : St} {I : Ops} (hI : I = real) (e : (unfocusA I c S).val = some S') (h : W P f fn E R k S') : W P f fn E R k S := by
  subst hI
  intro β O a w hr hs
  obtain ⟨β', O', h3⟩ := unfocus_sound hr e
  exact h β' O' a w h3 hs
end
section
open Classical
noncomputable def pO {α : Type} (T : Ty α) : Par (List α) where
  enc l := .one (.pv (.sl true T.sz (mapE T.own l)))
  dec x := match x with
    | .one (.pv (.sl true s es)) => if s = T.sz ∧ es = mapE T.own (T.decs es) then some (T.decs es) else none
    | _ => none
  fit := by
    intro w M env x v a h e
    split at e
    · rename_i s es
      split at e
      · rename_i hs
        cases e
        rw [← hs.1, ← hs.2]
        exact h
      · cases e
    · cases e
theorem pO_dec {α : Type} (T : Ty α) (l : List α) : (pO T).dec (.one (.pv (.sl true T.sz (mapE T.own l)))) = some l := by
  show (if T.sz = T.sz ∧ mapE T.own l = mapE T.own (T.decs (mapE T.own l)) then some (T.decs (mapE T.own l)) else none) = _
  rw [T.decs_own, if_pos ⟨rfl, rfl⟩]
end
section
variable {P : Program}
def markT (I : Ops) (e : En) (sz : Nat) (args : List AV) (σ0 : Store) (n0 : Nat) : R (AV × Store × Nat) := match args with
  | [.one x, y] => match x with
    | .arr 0 0 n => match σ0 with
      | [(0, .row s es)] => match Nat.beq s sz && Nat.beq n0 1 with
        | true => .must (I.neq n (I.len es)) (.must (e.pre [.one (.pv (.sl true s es)), y]) (.ok (.one (.pv (.sc (.int .i64 (e.i 0 [.one (.pv (.sl true s es)), y])))), [(0, .row sz (e.l 0 [.one (.pv (.sl true s es)), y]))], 1)))
        | false => .stuck
      | _ => .stuck
    | .pv p => match p with
      | .nl => match σ0 with
        | [] => match Nat.beq n0 0 with
          | true => match y with
            | .one (.pv (.sc (.int .i64 k))) => .ok (.one (.pv (.sc (.int .i64 k))), [], 0)
            | _ => .stuck
          | false => .stuck
        | _ => .stuck
      | .sl _ _ [] => match σ0 with
        | [] => match Nat.beq n0 0 with
          | true => match y with
            | .one (.pv (.sc (.int .i64 k))) => .ok (.one (.pv (.sc (.int .i64 k))), [], 0)
            | _ => .stuck
          | false => .stuck
        | _ => .stuck
      | _ => .stuck
    | _ => .stuck
  | _ => .stuck
theorem SoundR.markT {α : Type} {T : Ty α} {g : FuncId} {a : An (List α × Int × Unit)} {r : List α → Int → List α} (he : Enters P g) (ha : ∀ t, a.l 0 t = mapE T.own (r t.1 t.2.1))
    (h1 : ∀ (k0 : Int) (l : List α), a.pre (l, k0, ()) = true → OkR P g [.one (.arr 0 0 l.length), .one (.pv (.sc (.int .i64 k0)))] [(0, .row T.sz (mapE T.own l))] 1 (.one (.pv (.sc (.int .i64 (a.i 0 (l, k0, ())))))) [(0, .row T.sz (mapE T.own (r l k0)))] 1)
    (h2 : ∀ (k0 : Int) (p : PV), els p = [] → isNo p = true → OkR P g [.one (.pv p), .one (.pv (.sc (.int .i64 k0)))] [] 0 (.one (.pv (.sc (.int .i64 k0)))) [] 0)
    {I : Ops} (hI : I = real) {e : En} (hk : e = mkE (parsC (pO T) (parsC pI pars0)) a) : SoundR P g (markT I e T.sz) := by
  subst hI hk
  refine ⟨he, fun args σ0 n0 r0 σ n e => ?_⟩
  unfold Aix.markT at e
  split at e
  · rename_i x y
    split at e
    · rename_i m
      split at e
      · rename_i s es
        split at e
        · rename_i hb
          rw [Bool.and_eq_true] at hb
          have hs := beq_eq hb.1
          have hn0 := beq_eq hb.2
          subst hs hn0
          simp only [R.val] at e
          split at e
          · rename_i hm
            split at e
            · rename_i hp
              have hm : m = es.length := of_decide_eq_true hm
              have e := Option.some.inj e
              have hd : ∃ l k0, es = mapE T.own l ∧ y = .one (.pv (.sc (.int .i64 k0))) ∧ (parsC (pO T) (parsC pI pars0)).dec [.one (.pv (.sl true T.sz es)), y] = some (l, k0, ()) := by
                simp only [mkE] at hp
                split at hp
                · rename_i t ht
                  have ht0 := ht
                  simp only [parsC] at ht
                  split at ht
                  · rename_i a0 t0 g1 g2
                    cases ht
                    split at g2
                    · rename_i a1 t1 g3 g4
                      cases g2
                      simp only [pars0] at g4
                      cases g4
                      simp only [pI] at g3
                      split at g3
                      · rename_i k0
                        cases g3
                        simp only [pO] at g1
                        split at g1
                        · rename_i hs
                          cases g1
                          exact ⟨_, _, hs.2, rfl, ht0⟩
                        · cases g1
                      · cases g3
                    · cases g2
                  · cases ht
                · cases hp
              obtain ⟨l, k0, rfl, rfl, hd⟩ := hd
              simp only [mkE, hd] at hp e
              simp only [Prod.mk.injEq] at e
              obtain ⟨rfl, rfl, rfl⟩ := e
              rw [mapE_length] at hm
              subst hm
              rw [ha]
              exact h1 k0 l hp
            · cases e
          · cases e
        · simp [val_stuck] at e
      · simp [val_stuck] at e
    · rename_i p
      split at e
      · split at e
        · split at e
          · rename_i hb
            have hn0 := beq_eq hb
            subst hn0
            split at e
            · simp only [val_ok, Option.some.injEq, Prod.mk.injEq] at e
              obtain ⟨rfl, rfl, rfl⟩ := e
              exact h2 _ _ rfl rfl
            · simp [val_stuck] at e
          · simp [val_stuck] at e
        · simp [val_stuck] at e
      · split at e
        · split at e
          · rename_i hb
            have hn0 := beq_eq hb
            subst hn0
            split at e
            · simp only [val_ok, Option.some.injEq, Prod.mk.injEq] at e
              obtain ⟨rfl, rfl, rfl⟩ := e
              exact h2 _ _ rfl rfl
            · simp [val_stuck] at e
          · simp [val_stuck] at e
        · simp [val_stuck] at e
      · simp [val_stuck] at e
    · simp [val_stuck] at e
  · simp [val_stuck] at e
end
theorem r_isNo (u : Bool) (s : Nat) (es : List (List PV)) : real.isNo (.sl u s es) = decide (es.length = 0) := by
  cases es with
  | nil => rfl
  | cons => rfl
theorem r_isOwn (s : Nat) (es : List (List PV)) : real.isOwn s (.sl true s es) = decide (0 < es.length) := by
  cases es with
  | nil => rfl
  | cons => exact Nat.beq_refl s
end Go.Aix
/-
  THE CALCULUS: what is said in plain forms by itself.
-/
namespace Go.Aix
attribute [simp] r_purI r_purB r_purC wrap_id r_eql r_neq r_lss r_leq r_gtr r_geq r_add r_sub
attribute [simp] r_mul r_ofn r_len r_inb r_inle r_nle r_ne r_tn r_nadd r_nsub r_bnot r_conv
attribute [simp] r_beq r_mn r_mx r_els r_isShF r_isNo r_isOwn r_setset r_app r_ext1 r_ext2 r_ext5
attribute [simp] pL_nl parsC_dec pars0_dec pI_dec pU8_dec pB_dec mkE_pre mkE_i mkE_b mkE_l Ty.encs_nil mapE_length
attribute [simp] mapE_ext tI64_rd tI64_is tU8_rd tU8_is tL_rd tL_is Ty.encs_length Ty.ext_encs Ty.downs_real Ty.deads_real Ty.app_encs
attribute [simp] pL_I64 pL_U8 tNode_pur_own tNode_odowns tNode_eta pL_Node tNode_dec tNode_rd0 tNode_is0 tNode_ord0 tNode_ois0 tNode_rd1
attribute [simp] tNode_is1 tNode_ord1 tNode_ois1 tNode_rd2 tNode_is2 tNode_ord2 tNode_ois2 tNode_rd3 tNode_is3 tNode_ord3 tNode_ois3 tNode_rd4
attribute [simp] tNode_is4 tNode_ord4 tNode_ois4 tNode_rd5 tNode_is5 tNode_ord5 tNode_ois5 tNode_rd6 tNode_is6 tNode_ord6 
attribute [simp] tEntry_pur_own tEntry_odowns
attribute [simp] tEntry_eta pL_Entry tEntry_dec tEntry_rd0 tEntry_is0 tEntry_ord0 tEntry_rd1 tEntry_is1 tEntry_ord1 tEntry_ois1 tCount_pur_own tCount_odowns
attribute [simp] tCount_eta pL_Count tCount_dec tCount_rd0 tCount_is0 tCount_ord0 tCount_ois0 tCount_rd1 tCount_is1 tCount_ord1 tCount_ois1 tCount_rd2
attribute [simp] tCount_is2 tCount_ord2 tCount_ois2 tBatch_pur_own tBatch_odowns tBatch_eta pL_Batch tBatch_dec tBatch_rd0 tBatch_is0 tBatch_ord0 tBatch_ois0
attribute [simp] tBatch_rd1 tBatch_is1 tBatch_ord1 tBatch_ois1 tBatch_rd2 tBatch_is2 tBatch_ord2 tFrame_pur_own tFrame_odowns tFrame_eta pL_Frame tFrame_dec
attribute [simp] tFrame_rd0 tFrame_is0 tFrame_ord0 tFrame_ois0 tFrame_rd1 tFrame_is1 tFrame_ord1 tFrame_ois1 tFrame_rd2 tFrame_is2 tFrame_ord2 tFrame_ois2
attribute [simp] tFrame_rd3 tFrame_is3 tFrame_ord3 tFrame_ois3 tFrame_rd4 tFrame_is4 tFrame_ord4 tFrame_rd5 tFrame_is5 tFrame_ord5 tHeld_pur_own tHeld_odowns
attribute [simp] tHeld_eta pL_Held tHeld_dec tHeld_rd0 tHeld_is0 tHeld_ord0 tHeld_rd1 tHeld_is1 tHeld_ord1 tHeld_rd2 tHeld_is2 tHeld_ord2
attribute [simp] tHeld_rd3 tHeld_is3 tHeld_ord3 tHeld_ois3 tRelease_pur_own tRelease_odowns tRelease_eta pL_Release tRelease_dec tRelease_rd0 tRelease_is0 tRelease_ord0
attribute [simp] tRelease_ois0 tRelease_rd1 tRelease_is1 tRelease_ord1 tRelease_ois1 tRelease_rd2 tRelease_is2 tRelease_ord2 tWorker_pur_own tWorker_odowns tWorker_eta pL_Worker
attribute [simp] tWorker_dec tWorker_rd0 tWorker_is0 tWorker_ord0 tWorker_rd1 tWorker_is1 tWorker_ord1 tWorker_rd2 tWorker_is2 tWorker_ord2 tWorker_rd3 tWorker_is3
attribute [simp] tWorker_ord3 tWorker_ois3 tWorker_rd4 tWorker_is4 tWorker_ord4 tWorker_ois4 tWorker_rd5 tWorker_is5 tWorker_ord5 tWorker_rd6 tWorker_is6 tWorker_ord6
attribute [simp] tWorker_ois6 tCluster_pur_own tCluster_odowns tCluster_eta pL_Cluster tCluster_dec tCluster_rd0 tCluster_is0 tCluster_ord0 tCluster_rd1 tCluster_is1 tCluster_ord1
attribute [simp] tCluster_rd2 tCluster_is2 tCluster_ord2
end Go.Aix
/- Rows as elements (written by gentypes.py). -/
namespace Go.Aix
end Go.Aix
