/-
  THE STRUCTS OF THE PROGRAM, AS LEAN TYPES (written by gentypes.py).
-/
import Derived.Test.YtafdnkachndacaaAixGlue
set_option linter.unusedSimpArgs false
set_option linter.unusedVariables false
namespace Go.Aix
structure NodeV where
  op : Int
  a : Int
  b : Int
  col : Int
  test : Int
  value : Int
  cells : List Int
  deriving DecidableEq, Inhabited
def tNode : Ty NodeV where
  sz := 7
  enc x := [.sc (.int .i64 x.op), .sc (.int .i64 x.a), .sc (.int .i64 x.b), .sc (.int .i64 x.col), .sc (.int .i64 x.test), .sc (.int .i64 x.value), .sl false tI64.sz (tI64.encs x.cells)]
  dec ps := ⟨pInt (at0 ps 0), pInt (at0 ps 1), pInt (at0 ps 2), pInt (at0 ps 3), pInt (at0 ps 4), pInt (at0 ps 5), tI64.decs (els (at0 ps 6))⟩
  ok ps := match ps with
    | [q0, q1, q2, q3, q4, q5, q6] => (isPInt .i64 q0) && (isPInt .i64 q1) && (isPInt .i64 q2) && (isPInt .i64 q3) && (isPInt .i64 q4) && (isPInt .i64 q5) && (tI64.okP q6)
    | _ => false
  len _ := rfl
  fit := by
    intro w M ps vs h e
    split at e
    · simp only [Bool.and_eq_true] at e
      obtain ⟨⟨⟨⟨⟨⟨e0, e1⟩, e2⟩, e3⟩, e4⟩, e5⟩, e6⟩ := e
      obtain ⟨v0, _, rfl, h0, h⟩ := h.inv
      obtain ⟨v1, _, rfl, h1, h⟩ := h.inv
      obtain ⟨v2, _, rfl, h2, h⟩ := h.inv
      obtain ⟨v3, _, rfl, h3, h⟩ := h.inv
      obtain ⟨v4, _, rfl, h4, h⟩ := h.inv
      obtain ⟨v5, _, rfl, h5, h⟩ := h.inv
      obtain ⟨v6, _, rfl, h6, h⟩ := h.inv
      exact .mk (fitI h0 e0) (.mk (fitI h1 e1) (.mk (fitI h2 e2) (.mk (fitI h3 e3) (.mk (fitI h4 e4) (.mk (fitI h5 e5) (.mk (tI64.fitP h6 e6) (h)))))))
    · cases e
  dec_enc x := by simp [at0, pInt, pBool, els, Ty.decs_encs]
  ok_enc x := by simp [isPInt, isPBool, Ty.okP_mk]
  down x := by simp [downc, PV.down, Ty.downs_encs]
/-- Made anew: its slices are its own. -/
def tNode_own (x : NodeV) : List PV := [.sc (.int .i64 x.op), .sc (.int .i64 x.a), .sc (.int .i64 x.b), .sc (.int .i64 x.col), .sc (.int .i64 x.test), .sc (.int .i64 x.value), .sl true 1 (tI64.encs x.cells)]
theorem tNode_odown (x : NodeV) : downc (tNode_own x) = tNode.enc x := by simp [tNode_own, tNode, downc, PV.down, Ty.downs_encs]; try rfl
theorem tNode_sz : tNode.sz = 7 := rfl
theorem tNode_rd0 (l : List NodeV) (i : Nat) : real.asInt (real.nthd (tNode.encs l) i 0) = (nth l i).op := by
  by_cases h : i < l.length
  · rw [tNode.nthd_encs 0 h]; rfl
  · rw [tNode.nthd_out 0 h]; simp [nth, h]; rfl
theorem tNode_is0 {l : List NodeV} {i : Nat} (h : i < l.length) : real.isInt .i64 (real.nthd (tNode.encs l) i 0) = true := by
  rw [tNode.nthd_encs 0 h]; rfl
theorem tNode_rd1 (l : List NodeV) (i : Nat) : real.asInt (real.nthd (tNode.encs l) i 1) = (nth l i).a := by
  by_cases h : i < l.length
  · rw [tNode.nthd_encs 1 h]; rfl
  · rw [tNode.nthd_out 1 h]; simp [nth, h]; rfl
theorem tNode_is1 {l : List NodeV} {i : Nat} (h : i < l.length) : real.isInt .i64 (real.nthd (tNode.encs l) i 1) = true := by
  rw [tNode.nthd_encs 1 h]; rfl
theorem tNode_rd2 (l : List NodeV) (i : Nat) : real.asInt (real.nthd (tNode.encs l) i 2) = (nth l i).b := by
  by_cases h : i < l.length
  · rw [tNode.nthd_encs 2 h]; rfl
  · rw [tNode.nthd_out 2 h]; simp [nth, h]; rfl
theorem tNode_is2 {l : List NodeV} {i : Nat} (h : i < l.length) : real.isInt .i64 (real.nthd (tNode.encs l) i 2) = true := by
  rw [tNode.nthd_encs 2 h]; rfl
theorem tNode_rd3 (l : List NodeV) (i : Nat) : real.asInt (real.nthd (tNode.encs l) i 3) = (nth l i).col := by
  by_cases h : i < l.length
  · rw [tNode.nthd_encs 3 h]; rfl
  · rw [tNode.nthd_out 3 h]; simp [nth, h]; rfl
theorem tNode_is3 {l : List NodeV} {i : Nat} (h : i < l.length) : real.isInt .i64 (real.nthd (tNode.encs l) i 3) = true := by
  rw [tNode.nthd_encs 3 h]; rfl
theorem tNode_rd4 (l : List NodeV) (i : Nat) : real.asInt (real.nthd (tNode.encs l) i 4) = (nth l i).test := by
  by_cases h : i < l.length
  · rw [tNode.nthd_encs 4 h]; rfl
  · rw [tNode.nthd_out 4 h]; simp [nth, h]; rfl
theorem tNode_is4 {l : List NodeV} {i : Nat} (h : i < l.length) : real.isInt .i64 (real.nthd (tNode.encs l) i 4) = true := by
  rw [tNode.nthd_encs 4 h]; rfl
theorem tNode_rd5 (l : List NodeV) (i : Nat) : real.asInt (real.nthd (tNode.encs l) i 5) = (nth l i).value := by
  by_cases h : i < l.length
  · rw [tNode.nthd_encs 5 h]; rfl
  · rw [tNode.nthd_out 5 h]; simp [nth, h]; rfl
theorem tNode_is5 {l : List NodeV} {i : Nat} (h : i < l.length) : real.isInt .i64 (real.nthd (tNode.encs l) i 5) = true := by
  rw [tNode.nthd_encs 5 h]; rfl
theorem tNode_rd6 (l : List NodeV) (i : Nat) : real.els (real.nthd (tNode.encs l) i 6) = tI64.encs (nth l i).cells := by
  by_cases h : i < l.length
  · rw [tNode.nthd_encs 6 h]; exact Ty.downs_encs _ _
  · rw [tNode.nthd_out 6 h]; simp [nth, h]; rfl
theorem tNode_is6 {l : List NodeV} {i : Nat} (h : i < l.length) : real.isSl 1 (real.nthd (tNode.encs l) i 6) = true := by
  rw [tNode.nthd_encs 6 h]; exact Nat.beq_refl _
theorem tNode_dec (x0 : Int) (x1 : Int) (x2 : Int) (x3 : Int) (x4 : Int) (x5 : Int) (u6 : Bool) (x6 : List Int) : (pS tNode).dec (.ag [.pv (.sc (.int .i64 x0)), .pv (.sc (.int .i64 x1)), .pv (.sc (.int .i64 x2)), .pv (.sc (.int .i64 x3)), .pv (.sc (.int .i64 x4)), .pv (.sc (.int .i64 x5)), .pv (.sl u6 1 (tI64.encs x6))]) = some ⟨x0, x1, x2, x3, x4, x5, x6⟩ := by
  show (if tNode.ok _ = true ∧ Nat.beq _ tNode.sz = true then _ else _) = _
  rw [if_pos ⟨by simp only [tNode, isPInt, isPBool, decide_true, Bool.true_and, Bool.and_true]; first | exact Ty.okP_mk _ _ _ | (simp only [Bool.and_eq_true]; refine ⟨?_, ?_⟩ <;> exact Ty.okP_mk _ _ _), rfl⟩]
  simp [tNode, at0, pInt, pBool, els, Ty.decs_encs]
theorem pL_Node (u : Bool) (l : List NodeV) : (pL tNode).dec (.one (.pv (.sl u 7 (tNode.encs l)))) = some l := pL_dec tNode u l
theorem tNode_eta (x : NodeV) : NodeV.mk x.op x.a x.b x.col x.test x.value x.cells = x := rfl
def gNode (x : NodeV) : Prop := inI64 x.op ∧ inI64 x.a ∧ inI64 x.b ∧ inI64 x.col ∧ inI64 x.test ∧ inI64 x.value ∧ gL inI64 x.cells
theorem fit_Node {P : Program} {t t0 t1 t2 t3 t4 t5 t6 : TypeId} (hn : P.cellsOf t = 7) (f0 : fldOk P t 0 t0 = true) (u0 : P.underlying t0 = some (.int .i64)) (f1 : fldOk P t 1 t1 = true) (u1 : P.underlying t1 = some (.int .i64)) (f2 : fldOk P t 2 t2 = true) (u2 : P.underlying t2 = some (.int .i64)) (f3 : fldOk P t 3 t3 = true) (u3 : P.underlying t3 = some (.int .i64)) (f4 : fldOk P t 4 t4 = true) (u4 : P.underlying t4 = some (.int .i64)) (f5 : fldOk P t 5 t5 = true) (u5 : P.underlying t5 = some (.int .i64)) (f6 : fldOk P t 6 t6 = true) {e6 : TypeId} (u6 : P.underlying t6 = some (.slice e6)) (c6 : P.cellsOf e6 = tI64.sz) (k6 : TrodFit P tI64 inI64 e6) : TrodFit P tNode gNode t := by
  intro H enc w spare held fuel cs d p h
  have hl := trod_len f0 hn h
  obtain ⟨n0, d0, p0, h0⟩ := trod_fld f0 h
  obtain ⟨n1, d1, p1, h1⟩ := trod_fld f1 h
  obtain ⟨n2, d2, p2, h2⟩ := trod_fld f2 h
  obtain ⟨n3, d3, p3, h3⟩ := trod_fld f3 h
  obtain ⟨n4, d4, p4, h4⟩ := trod_fld f4 h
  obtain ⟨n5, d5, p5, h5⟩ := trod_fld f5 h
  obtain ⟨n6, d6, p6, h6⟩ := trod_fld f6 h
  match cs, hl with
  | [v0, v1, v2, v3, v4, v5, v6], _ =>
    simp only [List.drop_succ_cons, List.drop_zero, List.take_succ_cons, List.take_zero] at h0
    obtain ⟨a0, j0, w0⟩ := trod_i64 u0 h0
    cases j0
    simp only [List.drop_succ_cons, List.drop_zero, List.take_succ_cons, List.take_zero] at h1
    obtain ⟨a1, j1, w1⟩ := trod_i64 u1 h1
    cases j1
    simp only [List.drop_succ_cons, List.drop_zero, List.take_succ_cons, List.take_zero] at h2
    obtain ⟨a2, j2, w2⟩ := trod_i64 u2 h2
    cases j2
    simp only [List.drop_succ_cons, List.drop_zero, List.take_succ_cons, List.take_zero] at h3
    obtain ⟨a3, j3, w3⟩ := trod_i64 u3 h3
    cases j3
    simp only [List.drop_succ_cons, List.drop_zero, List.take_succ_cons, List.take_zero] at h4
    obtain ⟨a4, j4, w4⟩ := trod_i64 u4 h4
    cases j4
    simp only [List.drop_succ_cons, List.drop_zero, List.take_succ_cons, List.take_zero] at h5
    obtain ⟨a5, j5, w5⟩ := trod_i64 u5 h5
    cases j5
    simp only [List.drop_succ_cons, List.drop_zero, List.take_succ_cons, List.take_zero] at h6
    obtain ⟨a6, _, j6, w6, r6⟩ := trod_slice u6 c6 (Nat.zero_lt_one) k6 h6
    cases j6
    exact ⟨⟨a0, a1, a2, a3, a4, a5, a6⟩, ⟨wf_i64 w0, wf_i64 w1, wf_i64 w2, wf_i64 w3, wf_i64 w4, wf_i64 w5, w6⟩, .mk (.sc rfl) (.mk (.sc rfl) (.mk (.sc rfl) (.mk (.sc rfl) (.mk (.sc rfl) (.mk (.sc rfl) (.mk (r6) (.nil)))))))⟩
structure PutV where
  worker : Int
  input : Int
  epoch : Int
  row : List Int
  weight : Int
  deriving DecidableEq, Inhabited
def tPut : Ty PutV where
  sz := 5
  enc x := [.sc (.int .i64 x.worker), .sc (.int .i64 x.input), .sc (.int .i64 x.epoch), .sl false tI64.sz (tI64.encs x.row), .sc (.int .i64 x.weight)]
  dec ps := ⟨pInt (at0 ps 0), pInt (at0 ps 1), pInt (at0 ps 2), tI64.decs (els (at0 ps 3)), pInt (at0 ps 4)⟩
  ok ps := match ps with
    | [q0, q1, q2, q3, q4] => (isPInt .i64 q0) && (isPInt .i64 q1) && (isPInt .i64 q2) && (tI64.okP q3) && (isPInt .i64 q4)
    | _ => false
  len _ := rfl
  fit := by
    intro w M ps vs h e
    split at e
    · simp only [Bool.and_eq_true] at e
      obtain ⟨⟨⟨⟨e0, e1⟩, e2⟩, e3⟩, e4⟩ := e
      obtain ⟨v0, _, rfl, h0, h⟩ := h.inv
      obtain ⟨v1, _, rfl, h1, h⟩ := h.inv
      obtain ⟨v2, _, rfl, h2, h⟩ := h.inv
      obtain ⟨v3, _, rfl, h3, h⟩ := h.inv
      obtain ⟨v4, _, rfl, h4, h⟩ := h.inv
      exact .mk (fitI h0 e0) (.mk (fitI h1 e1) (.mk (fitI h2 e2) (.mk (tI64.fitP h3 e3) (.mk (fitI h4 e4) (h)))))
    · cases e
  dec_enc x := by simp [at0, pInt, pBool, els, Ty.decs_encs]
  ok_enc x := by simp [isPInt, isPBool, Ty.okP_mk]
  down x := by simp [downc, PV.down, Ty.downs_encs]
/-- Made anew: its slices are its own. -/
def tPut_own (x : PutV) : List PV := [.sc (.int .i64 x.worker), .sc (.int .i64 x.input), .sc (.int .i64 x.epoch), .sl true 1 (tI64.encs x.row), .sc (.int .i64 x.weight)]
theorem tPut_odown (x : PutV) : downc (tPut_own x) = tPut.enc x := by simp [tPut_own, tPut, downc, PV.down, Ty.downs_encs]; try rfl
theorem tPut_sz : tPut.sz = 5 := rfl
theorem tPut_rd0 (l : List PutV) (i : Nat) : real.asInt (real.nthd (tPut.encs l) i 0) = (nth l i).worker := by
  by_cases h : i < l.length
  · rw [tPut.nthd_encs 0 h]; rfl
  · rw [tPut.nthd_out 0 h]; simp [nth, h]; rfl
theorem tPut_is0 {l : List PutV} {i : Nat} (h : i < l.length) : real.isInt .i64 (real.nthd (tPut.encs l) i 0) = true := by
  rw [tPut.nthd_encs 0 h]; rfl
theorem tPut_rd1 (l : List PutV) (i : Nat) : real.asInt (real.nthd (tPut.encs l) i 1) = (nth l i).input := by
  by_cases h : i < l.length
  · rw [tPut.nthd_encs 1 h]; rfl
  · rw [tPut.nthd_out 1 h]; simp [nth, h]; rfl
theorem tPut_is1 {l : List PutV} {i : Nat} (h : i < l.length) : real.isInt .i64 (real.nthd (tPut.encs l) i 1) = true := by
  rw [tPut.nthd_encs 1 h]; rfl
theorem tPut_rd2 (l : List PutV) (i : Nat) : real.asInt (real.nthd (tPut.encs l) i 2) = (nth l i).epoch := by
  by_cases h : i < l.length
  · rw [tPut.nthd_encs 2 h]; rfl
  · rw [tPut.nthd_out 2 h]; simp [nth, h]; rfl
theorem tPut_is2 {l : List PutV} {i : Nat} (h : i < l.length) : real.isInt .i64 (real.nthd (tPut.encs l) i 2) = true := by
  rw [tPut.nthd_encs 2 h]; rfl
theorem tPut_rd3 (l : List PutV) (i : Nat) : real.els (real.nthd (tPut.encs l) i 3) = tI64.encs (nth l i).row := by
  by_cases h : i < l.length
  · rw [tPut.nthd_encs 3 h]; exact Ty.downs_encs _ _
  · rw [tPut.nthd_out 3 h]; simp [nth, h]; rfl
theorem tPut_is3 {l : List PutV} {i : Nat} (h : i < l.length) : real.isSl 1 (real.nthd (tPut.encs l) i 3) = true := by
  rw [tPut.nthd_encs 3 h]; exact Nat.beq_refl _
theorem tPut_rd4 (l : List PutV) (i : Nat) : real.asInt (real.nthd (tPut.encs l) i 4) = (nth l i).weight := by
  by_cases h : i < l.length
  · rw [tPut.nthd_encs 4 h]; rfl
  · rw [tPut.nthd_out 4 h]; simp [nth, h]; rfl
theorem tPut_is4 {l : List PutV} {i : Nat} (h : i < l.length) : real.isInt .i64 (real.nthd (tPut.encs l) i 4) = true := by
  rw [tPut.nthd_encs 4 h]; rfl
theorem tPut_dec (x0 : Int) (x1 : Int) (x2 : Int) (u3 : Bool) (x3 : List Int) (x4 : Int) : (pS tPut).dec (.ag [.pv (.sc (.int .i64 x0)), .pv (.sc (.int .i64 x1)), .pv (.sc (.int .i64 x2)), .pv (.sl u3 1 (tI64.encs x3)), .pv (.sc (.int .i64 x4))]) = some ⟨x0, x1, x2, x3, x4⟩ := by
  show (if tPut.ok _ = true ∧ Nat.beq _ tPut.sz = true then _ else _) = _
  rw [if_pos ⟨by simp only [tPut, isPInt, isPBool, decide_true, Bool.true_and, Bool.and_true]; first | exact Ty.okP_mk _ _ _ | (simp only [Bool.and_eq_true]; refine ⟨?_, ?_⟩ <;> exact Ty.okP_mk _ _ _), rfl⟩]
  simp [tPut, at0, pInt, pBool, els, Ty.decs_encs]
theorem pL_Put (u : Bool) (l : List PutV) : (pL tPut).dec (.one (.pv (.sl u 5 (tPut.encs l)))) = some l := pL_dec tPut u l
theorem tPut_eta (x : PutV) : PutV.mk x.worker x.input x.epoch x.row x.weight = x := rfl
def gPut (x : PutV) : Prop := inI64 x.worker ∧ inI64 x.input ∧ inI64 x.epoch ∧ gL inI64 x.row ∧ inI64 x.weight
theorem fit_Put {P : Program} {t t0 t1 t2 t3 t4 : TypeId} (hn : P.cellsOf t = 5) (f0 : fldOk P t 0 t0 = true) (u0 : P.underlying t0 = some (.int .i64)) (f1 : fldOk P t 1 t1 = true) (u1 : P.underlying t1 = some (.int .i64)) (f2 : fldOk P t 2 t2 = true) (u2 : P.underlying t2 = some (.int .i64)) (f3 : fldOk P t 3 t3 = true) {e3 : TypeId} (u3 : P.underlying t3 = some (.slice e3)) (c3 : P.cellsOf e3 = tI64.sz) (k3 : TrodFit P tI64 inI64 e3) (f4 : fldOk P t 4 t4 = true) (u4 : P.underlying t4 = some (.int .i64)) : TrodFit P tPut gPut t := by
  intro H enc w spare held fuel cs d p h
  have hl := trod_len f0 hn h
  obtain ⟨n0, d0, p0, h0⟩ := trod_fld f0 h
  obtain ⟨n1, d1, p1, h1⟩ := trod_fld f1 h
  obtain ⟨n2, d2, p2, h2⟩ := trod_fld f2 h
  obtain ⟨n3, d3, p3, h3⟩ := trod_fld f3 h
  obtain ⟨n4, d4, p4, h4⟩ := trod_fld f4 h
  match cs, hl with
  | [v0, v1, v2, v3, v4], _ =>
    simp only [List.drop_succ_cons, List.drop_zero, List.take_succ_cons, List.take_zero] at h0
    obtain ⟨a0, j0, w0⟩ := trod_i64 u0 h0
    cases j0
    simp only [List.drop_succ_cons, List.drop_zero, List.take_succ_cons, List.take_zero] at h1
    obtain ⟨a1, j1, w1⟩ := trod_i64 u1 h1
    cases j1
    simp only [List.drop_succ_cons, List.drop_zero, List.take_succ_cons, List.take_zero] at h2
    obtain ⟨a2, j2, w2⟩ := trod_i64 u2 h2
    cases j2
    simp only [List.drop_succ_cons, List.drop_zero, List.take_succ_cons, List.take_zero] at h3
    obtain ⟨a3, _, j3, w3, r3⟩ := trod_slice u3 c3 (Nat.zero_lt_one) k3 h3
    cases j3
    simp only [List.drop_succ_cons, List.drop_zero, List.take_succ_cons, List.take_zero] at h4
    obtain ⟨a4, j4, w4⟩ := trod_i64 u4 h4
    cases j4
    exact ⟨⟨a0, a1, a2, a3, a4⟩, ⟨wf_i64 w0, wf_i64 w1, wf_i64 w2, w3, wf_i64 w4⟩, .mk (.sc rfl) (.mk (.sc rfl) (.mk (.sc rfl) (.mk (r3) (.mk (.sc rfl) (.nil)))))⟩
structure EntryV where
  row : List Int
  weight : Int
  deriving DecidableEq, Inhabited
def tEntry : Ty EntryV where
  sz := 2
  enc x := [.sl false tI64.sz (tI64.encs x.row), .sc (.int .i64 x.weight)]
  dec ps := ⟨tI64.decs (els (at0 ps 0)), pInt (at0 ps 1)⟩
  ok ps := match ps with
    | [q0, q1] => (tI64.okP q0) && (isPInt .i64 q1)
    | _ => false
  len _ := rfl
  fit := by
    intro w M ps vs h e
    split at e
    · simp only [Bool.and_eq_true] at e
      obtain ⟨e0, e1⟩ := e
      obtain ⟨v0, _, rfl, h0, h⟩ := h.inv
      obtain ⟨v1, _, rfl, h1, h⟩ := h.inv
      exact .mk (tI64.fitP h0 e0) (.mk (fitI h1 e1) (h))
    · cases e
  dec_enc x := by simp [at0, pInt, pBool, els, Ty.decs_encs]
  ok_enc x := by simp [isPInt, isPBool, Ty.okP_mk]
  down x := by simp [downc, PV.down, Ty.downs_encs]
/-- Made anew: its slices are its own. -/
def tEntry_own (x : EntryV) : List PV := [.sl true 1 (tI64.encs x.row), .sc (.int .i64 x.weight)]
theorem tEntry_odown (x : EntryV) : downc (tEntry_own x) = tEntry.enc x := by simp [tEntry_own, tEntry, downc, PV.down, Ty.downs_encs]; try rfl
theorem tEntry_sz : tEntry.sz = 2 := rfl
theorem tEntry_rd0 (l : List EntryV) (i : Nat) : real.els (real.nthd (tEntry.encs l) i 0) = tI64.encs (nth l i).row := by
  by_cases h : i < l.length
  · rw [tEntry.nthd_encs 0 h]; exact Ty.downs_encs _ _
  · rw [tEntry.nthd_out 0 h]; simp [nth, h]; rfl
theorem tEntry_is0 {l : List EntryV} {i : Nat} (h : i < l.length) : real.isSl 1 (real.nthd (tEntry.encs l) i 0) = true := by
  rw [tEntry.nthd_encs 0 h]; exact Nat.beq_refl _
theorem tEntry_rd1 (l : List EntryV) (i : Nat) : real.asInt (real.nthd (tEntry.encs l) i 1) = (nth l i).weight := by
  by_cases h : i < l.length
  · rw [tEntry.nthd_encs 1 h]; rfl
  · rw [tEntry.nthd_out 1 h]; simp [nth, h]; rfl
theorem tEntry_is1 {l : List EntryV} {i : Nat} (h : i < l.length) : real.isInt .i64 (real.nthd (tEntry.encs l) i 1) = true := by
  rw [tEntry.nthd_encs 1 h]; rfl
theorem tEntry_dec (u0 : Bool) (x0 : List Int) (x1 : Int) : (pS tEntry).dec (.ag [.pv (.sl u0 1 (tI64.encs x0)), .pv (.sc (.int .i64 x1))]) = some ⟨x0, x1⟩ := by
  show (if tEntry.ok _ = true ∧ Nat.beq _ tEntry.sz = true then _ else _) = _
  rw [if_pos ⟨by simp only [tEntry, isPInt, isPBool, decide_true, Bool.true_and, Bool.and_true]; first | exact Ty.okP_mk _ _ _ | (simp only [Bool.and_eq_true]; refine ⟨?_, ?_⟩ <;> exact Ty.okP_mk _ _ _), rfl⟩]
  simp [tEntry, at0, pInt, pBool, els, Ty.decs_encs]
theorem pL_Entry (u : Bool) (l : List EntryV) : (pL tEntry).dec (.one (.pv (.sl u 2 (tEntry.encs l)))) = some l := pL_dec tEntry u l
theorem tEntry_eta (x : EntryV) : EntryV.mk x.row x.weight = x := rfl
def gEntry (x : EntryV) : Prop := gL inI64 x.row ∧ inI64 x.weight
theorem fit_Entry {P : Program} {t t0 t1 : TypeId} (hn : P.cellsOf t = 2) (f0 : fldOk P t 0 t0 = true) {e0 : TypeId} (u0 : P.underlying t0 = some (.slice e0)) (c0 : P.cellsOf e0 = tI64.sz) (k0 : TrodFit P tI64 inI64 e0) (f1 : fldOk P t 1 t1 = true) (u1 : P.underlying t1 = some (.int .i64)) : TrodFit P tEntry gEntry t := by
  intro H enc w spare held fuel cs d p h
  have hl := trod_len f0 hn h
  obtain ⟨n0, d0, p0, h0⟩ := trod_fld f0 h
  obtain ⟨n1, d1, p1, h1⟩ := trod_fld f1 h
  match cs, hl with
  | [v0, v1], _ =>
    simp only [List.drop_succ_cons, List.drop_zero, List.take_succ_cons, List.take_zero] at h0
    obtain ⟨a0, _, j0, w0, r0⟩ := trod_slice u0 c0 (Nat.zero_lt_one) k0 h0
    cases j0
    simp only [List.drop_succ_cons, List.drop_zero, List.take_succ_cons, List.take_zero] at h1
    obtain ⟨a1, j1, w1⟩ := trod_i64 u1 h1
    cases j1
    exact ⟨⟨a0, a1⟩, ⟨w0, wf_i64 w1⟩, .mk (r0) (.mk (.sc rfl) (.nil))⟩
structure CountV where
  place : Int
  epoch : Int
  n : Int
  deriving DecidableEq, Inhabited
def tCount : Ty CountV where
  sz := 3
  enc x := [.sc (.int .i64 x.place), .sc (.int .i64 x.epoch), .sc (.int .i64 x.n)]
  dec ps := ⟨pInt (at0 ps 0), pInt (at0 ps 1), pInt (at0 ps 2)⟩
  ok ps := match ps with
    | [q0, q1, q2] => (isPInt .i64 q0) && (isPInt .i64 q1) && (isPInt .i64 q2)
    | _ => false
  len _ := rfl
  fit := by
    intro w M ps vs h e
    split at e
    · simp only [Bool.and_eq_true] at e
      obtain ⟨⟨e0, e1⟩, e2⟩ := e
      obtain ⟨v0, _, rfl, h0, h⟩ := h.inv
      obtain ⟨v1, _, rfl, h1, h⟩ := h.inv
      obtain ⟨v2, _, rfl, h2, h⟩ := h.inv
      exact .mk (fitI h0 e0) (.mk (fitI h1 e1) (.mk (fitI h2 e2) (h)))
    · cases e
  dec_enc x := by simp [at0, pInt, pBool, els, Ty.decs_encs]
  ok_enc x := by simp [isPInt, isPBool, Ty.okP_mk]
  down x := by simp [downc, PV.down, Ty.downs_encs]
/-- Made anew: its slices are its own. -/
def tCount_own (x : CountV) : List PV := [.sc (.int .i64 x.place), .sc (.int .i64 x.epoch), .sc (.int .i64 x.n)]
theorem tCount_odown (x : CountV) : downc (tCount_own x) = tCount.enc x := by simp [tCount_own, tCount, downc, PV.down, Ty.downs_encs]; try rfl
theorem tCount_sz : tCount.sz = 3 := rfl
theorem tCount_rd0 (l : List CountV) (i : Nat) : real.asInt (real.nthd (tCount.encs l) i 0) = (nth l i).place := by
  by_cases h : i < l.length
  · rw [tCount.nthd_encs 0 h]; rfl
  · rw [tCount.nthd_out 0 h]; simp [nth, h]; rfl
theorem tCount_is0 {l : List CountV} {i : Nat} (h : i < l.length) : real.isInt .i64 (real.nthd (tCount.encs l) i 0) = true := by
  rw [tCount.nthd_encs 0 h]; rfl
theorem tCount_rd1 (l : List CountV) (i : Nat) : real.asInt (real.nthd (tCount.encs l) i 1) = (nth l i).epoch := by
  by_cases h : i < l.length
  · rw [tCount.nthd_encs 1 h]; rfl
  · rw [tCount.nthd_out 1 h]; simp [nth, h]; rfl
theorem tCount_is1 {l : List CountV} {i : Nat} (h : i < l.length) : real.isInt .i64 (real.nthd (tCount.encs l) i 1) = true := by
  rw [tCount.nthd_encs 1 h]; rfl
theorem tCount_rd2 (l : List CountV) (i : Nat) : real.asInt (real.nthd (tCount.encs l) i 2) = (nth l i).n := by
  by_cases h : i < l.length
  · rw [tCount.nthd_encs 2 h]; rfl
  · rw [tCount.nthd_out 2 h]; simp [nth, h]; rfl
theorem tCount_is2 {l : List CountV} {i : Nat} (h : i < l.length) : real.isInt .i64 (real.nthd (tCount.encs l) i 2) = true := by
  rw [tCount.nthd_encs 2 h]; rfl
theorem tCount_dec (x0 : Int) (x1 : Int) (x2 : Int) : (pS tCount).dec (.ag [.pv (.sc (.int .i64 x0)), .pv (.sc (.int .i64 x1)), .pv (.sc (.int .i64 x2))]) = some ⟨x0, x1, x2⟩ := by
  rfl
theorem pL_Count (u : Bool) (l : List CountV) : (pL tCount).dec (.one (.pv (.sl u 3 (tCount.encs l)))) = some l := pL_dec tCount u l
theorem tCount_eta (x : CountV) : CountV.mk x.place x.epoch x.n = x := rfl
def gCount (x : CountV) : Prop := inI64 x.place ∧ inI64 x.epoch ∧ inI64 x.n
theorem fit_Count {P : Program} {t t0 t1 t2 : TypeId} (hn : P.cellsOf t = 3) (f0 : fldOk P t 0 t0 = true) (u0 : P.underlying t0 = some (.int .i64)) (f1 : fldOk P t 1 t1 = true) (u1 : P.underlying t1 = some (.int .i64)) (f2 : fldOk P t 2 t2 = true) (u2 : P.underlying t2 = some (.int .i64)) : TrodFit P tCount gCount t := by
  intro H enc w spare held fuel cs d p h
  have hl := trod_len f0 hn h
  obtain ⟨n0, d0, p0, h0⟩ := trod_fld f0 h
  obtain ⟨n1, d1, p1, h1⟩ := trod_fld f1 h
  obtain ⟨n2, d2, p2, h2⟩ := trod_fld f2 h
  match cs, hl with
  | [v0, v1, v2], _ =>
    simp only [List.drop_succ_cons, List.drop_zero, List.take_succ_cons, List.take_zero] at h0
    obtain ⟨a0, j0, w0⟩ := trod_i64 u0 h0
    cases j0
    simp only [List.drop_succ_cons, List.drop_zero, List.take_succ_cons, List.take_zero] at h1
    obtain ⟨a1, j1, w1⟩ := trod_i64 u1 h1
    cases j1
    simp only [List.drop_succ_cons, List.drop_zero, List.take_succ_cons, List.take_zero] at h2
    obtain ⟨a2, j2, w2⟩ := trod_i64 u2 h2
    cases j2
    exact ⟨⟨a0, a1, a2⟩, ⟨wf_i64 w0, wf_i64 w1, wf_i64 w2⟩, .mk (.sc rfl) (.mk (.sc rfl) (.mk (.sc rfl) (.nil)))⟩
theorem pL_I64 (u : Bool) (l : List Int) : (pL tI64).dec (.one (.pv (.sl u 1 (tI64.encs l)))) = some l := pL_dec tI64 u l
theorem pL_U8 (u : Bool) (l : List Int) : (pL tU8).dec (.one (.pv (.sl u 1 (tU8.encs l)))) = some l := pL_dec tU8 u l
theorem pI_dec (n : Int) : pI.dec (.one (.pv (.sc (.int .i64 n)))) = some n := rfl
theorem pU8_dec (n : Int) : pU8.dec (.one (.pv (.sc (.int .u8 n)))) = some n := rfl
theorem pB_dec (n : Bool) : pB.dec (.one (.pv (.sc (.bool n)))) = some n := rfl
theorem pars0_dec : pars0.dec [] = some () := rfl
theorem parsC_dec {α τ : Type} (p : Par α) (q : Pars τ) (x : AV) (r : List AV) : (parsC p q).dec (x :: r) = match p.dec x, q.dec r with
      | some a, some t => some (a, t)
      | _, _ => none := rfl
theorem mkE_pre {τ : Type} (q : Pars τ) (a : An τ) (args : List AV) : (mkE q a).pre args = match q.dec args with
    | some t => a.pre t
    | none => false := rfl
theorem mkE_i {τ : Type} (q : Pars τ) (a : An τ) (j : Nat) (args : List AV) : (mkE q a).i j args = match q.dec args with
    | some t => a.i j t
    | none => 0 := rfl
theorem mkE_b {τ : Type} (q : Pars τ) (a : An τ) (j : Nat) (args : List AV) : (mkE q a).b j args = match q.dec args with
    | some t => a.b j t
    | none => false := rfl
theorem mkE_l {τ : Type} (q : Pars τ) (a : An τ) (j : Nat) (args : List AV) : (mkE q a).l j args = match q.dec args with
    | some t => a.l j t
    | none => [] := rfl
theorem Ty.encs_nil {α : Type} (T : Ty α) : T.encs [] = [] := rfl
/-! ### Rows that are being made -/
def mapE {α : Type} (f : α → List PV) : List α → List (List PV)
  | [] => []
  | a :: l => f a :: mapE f l
theorem mapE_map {α : Type} (f : α → List PV) : ∀ l, mapE f l = l.map f
  | [] => rfl
  | a :: l => by simp [mapE, mapE_map f l]
theorem mapE_length {α : Type} (f : α → List PV) (l : List α) : (mapE f l).length = l.length := by simp [mapE_map]
theorem mapE_ext {α : Type} (f : α → List PV) (l : List α) (o n : Nat) : real.ext (mapE f l) o n = mapE f ((l.drop o).take n) := by
  show ((mapE f l).drop o).take n = _
  simp [mapE_map]
/-- A row of n elements, of which the first i are made. -/
def pad {α : Type} (f : α → List PV) (z : List PV) (l : List α) (i : Nat) : List (List PV) := mapE f (l.take i) ++ List.replicate (l.length - i) z
theorem pad_zero {α : Type} (f : α → List PV) (z : List PV) (l : List α) (n : Nat) (h : n = l.length) : real.rep n z = pad f z l 0 := by
  show List.replicate n z = _
  simp [pad, mapE, h]
theorem pad_done {α : Type} (f : α → List PV) (z : List PV) (l : List α) (i : Nat) (h : l.length ≤ i) : pad f z l i = mapE f l := by
  simp [pad, List.take_of_length_le h, Nat.sub_eq_zero_of_le h]
theorem pad_length {α : Type} (f : α → List PV) (z : List PV) (l : List α) (i : Nat) (h : i ≤ l.length) : (pad f z l i).length = l.length := by
  simp [pad, mapE_length]; omega
theorem pad_set {α : Type} [Inhabited α] (f : α → List PV) (z : List PV) (l : List α) (i : Nat) (h : i < l.length) (v : List PV) (hv : v = f (nth l i)) : real.set (pad f z l i) i v = pad f z l (i + 1) := by
  show (pad f z l i).set i v = _
  subst hv
  have e : List.replicate (l.length - i) z = z :: List.replicate (l.length - (i + 1)) z := by
    rw [show l.length - i = (l.length - (i + 1)) + 1 from by omega, List.replicate_succ]
  have hl : (mapE f (l.take i)).length = i := by rw [mapE_length, List.length_take]; omega
  unfold pad
  rw [e, List.set_append_right _ _ (by omega), hl, Nat.sub_self, List.set_cons_zero]
  rw [show l.take (i + 1) = l.take i ++ [nth l i] from by rw [List.take_succ_eq_append_getElem h]; simp [nth, h]]
  simp [mapE_map]
theorem tI64_mapE (l : List Int) : mapE tI64.enc l = tI64.encs l := by rw [mapE_map, Ty.encs_map]
theorem tU8_mapE (l : List Int) : mapE tU8.enc l = tU8.encs l := by rw [mapE_map, Ty.encs_map]
theorem tI64_one (a : Int) : tI64.encs [a] = [[.sc (.int .i64 a)]] := rfl
theorem tU8_one (a : Int) : tU8.encs [a] = [[.sc (.int .u8 a)]] := rfl
/-! ### Stepping -/
theorem on_ask {H : AV → St → Prop} {L N : List Nat → St → Prop} {b : Bool} {k : Bool → Out} (h1 : b = true → (k true).holds H L N) (h2 : b = false → (k false).holds H L N) : Out.holds H L N (.ask b k) := ⟨h1, h2⟩
theorem on_true {H : AV → St → Prop} {L N : List Nat → St → Prop} {b : Bool} {k : Bool → Out} (h : b = true) (h1 : (k true).holds H L N) : Out.holds H L N (.ask b k) := ⟨fun _ => h1, fun e => absurd (h.symm.trans e) (by simp)⟩
theorem on_false {H : AV → St → Prop} {L N : List Nat → St → Prop} {b : Bool} {k : Bool → Out} (h : b = false) (h1 : (k false).holds H L N) : Out.holds H L N (.ask b k) := ⟨fun e => absurd (h.symm.trans e) (by simp), fun _ => h1⟩
theorem on_must {H : AV → St → Prop} {L N : List Nat → St → Prop} {b : Bool} {k : Out} (h1 : b = true) (h2 : k.holds H L N) : Out.holds H L N (.must b k) := ⟨h1, h2⟩
theorem on_both {H : AV → St → Prop} {L N : List Nat → St → Prop} {a b : Out} (h1 : a.holds H L N) (h2 : b.holds H L N) : Out.holds H L N (.both a b) := ⟨h1, h2⟩
theorem on_any {H : AV → St → Prop} {L N : List Nat → St → Prop} {p : List Nat} {S : St} (h : N p S) : Out.holds H L N (.any p S) := h
theorem RCell.nl {sz : Nat} {w : World} {M : Nat → Prop} {env : EnvT} {v : Value} (h : RCell w M env (.pv .nl) v) : RCell w M env (.pv (.sl false sz [])) v := by
  cases h with
  | pv h => cases h; exact .pv .nil
theorem RCs.nlEnd {sz : Nat} {w : World} {M : Nat → Prop} {env : EnvT} : ∀ {cs : List Cell} {vs : List Value}, RCs w M env (cs ++ [.pv .nl]) vs → RCs w M env (cs ++ [.pv (.sl false sz [])]) vs
  | [], _, .cons h hr => .cons h.nl hr
  | _ :: _, _, .cons h hr => .cons h (RCs.nlEnd hr)
theorem ag7_nl {c0 c1 c2 c3 c4 c5 : Cell} {w : World} {M : Nat → Prop} {env : EnvT} {v : Value} (h : RAV w M env (.ag [c0, c1, c2, c3, c4, c5, .pv .nl]) v) : RAV w M env (.ag [c0, c1, c2, c3, c4, c5, .pv (.sl false 1 [])]) v := by
  cases h with
  | ag h => exact .ag (RCs.nlEnd (cs := [c0, c1, c2, c3, c4, c5]) h)
theorem on_ret {H : AV → St → Prop} {L N : List Nat → St → Prop} {r : AV} {S : St} (h : H r S) : Out.holds H L N (.ret r S) := h
theorem on_loop {H : AV → St → Prop} {L N : List Nat → St → Prop} {p : List Nat} {S : St} (h : L p S) : Out.holds H L N (.loop p S) := h
/-! ### Plain forms -/
theorem r_eql (a b : Int) : real.cmp .eql a b = (a == b) := rfl
theorem r_neq (a b : Int) : real.cmp .neq a b = (a != b) := rfl
theorem r_lss (a b : Int) : real.cmp .lss a b = decide (a < b) := rfl
theorem r_leq (a b : Int) : real.cmp .leq a b = decide (a ≤ b) := rfl
theorem r_gtr (a b : Int) : real.cmp .gtr a b = decide (b < a) := rfl
theorem r_geq (a b : Int) : real.cmp .geq a b = decide (b ≤ a) := rfl
theorem r_add (k : IntKind) (a b : Int) : real.ar .add k a b = k.wrap (a + b) := rfl
theorem r_sub (k : IntKind) (a b : Int) : real.ar .sub k a b = k.wrap (a - b) := rfl
theorem r_mul (k : IntKind) (a b : Int) : real.ar .mul k a b = k.wrap (a * b) := rfl
theorem r_ofn (n : Nat) : real.ofn n = (n : Int) := rfl
theorem r_len (es : List (List PV)) : real.len es = es.length := rfl
theorem r_inb (i : Int) (n : Nat) : real.inb i n = decide (0 ≤ i ∧ i < n) := rfl
theorem r_inle (i : Int) (n : Nat) : real.inle i n = decide (0 ≤ i ∧ i ≤ n) := rfl
theorem r_nle (a b : Nat) : real.nle a b = decide (a ≤ b) := rfl
theorem r_ne (a b : Nat) : real.neq a b = decide (a = b) := rfl
theorem r_tn (i : Int) : real.tn i = i.toNat := rfl
theorem r_nadd (a b : Nat) : real.add a b = a + b := rfl
theorem r_nsub (a b : Nat) : real.sub a b = a - b := rfl
theorem r_bnot (b : Bool) : real.bnot b = !b := rfl
theorem r_conv (k : IntKind) (n : Int) : real.conv k n = k.wrap n := rfl
theorem r_beq (a b : Bool) : real.beq .eql a b = (a == b) := rfl
theorem r_mn (a b : Int) : real.mn a b = min a b := by show (if b < a then b else a) = _; split <;> omega
theorem r_mx (a b : Int) : real.mx a b = max a b := by show (if b > a then b else a) = _; split <;> omega
theorem r_els (u : Bool) (s : Nat) (es : List (List PV)) : real.els (.sl u s es) = es := rfl
theorem r_isSl (u : Bool) (s : Nat) (es : List (List PV)) : real.isSl s (.sl u s es) = true := Nat.beq_refl s
theorem r_ext1 (a : List PV) : real.ext [a] 0 1 = [a] := rfl
theorem r_ext2 (a b : List PV) : real.ext [a, b] 0 2 = [a, b] := rfl
theorem r_ext5 (a b c d e : List PV) : real.ext [a, b, c, d, e] 0 5 = [a, b, c, d, e] := rfl
theorem r_app (a b : List (List PV)) : real.app a b = a ++ b := rfl
theorem wrap_id {n : Int} (h : -9223372036854775808 ≤ n ∧ n ≤ 9223372036854775807) : IntKind.i64.wrap n = n := by rw [IntKind.wrap_i64]; omega
section
variable {E : Ent} {R : Value → World → Prop} {S : St} {r r' : AV}
/-- What is handed back may be said more freely. -/
theorem Ended.to (ht : ∀ {w : World} {M : Nat → Prop} {env : EnvT} {v : Value}, RAV w M env r v → RAV w M env r' v) (h : Ended E R r' S) : Ended E R r S :=
  fun β O a w u hr hv => h β O a w u hr (ht hv)
theorem tp_nl {sz : Nat} {c : Cell} {w : World} {M : Nat → Prop} {env : EnvT} {v : Value} (h : RAV w M env (.tp [(false, [.pv .nl]), (false, [c])]) v) : RAV w M env (.tp [(false, [.pv (.sl false sz [])]), (false, [c])]) v := by
  cases h with
  | tp h =>
    rename_i vs
    generalize hl : vs.toList = l at h
    cases h with
    | cons h hr =>
      obtain ⟨x, hx, h⟩ := h
      cases hx
      refine .tp ?_
      rw [hl]
      exact .cons ⟨_, rfl, h.nl⟩ hr
theorem nl_sl {sz : Nat} {w : World} {M : Nat → Prop} {env : EnvT} {v : Value} (h : RAV w M env (.one (.pv .nl)) v) : RAV w M env (.one (.pv (.sl false sz []))) v := by
  cases h with
  | one h => cases h with
    | pv h => cases h; exact .one (.pv .nil)
/-- A row is written no more. -/
theorem Ended.ice {I : Ops} (hI : I = real) {c sz : Nat} {es : List (List PV)} (hlk : lk c S.σ = some (.row sz es)) (h : Ended E R (iceA I c sz es r) (Aix.ice I c sz es S)) : Ended E R r S := by
  subst hI
  intro β O a w u hr hv
  obtain ⟨h1, h2⟩ := hr.ice hlk
  exact h β O a w u h1 (h2 hv)
end
theorem tNode_odowns : ∀ l, real.downs (mapE tNode_own l) = tNode.encs l
  | [] => rfl
  | a :: l => by
    show downc (tNode_own a) :: downs (mapE tNode_own l) = tNode.enc a :: tNode.encs l
    rw [tNode_odown, show downs (mapE tNode_own l) = tNode.encs l from tNode_odowns l]
theorem tPut_odowns : ∀ l, real.downs (mapE tPut_own l) = tPut.encs l
  | [] => rfl
  | a :: l => by
    show downc (tPut_own a) :: downs (mapE tPut_own l) = tPut.enc a :: tPut.encs l
    rw [tPut_odown, show downs (mapE tPut_own l) = tPut.encs l from tPut_odowns l]
theorem tEntry_odowns : ∀ l, real.downs (mapE tEntry_own l) = tEntry.encs l
  | [] => rfl
  | a :: l => by
    show downc (tEntry_own a) :: downs (mapE tEntry_own l) = tEntry.enc a :: tEntry.encs l
    rw [tEntry_odown, show downs (mapE tEntry_own l) = tEntry.encs l from tEntry_odowns l]
theorem tCount_odowns : ∀ l, real.downs (mapE tCount_own l) = tCount.encs l
  | [] => rfl
  | a :: l => by
    show downc (tCount_own a) :: downs (mapE tCount_own l) = tCount.enc a :: tCount.encs l
    rw [tCount_odown, show downs (mapE tCount_own l) = tCount.encs l from tCount_odowns l]
end Go.Aix
