/- Rows of frames as elements (written by genlink.py). -/
import Derived.Test.YtiieincddkhcdaaGreatAix6
set_option linter.unusedSimpArgs false
set_option linter.unusedVariables false
namespace Go.Aix
structure LinkV where
  frames : List FrameV
  deriving DecidableEq, Inhabited
def tLink_own (x : LinkV) : List PV := [.sl true 6 (mapE tFrame_own x.frames)]
def tLink : Ty LinkV where
  sz := 1
  enc x := [.sl false 6 (tFrame.encs x.frames)]
  dec ps := ⟨tFrame.decs (els (at0 ps 0))⟩
  ok ps := match ps with
    | [q0] => (tFrame.okP q0)
    | _ => false
  len _ := rfl
  fit := by
    intro w M ps vs h e
    split at e
    · have e0 := e
      obtain ⟨v0, _, rfl, h0, h⟩ := h.inv
      exact .mk (tFrame.fitP h0 e0) (h)
    · cases e
  dec_enc x := by simp [at0, pInt, pBool, els, Ty.decs_encs]
  ok_enc x := by (try simp [isPInt, isPBool]); repeat' (first | (refine ⟨?_, ?_⟩) | exact Ty.okP_mk _ _ _)
  down x := by simp [downc, PV.down, Ty.downs_encs]
  dead x := rfl
  own := tLink_own
  olen _ := rfl
  odown x := by simp [tLink_own, downc, PV.down, Ty.downs_encs, Ty.downs_own, show ∀ l, downs (mapE tFrame_own l) = tFrame.encs l from tFrame.downs_own]
  dec_own x := by simp [tLink_own, at0, pInt, pBool, els, Ty.decs_encs, Ty.decs_own, show ∀ l, tFrame.decs (mapE tFrame_own l) = l from tFrame.decs_own]
  opur x := by simp [tLink_own, purc, PV.pur, Ty.pur_own, show ∀ l, purs (mapE tFrame_own l) = true from tFrame.pur_own]
theorem tLink_odown (x : LinkV) : downc (tLink_own x) = tLink.enc x := tLink.odown x
theorem tLink_rd0 (l : List LinkV) (i : Nat) : real.els (real.nth (tLink.encs l) i 0) = tFrame.encs (nth l i).frames := by
  by_cases h : i < l.length
  · rw [tLink.nth_encs 0 h]; rfl
  · rw [tLink.nth_out 0 h]; simp [nth, h]; rfl
theorem tLink_is0 {l : List LinkV} {i : Nat} (h : i < l.length) : real.isSh 6 (real.nth (tLink.encs l) i 0) = true := by
  rw [tLink.nth_encs 0 h]; exact Nat.beq_refl _
theorem tLink_ord0 {l : List LinkV} {i : Nat} (h : i < l.length) : real.nth (mapE tLink_own l) i 0 = .sl true 6 (mapE tFrame_own (nth l i).frames) := by
  rw [Ty.nth_own 0 h]; rfl
theorem tLink_dec (u0 : Bool) (x0 : List FrameV) : (pS tLink).dec (.ag [.pv (.sl u0 6 (tFrame.encs x0))]) = some ⟨x0⟩ := by
  show (if tLink.ok _ = true ∧ Nat.beq _ tLink.sz = true then _ else _) = _
  rw [if_pos ⟨by simp only [tLink, isPInt, isPBool, decide_true, Bool.true_and, Bool.and_true]; first | exact Ty.okP_mk _ _ _ | (simp only [Bool.and_eq_true]; repeat' (first | (refine ⟨?_, ?_⟩) | exact Ty.okP_mk _ _ _)), rfl⟩]
  simp [tLink, at0, pInt, pBool, els, Ty.decs_encs]
theorem pL_Link (u : Bool) (l : List LinkV) : (pL tLink).dec (.one (.pv (.sl u 1 (tLink.encs l)))) = some l := pL_dec tLink u l
theorem tLink_eta (x : LinkV) : LinkV.mk x.frames = x := rfl
structure CluV where
  plan : List NodeV
  workers : List WorkerV
  links : List LinkV
  deriving DecidableEq, Inhabited
def tClu_own (x : CluV) : List PV := [.sl true 7 (mapE tNode_own x.plan), .sl true 7 (mapE tWorker_own x.workers), .sl true 1 (mapE tLink_own x.links)]
def tClu : Ty CluV where
  sz := 3
  enc x := [.sl false 7 (tNode.encs x.plan), .sl false 7 (tWorker.encs x.workers), .sl false 1 (tLink.encs x.links)]
  dec ps := ⟨tNode.decs (els (at0 ps 0)), tWorker.decs (els (at0 ps 1)), tLink.decs (els (at0 ps 2))⟩
  ok ps := match ps with
    | [q0, q1, q2] => (tNode.okP q0) && (tWorker.okP q1) && (tLink.okP q2)
    | _ => false
  len _ := rfl
  fit := by
    intro w M ps vs h e
    split at e
    · simp only [Bool.and_eq_true] at e
      obtain ⟨⟨e0, e1⟩, e2⟩ := e
      obtain ⟨v0, _, rfl, h0, h⟩ := h.inv
      obtain ⟨v1, _, rfl, h1, h⟩ := h.inv
      obtain ⟨v2, _, rfl, h2, h⟩ := h.inv
      exact .mk (tNode.fitP h0 e0) (.mk (tWorker.fitP h1 e1) (.mk (tLink.fitP h2 e2) (h)))
    · cases e
  dec_enc x := by simp [at0, pInt, pBool, els, Ty.decs_encs]
  ok_enc x := by (try simp [isPInt, isPBool]); repeat' (first | (refine ⟨?_, ?_⟩) | exact Ty.okP_mk _ _ _)
  down x := by simp [downc, PV.down, Ty.downs_encs]
  dead x := rfl
  own := tClu_own
  olen _ := rfl
  odown x := by simp [tClu_own, downc, PV.down, Ty.downs_encs, Ty.downs_own, show ∀ l, downs (mapE tLink_own l) = tLink.encs l from tLink.downs_own, show ∀ l, downs (mapE tNode_own l) = tNode.encs l from tNode.downs_own, show ∀ l, downs (mapE tWorker_own l) = tWorker.encs l from tWorker.downs_own]
  dec_own x := by simp [tClu_own, at0, pInt, pBool, els, Ty.decs_encs, Ty.decs_own, show ∀ l, tLink.decs (mapE tLink_own l) = l from tLink.decs_own, show ∀ l, tNode.decs (mapE tNode_own l) = l from tNode.decs_own, show ∀ l, tWorker.decs (mapE tWorker_own l) = l from tWorker.decs_own]
  opur x := by simp [tClu_own, purc, PV.pur, Ty.pur_own, show ∀ l, purs (mapE tLink_own l) = true from tLink.pur_own, show ∀ l, purs (mapE tNode_own l) = true from tNode.pur_own, show ∀ l, purs (mapE tWorker_own l) = true from tWorker.pur_own]
theorem tClu_odown (x : CluV) : downc (tClu_own x) = tClu.enc x := tClu.odown x
theorem tClu_rd0 (l : List CluV) (i : Nat) : real.els (real.nth (tClu.encs l) i 0) = tNode.encs (nth l i).plan := by
  by_cases h : i < l.length
  · rw [tClu.nth_encs 0 h]; rfl
  · rw [tClu.nth_out 0 h]; simp [nth, h]; rfl
theorem tClu_is0 {l : List CluV} {i : Nat} (h : i < l.length) : real.isSh 7 (real.nth (tClu.encs l) i 0) = true := by
  rw [tClu.nth_encs 0 h]; exact Nat.beq_refl _
theorem tClu_ord0 {l : List CluV} {i : Nat} (h : i < l.length) : real.nth (mapE tClu_own l) i 0 = .sl true 7 (mapE tNode_own (nth l i).plan) := by
  rw [Ty.nth_own 0 h]; rfl
theorem tClu_rd1 (l : List CluV) (i : Nat) : real.els (real.nth (tClu.encs l) i 1) = tWorker.encs (nth l i).workers := by
  by_cases h : i < l.length
  · rw [tClu.nth_encs 1 h]; rfl
  · rw [tClu.nth_out 1 h]; simp [nth, h]; rfl
theorem tClu_is1 {l : List CluV} {i : Nat} (h : i < l.length) : real.isSh 7 (real.nth (tClu.encs l) i 1) = true := by
  rw [tClu.nth_encs 1 h]; exact Nat.beq_refl _
theorem tClu_ord1 {l : List CluV} {i : Nat} (h : i < l.length) : real.nth (mapE tClu_own l) i 1 = .sl true 7 (mapE tWorker_own (nth l i).workers) := by
  rw [Ty.nth_own 1 h]; rfl
theorem tClu_rd2 (l : List CluV) (i : Nat) : real.els (real.nth (tClu.encs l) i 2) = tLink.encs (nth l i).links := by
  by_cases h : i < l.length
  · rw [tClu.nth_encs 2 h]; rfl
  · rw [tClu.nth_out 2 h]; simp [nth, h]; rfl
theorem tClu_is2 {l : List CluV} {i : Nat} (h : i < l.length) : real.isSh 1 (real.nth (tClu.encs l) i 2) = true := by
  rw [tClu.nth_encs 2 h]; exact Nat.beq_refl _
theorem tClu_ord2 {l : List CluV} {i : Nat} (h : i < l.length) : real.nth (mapE tClu_own l) i 2 = .sl true 1 (mapE tLink_own (nth l i).links) := by
  rw [Ty.nth_own 2 h]; rfl
theorem tClu_dec (u0 : Bool) (x0 : List NodeV) (u1 : Bool) (x1 : List WorkerV) (u2 : Bool) (x2 : List LinkV) : (pS tClu).dec (.ag [.pv (.sl u0 7 (tNode.encs x0)), .pv (.sl u1 7 (tWorker.encs x1)), .pv (.sl u2 1 (tLink.encs x2))]) = some ⟨x0, x1, x2⟩ := by
  show (if tClu.ok _ = true ∧ Nat.beq _ tClu.sz = true then _ else _) = _
  rw [if_pos ⟨by simp only [tClu, isPInt, isPBool, decide_true, Bool.true_and, Bool.and_true]; first | exact Ty.okP_mk _ _ _ | (simp only [Bool.and_eq_true]; repeat' (first | (refine ⟨?_, ?_⟩) | exact Ty.okP_mk _ _ _)), rfl⟩]
  simp [tClu, at0, pInt, pBool, els, Ty.decs_encs]
theorem pL_Clu (u : Bool) (l : List CluV) : (pL tClu).dec (.one (.pv (.sl u 3 (tClu.encs l)))) = some l := pL_dec tClu u l
theorem tClu_eta (x : CluV) : CluV.mk x.plan x.workers x.links = x := rfl
theorem tLink_pur_own (l : List LinkV) : real.pur (mapE tLink_own l) = true := tLink.pur_own l
theorem tLink_odowns : ∀ l, real.downs (mapE tLink_own l) = tLink.encs l
  | [] => rfl
  | a :: l => by
    show downc (tLink_own a) :: downs (mapE tLink_own l) = tLink.enc a :: tLink.encs l
    rw [tLink_odown, show downs (mapE tLink_own l) = tLink.encs l from tLink_odowns l]
theorem tClu_pur_own (l : List CluV) : real.pur (mapE tClu_own l) = true := tClu.pur_own l
theorem tClu_odowns : ∀ l, real.downs (mapE tClu_own l) = tClu.encs l
  | [] => rfl
  | a :: l => by
    show downc (tClu_own a) :: downs (mapE tClu_own l) = tClu.enc a :: tClu.encs l
    rw [tClu_odown, show downs (mapE tClu_own l) = tClu.encs l from tClu_odowns l]
attribute [simp] tLink_pur_own tLink_odowns tLink_odown tLink_rd0 tLink_is0 tLink_ord0 tLink_dec pL_Link tLink_eta tClu_pur_own tClu_odowns tClu_odown tClu_rd0 tClu_is0 tClu_ord0 tClu_rd1 tClu_is1 tClu_ord1 tClu_rd2 tClu_is2 tClu_ord2 tClu_dec pL_Clu tClu_eta
@[simp] theorem r_bne (a b : Bool) : real.beq .neq a b = (a != b) := rfl
end Go.Aix
