/-
  THE CALCULUS, THIRTIETH TEXT: what a law is handed reads as values of Lean types.
-/
import Derived.Test.YtafdnkachndacaaAixTy
import Derived.Test.YtafdnkachndacaaAixArgs
import Derived.WalkKit
import Derived.ProofKit
import Derived.OpenShut
import Derived.ShutString
import Derived.ChangeOld
import Derived.Below
import Derived.SizedLaws
import Derived.Carry
set_option linter.unusedSimpArgs false
set_option linter.unusedVariables false
namespace Go.Aix
open Go.ChangeShapes Go.WideShapes Go.ChangeAt Go.RowKit

def F0 : Nat → Prop := fun _ => False
def inI64 (n : Int) : Prop := -9223372036854775808 ≤ n ∧ n ≤ 9223372036854775807
def inU8 (n : Int) : Prop := 0 ≤ n ∧ n ≤ 255

def TrodFit {α : Type} (P : Program) (T : Ty α) (G : α → Prop) (t : TypeId) : Prop :=
  ∀ {H : Type} (enc : TypeId × Value → H) (w : World) (spare : Nat → Bool) (held : Bool) (fuel : Nat) (cs : List Value) (d : DataW H) (p : List MemPlace),
    DataW.trod enc P w 0 spare held fuel t cs = some (d, p) → ∃ a, G a ∧ RL w F0 (T.enc a) cs []

section
variable {P : Program} {w : World} {H : Type} {enc : TypeId × Value → H} {spare : Nat → Bool} {held : Bool} {M : Nat → Prop}

theorem RL.of_take : ∀ {ps : List PV} {vs : List Value} {n : Nat} {O : List Nat}, RL w M ps (vs.take n) O → RL w M ps vs O
  | [], vs, n, O, h => by cases h; exact .nil
  | p :: ps, vs, n, O, h => by
    cases vs with
    | nil => simpa using h
    | cons v vs => cases n with
      | zero => simp only [List.take_zero] at h; cases h
      | succ n =>
        rw [List.take_succ_cons] at h
        cases h with
        | cons h hr => exact .cons h (RL.of_take hr)

theorem trod_i64 {t : TypeId} {k : IntKind} {fuel : Nat} {cs : List Value} {d : DataW H} {p : List MemPlace} (hu : P.underlying t = some (.int k)) (h : DataW.trod enc P w 0 spare held fuel t cs = some (d, p)) : ∃ n, cs = [.int k n] ∧ (Lit.int k n).wf = true := by
  obtain ⟨n', h, hx, hw⟩ := DataW.trod_int hu h
  exact ⟨n', h, hw⟩
theorem wf_i64 {n : Int} (h : (Lit.int .i64 n).wf = true) : inI64 n := by
  simp only [Lit.wf, Bool.and_eq_true, decide_eq_true_eq] at h
  exact h
theorem wf_u8 {n : Int} (h : (Lit.int .u8 n).wf = true) : inU8 n := by
  simp only [Lit.wf, Bool.and_eq_true, decide_eq_true_eq] at h
  exact h
theorem fit_i64 {t : TypeId} (hu : P.underlying t = some (.int .i64)) : TrodFit P tI64 inI64 t := by
  intro H enc w spare held fuel cs d p h
  obtain ⟨n, rfl, hw⟩ := trod_i64 hu h
  exact ⟨n, wf_i64 hw, .mk (.sc rfl) .nil⟩
theorem fit_u8 {t : TypeId} (hu : P.underlying t = some (.int .u8)) : TrodFit P tU8 inU8 t := by
  intro H enc w spare held fuel cs d p h
  obtain ⟨n, rfl, hw⟩ := trod_i64 hu h
  exact ⟨n, wf_u8 hw, .mk (.sc rfl) .nil⟩

/-- Of a slice. -/
def gL {α : Type} (G : α → Prop) (l : List α) : Prop := l.length ≤ maxLen ∧ ∀ a ∈ l, G a
theorem trod_slice {α : Type} {T : Ty α} {G : α → Prop} {t e : TypeId} (hu : P.underlying t = some (.slice e)) (hc : P.cellsOf e = T.sz) (hpos : 0 < T.sz) (hT : TrodFit P T G e) {fuel : Nat} {cs : List Value} {d : DataW H} {p : List MemPlace}
    (h : DataW.trod enc P w 0 spare held fuel t cs = some (d, p)) : ∃ l v, cs = [v] ∧ gL G l ∧ RPV w F0 (.sl false T.sz (T.encs l)) v [] := by
  rcases DataW.trod_slice hu h with ⟨rfl, _⟩ | ⟨a, len, cap, elems, _, n, _, rfl, _, _, hlc, hcm, hel, hget, _⟩
  · exact ⟨[], _, rfl, ⟨Nat.zero_le _, by simp⟩, .nil⟩
  · have each : ∀ i, i < len → ∃ x c, w.cells? 0 (a.add (i * T.sz)) T.sz = some c ∧ DataW.trod enc P w 0 spare held n e c = some x := by
      intro i hi
      have h1 := hget i hi
      rw [List.getElem?_eq_getElem (by omega)] at h1
      obtain ⟨c, c1, c2⟩ := some_bind h1
      rw [hc] at c1
      exact ⟨_, c, c1, c2⟩
    rcases Nat.eq_zero_or_pos len with h0 | hp
    · subst h0
      exact ⟨[], _, rfl, ⟨Nat.zero_le _, by simp⟩, .nil⟩
    · obtain ⟨x0, c0, q1, q2⟩ := each 0 hp
      obtain ⟨L, b1, b2, b3, b4⟩ := cells_blk q1 hpos
      have e0 : a.add (0 * T.sz) = a := by rw [Nat.zero_mul]; unfold Addr.add; simp
      rw [e0] at b1 b2
      obtain ⟨b, off, sp⟩ := a
      dsimp only at b1 b2
      subst b2
      have hab : blk w b = some L := b1
      have build : ∀ n i, i + n = len → ∃ l : List α, l.length = n ∧ (∀ a ∈ l, G a) ∧ RLL w F0 T.sz (T.encs l) (L.drop (off + i * T.sz)) [] := by
        intro n
        induction n with
        | zero => intro i _; exact ⟨[], rfl, by simp, .nil⟩
        | succ n ih =>
          intro i hi
          obtain ⟨l, l1, l2, l3⟩ := ih (i + 1) (by omega)
          obtain ⟨x, c, c1, c2⟩ := each i (by omega)
          obtain ⟨L', d1, d2, d3, d4⟩ := cells_blk c1 hpos
          rw [addr_add] at d1 d3
          rw [hab] at d1
          obtain rfl := Option.some.inj d1
          obtain ⟨y, y1, y2⟩ := hT enc w spare held _ c x.1 x.2 c2
          refine ⟨y :: l, by simp [l1], ?_, ?_⟩
          · intro z hz
            rcases List.mem_cons.1 hz with rfl | hz
            · exact y1
            · exact l2 z hz
          · rw [d3] at y2
            refine .cons (O1 := []) (O2 := []) (T.len _) (RL.of_take y2) ?_
            rw [List.drop_drop, show off + i * T.sz + T.sz = off + (i + 1) * T.sz from by rw [Nat.add_mul]; omega]
            exact l3
      obtain ⟨l, l1, l2, l3⟩ := build len 0 (by omega)
      refine ⟨l, _, rfl, ⟨by rw [l1]; omega, l2⟩, ?_⟩
      have hl : (T.encs l).length = len := by rw [T.encs_length, l1]
      rw [← hl]
      rw [Nat.zero_mul, Nat.add_zero] at l3
      exact .sh (by rw [← List.length_pos_iff, hl]; exact hp) (fun h => h) hab (by rw [hl]; exact hlc) l3
theorem fit_slice {α : Type} {T : Ty α} {G : α → Prop} {t e : TypeId} (hu : P.underlying t = some (.slice e)) (hc : P.cellsOf e = T.sz) (hpos : 0 < T.sz) (hT : TrodFit P T G e) : TrodFit P (tL T) (gL G) t := by
  intro H enc w spare held fuel cs d p h
  obtain ⟨l, v, rfl, h1, h2⟩ := trod_slice hu hc hpos hT h
  exact ⟨l, h1, .mk h2 .nil⟩
/-- A struct's field. -/
theorem trod_field {t : TypeId} {fs : Array Field} (hu : P.underlying t = some (.struct fs)) {fuel : Nat} {cs : List Value} {x : DataW H × List MemPlace}
    (h : DataW.trod enc P w 0 spare held fuel t cs = some x) : cs.length = P.cellsOf t ∧ ∀ (i : Nat) (f : Field), fs[i]? = some f → ∃ n x, DataW.trod enc P w 0 spare held n f.type ((cs.drop f.offset).take (P.cellsOf f.type)) = some x := by
  obtain ⟨xs, n, _, _, hl, hx, hg⟩ := DataW.trod_struct hu h
  refine ⟨hl, fun i f hf => ?_⟩
  have h1 := hg i f hf
  have hlt : i < xs.length := by rw [hx]; exact (Array.getElem?_eq_some_iff.1 hf).1
  rw [List.getElem?_eq_getElem hlt] at h1
  exact ⟨n, _, h1⟩
def fldOk (P : Program) (t i ti : Nat) : Bool := match P.underlying t with
  | some (.struct fs) => match fs[i]? with
    | some f => Nat.beq f.offset i && Nat.beq f.type ti && Nat.beq (P.cellsOf f.type) 1
    | none => false
  | _ => false
theorem trod_fld {t i ti : Nat} (hk : fldOk P t i ti = true) {fuel : Nat} {cs : List Value} {x : DataW H × List MemPlace}
    (h : DataW.trod enc P w 0 spare held fuel t cs = some x) : ∃ n d p, DataW.trod enc P w 0 spare held n ti ((cs.drop i).take 1) = some (d, p) := by
  unfold fldOk at hk
  split at hk
  · rename_i fs hu
    split at hk
    · rename_i f hf
      simp only [Bool.and_eq_true] at hk
      obtain ⟨n, x, hx⟩ := (trod_field hu h).2 i f hf
      rw [beq_eq hk.1.1, beq_eq hk.2, beq_eq hk.1.2] at hx
      exact ⟨n, x.1, x.2, hx⟩
    · cases hk
  · cases hk
theorem trod_len {t n : Nat} {i ti : Nat} (hk : fldOk P t i ti = true) (hn : P.cellsOf t = n) {fuel : Nat} {cs : List Value} {x : DataW H × List MemPlace}
    (h : DataW.trod enc P w 0 spare held fuel t cs = some x) : cs.length = n := by
  unfold fldOk at hk
  split at hk
  · rename_i fs hu
    rw [← hn]
    exact (trod_field hu h).1
  · cases hk
/-- A law's end. -/
theorem back_true {w : World} {e : Ending} {w' : World} (h : (match e, w' with
      | .returned u, w' => ∃ β O, Mem (Ent0 w F0) β O [] 0 w' ∧ RAV w' (Mof (Ent0 w F0) β O []) (envOf β []) (scal (.bool true)) u
      | _, _ => False)) : e = .returned (.bool true) ∧ Below w.heap.size w w' := by
  cases e with
  | returned u =>
    obtain ⟨β, O, m, r⟩ := h
    have g := Grown.of m
    refine ⟨?_, g.os, g.tape, g.output, g.size, g.same⟩
    cases r with
    | one r => cases r with
      | pv r => cases r; rfl
  | panicked => exact h.elim
  | outgrown => exact h.elim
end
end Go.Aix
