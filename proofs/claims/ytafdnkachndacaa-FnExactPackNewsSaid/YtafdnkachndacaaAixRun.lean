/-
  THE CALCULUS, FIFTEENTH TEXT: the machine: a function's code is stepped through on what is known; where a loop begins, or a region whose order is drawn, it stops.
-/
import Derived.Test.YtafdnkachndacaaAixStep2
set_option linter.unusedSimpArgs false
set_option linter.unusedVariables false
namespace Go.Aix

/-- The frame of a call. -/
def base (f : FuncId) : Frame := { (default : Frame) with fn := f, kind := .normal }

/-- From these items on the call returns as R asks. -/
def At (P : Program) (f : FuncId) (R : Value → World → Prop) (items : List Item) (a : Act) (w : World) : Prop :=
  ∀ cs, ∃ v w' fr, R v w' ∧ Steps P (lone ((base f).at a items) cs w) (lone fr cs w') ∧ fr.fn = f ∧ fr.leaving P w' (.returned v)

section
variable {P : Program} {f : FuncId} {R : Value → World → Prop} {a : Act} {w : World} {k : List Item}

theorem At.head {k' : List Item} {a' : Act} {w' : World} (hs : ∀ cs, step P (lone ((base f).at a k) cs w) = .next (lone ((base f).at a' k') cs w')) (h : At P f R k' a' w') : At P f R k a w :=
  fun cs => let ⟨v, w2, fr, hR, hst, hl⟩ := h cs; ⟨v, w2, fr, hR, .head (hs cs) hst, hl⟩

theorem At.skip (h : At P f R k a w) : At P f R (.code .skip :: k) a w := h.head fun _ => step_skip
theorem At.label {l : Nat} (h : At P f R k a w) : At P f R (.code (.label l) :: k) a w := h.head fun _ => step_label
theorem At.inBlock {id : Nat} (h : At P f R k a w) : At P f R (.inBlock id :: k) a w := h.head fun _ => step_inBlock
theorem At.seq {x y : Code} (h : At P f R (.code x :: .code y :: k) a w) : At P f R (.code (.seq x y) :: k) a w := h.head fun _ => step_seq
theorem At.cond {c : Operand} {x y : Code} {t : Bool} (hc : a.eval c = .bool t) (h : At P f R (.code (if t then x else y) :: k) a w) : At P f R (.code (.cond c x y) :: k) a w := h.head fun _ => step_cond hc
theorem At.block {id : Nat} {c : Code} (h : At P f R (.code c :: .inBlock id :: k) a w) : At P f R (.code (.block id c) :: k) a w := h.head fun _ => step_block
theorem At.loop {c : Code} (h : At P f R (.code c :: .inLoop c :: k) a w) : At P f R (.code (.loop c) :: k) a w := h.head fun _ => step_loop
theorem At.inLoop {c : Code} (h : At P f R (.code c :: .inLoop c :: k) a w) : At P f R (.inLoop c :: k) a w := h.head fun _ => step_inLoop
theorem At.exit {id : Nat} {k' : List Item} (hk : exitTo id k = some k') (h : At P f R k' a w) : At P f R (.code (.exit id) :: k) a w := h.head fun _ => step_exit hk

theorem At.ret {fn : Func} {v : Value} (hf : P.funcs[f]? = some fn) (hd : a.defers = []) (hr : (results fn a.tmps).run P w = .ok v w) (hR : R v w) : At P f R (.code .ret :: k) a w :=
  fun cs => ⟨v, w, _, hR, .one step_ret, rfl, rfl, hd, rfl, fn, hf, hr⟩
theorem At.end {fn : Func} {v : Value} (hf : P.funcs[f]? = some fn) (hd : a.defers = []) (hr : (results fn a.tmps).run P w = .ok v w) (hR : R v w) : At P f R [] a w :=
  fun cs => ⟨v, w, _, hR, .one step_end, rfl, rfl, hd, rfl, fn, hf, hr⟩

/-- Only onward. -/
def Onward (P : Program) (f : FuncId) (R : Value → World → Prop) (k : List Item) : Exit → Act → World → Prop
  | .normal, a, w => At P f R k a w
  | _, _, _ => False
theorem At.ofArrives {m : Machine} {e : Exit} {cs : List Frame} (hq : Onward P f R k e a w) (harr : Arrives P m (base f) k cs e a w) : ∃ v w' fr, R v w' ∧ Steps P m (lone fr cs w') ∧ fr.fn = f ∧ fr.leaving P w' (.returned v) := by
  cases e <;> simp only [Onward] at hq
  obtain ⟨v, w', fr, hR, hs, hl⟩ := hq cs
  exact ⟨v, w', fr, hR, harr.trans hs, hl⟩
theorem At.ops {ops : Array Oper} {l : List Nat} (h : wpOps P ops (Onward P f R k) l a w) : At P f R (.inRegion ops l :: k) a w := by
  intro cs
  obtain ⟨e, a', w', hq, harr⟩ := wp_ops l a w h (base f) k cs
  exact At.ofArrives hq harr
theorem At.code {c : Code} (h : c.wp P (Onward P f R k) a w) : At P f R (.code c :: k) a w := by
  intro cs
  obtain ⟨e, a', w', hq, harr⟩ := h (base f) k cs
  exact At.ofArrives hq harr
theorem At.region {id : Nat} {ops : Array Oper} (h : wpOps P ops (Onward P f R k) (List.range ops.size) a w) : At P f R (.code (.region id ops false) :: k) a w := At.code (wp_region h)
end

/-! ### Places in a function's code -/
inductive Itm where
  | code (p : List Nat) (c : Code)
  | blk (id : Nat)
  | lop (p : List Nat) (c : Code)
def Itm.item : Itm → Item
  | .code _ c => .code c
  | .blk id => .inBlock id
  | .lop _ c => .inLoop c

/-- The items at a place. -/
def place : Code → List Nat → List Item → List Item
  | c, [], k => .code c :: k
  | .seq x y, d :: p, k => match d with
    | 0 => place x p (.code y :: k)
    | _ => place y p k
  | .cond _ x y, d :: p, k => match d with
    | 0 => place x p k
    | _ => place y p k
  | .block id c, _ :: p, k => place c p (.inBlock id :: k)
  | .loop c, _ :: p, k => place c p (.inLoop c :: k)
  | c, _ :: _, k => .code c :: k

/-- Whither a place leads. -/
def into (d : Nat) (c : Code) (k : List Item) : List Item := match c with
  | .seq x y => match d with
    | 0 => .code x :: .code y :: k
    | _ => .code y :: k
  | .cond _ x y => match d with
    | 0 => .code x :: k
    | _ => .code y :: k
  | .block id c => .code c :: .inBlock id :: k
  | .loop c => .code c :: .inLoop c :: k
  | c => .code c :: k
theorem place_snoc (d : Nat) : ∀ (p : List Nat) (c c' : Code) (k k' : List Item), place c p k = .code c' :: k' → place c (p ++ [d]) k = into d c' k'
  | [], c, c', k, k', h => by
    have h' : (Item.code c :: k) = .code c' :: k' := by cases c <;> exact h
    simp only [List.cons.injEq, Item.code.injEq] at h'
    obtain ⟨rfl, rfl⟩ := h'
    cases c <;> simp only [List.nil_append, into] <;> first
      | (cases d <;> simp [place]; done)
      | simp [place]
  | e :: p, c, c', k, k', h => by
    cases c <;> simp only [List.cons_append, place] at h ⊢
    case seq x y =>
      cases e <;> exact place_snoc d p _ c' _ k' h
    case cond x y =>
      cases e <;> exact place_snoc d p _ c' _ k' h
    case block => exact place_snoc d p _ c' _ k' h
    case loop => exact place_snoc d p _ c' _ k' h
    all_goals
      simp only [List.cons.injEq, Item.code.injEq] at h
      obtain ⟨rfl, rfl⟩ := h
      simp [into]

def Good (b : Code) : List Itm → Prop
  | [] => True
  | .code p c :: k => place b p [] = .code c :: k.map Itm.item ∧ Good b k
  | .blk _ :: k => Good b k
  | .lop p c :: k => place b p [] = .code (.loop c) :: k.map Itm.item ∧ Good b k

/-- The stack at a place. -/
def start : List Nat → Code → List Nat → List Itm → List Itm
  | q, c, [], k => .code q c :: k
  | q, .seq x y, d :: p, k => match d with
    | 0 => start (q ++ [0]) x p (.code (q ++ [1]) y :: k)
    | _ => start (q ++ [1]) y p k
  | q, .cond _ x y, d :: p, k => match d with
    | 0 => start (q ++ [0]) x p k
    | _ => start (q ++ [1]) y p k
  | q, .block id c, _ :: p, k => start (q ++ [0]) c p (.blk id :: k)
  | q, .loop c, _ :: p, k => start (q ++ [0]) c p (.lop q c :: k)
  | q, c, _ :: _, k => .code q c :: k
theorem start_item : ∀ (p q : List Nat) (c : Code) (k : List Itm), (start q c p k).map Itm.item = place c p (k.map Itm.item)
  | [], q, c, k => by cases c <;> simp [start, place, Itm.item]
  | d :: p, q, c, k => by
    cases c <;> simp only [start, place]
    case seq x y => cases d <;> simp [start_item p, Itm.item]
    case cond x y => cases d <;> simp [start_item p, Itm.item]
    case block => simp [start_item p, Itm.item]
    case loop => simp [start_item p, Itm.item]
    all_goals simp [Itm.item]
theorem start_good (b : Code) : ∀ (p q : List Nat) (c : Code) (k : List Itm), place b q [] = .code c :: k.map Itm.item → Good b k → Good b (start q c p k)
  | [], q, c, k, h, hg => by cases c <;> exact ⟨h, hg⟩
  | d :: p, q, c, k, h, hg => by
    have hs := fun e => place_snoc e q b c [] _ h
    cases c <;> simp only [start]
    case seq x y =>
      cases d
      · exact start_good b p _ x _ (by rw [hs 0]; rfl) ⟨by rw [hs 1]; rfl, hg⟩
      · exact start_good b p _ y _ (by rw [hs 1]; rfl) hg
    case cond x y =>
      cases d
      · exact start_good b p _ _ _ (by rw [hs 0]; rfl) hg
      · exact start_good b p _ _ _ (by rw [hs 1]; rfl) hg
    case block => exact start_good b p _ _ _ (by rw [hs 0]; rfl) hg
    case loop => exact start_good b p _ _ _ (by rw [hs 0]; rfl) ⟨h, hg⟩
    all_goals exact ⟨h, hg⟩
end Go.Aix
