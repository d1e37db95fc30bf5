/-
  THE CALCULUS: what a round of a loop comes to is told by a plain proposition; results that are values alone.
-/
import Derived.Test.YtiieincddkhcdaaGreatAix6
import Derived.Test.YtiieincddkhcdaaGreatAixX
import Derived.Test.YtiieincddkhcdaaGreatAix4
import Derived.Test.YtiieincddkhcdaaGreatAix3
set_option linter.unusedSimpArgs false
set_option linter.unusedVariables false
namespace Go.Aix
abbrev RES := AV × Store × Nat
theorem imp_l {c : Prop} [Decidable c] {A B G : Prop} (hc : c) (k : A → G) : (if c then A else B) → G := by rw [if_pos hc]; exact k
theorem imp_r {c : Prop} [Decidable c] {A B G : Prop} (hc : ¬ c) (k : B → G) : (if c then A else B) → G := by rw [if_neg hc]; exact k
theorem ite_go {c : Prop} [Decidable c] {α : Type} {x y z : α} (h : c → x = z) (k : ¬ c → y = z) : (if c then x else y) = z := by by_cases q : c; (rw [if_pos q]; exact h q); (rw [if_neg q]; exact k q)
theorem encs1_I64 (x : Int) : tI64.encs [x] = [[.sc (.int .i64 x)]] := rfl
theorem encs1_U8 (x : Int) : tU8.encs [x] = [[.sc (.int .u8 x)]] := rfl
theorem encs1 {α : Type} (T : Ty α) (x : α) : T.encs [x] = [T.enc x] := rfl
theorem mapE1 {α : Type} (f : α → List PV) (x : α) : mapE f [x] = [f x] := rfl
theorem if_go {c : Prop} [Decidable c] {A B : Prop} (h : c → A) (k : ¬ c → B) : if c then A else B := by by_cases q : c; (rw [if_pos q]; exact h q); (rw [if_neg q]; exact k q)
def arrA : AV → Option Nat
  | .one x => arrCs [x]
  | .ag xs => arrCs xs
  | .tp vs => arrG vs
where arrG : List (Bool × List Cell) → Option Nat
  | [] => none
  | v :: r => match arrCs v.2 with
    | some c => some c
    | none => arrG r
def iceAll (I : Ops) : Nat → AV → St → R (AV × St)
  | 0, _, _ => .stuck
  | n + 1, r, S => match arrA r with
    | none => .ok (r, S)
    | some c => match lk c S.σ with
      | some (.row sz es) => iceAll I n (iceA I c sz es r) (ice I c sz es S)
      | _ => .stuck
def nlC : Cell → Cell → Cell
  | .pv .nl, .pv (.sl u s _) => .pv (.sl u s [])
  | c, _ => c
def nlCs : List Cell → List Cell → List Cell
  | c :: r, d :: t => nlC c d :: nlCs r t
  | l, _ => l
def nlGs : List (Bool × List Cell) → List (Bool × List Cell) → List (Bool × List Cell)
  | (g, c) :: r, (_, d) :: t => (g, nlCs c d) :: nlGs r t
  | l, _ => l
def nlA : AV → AV → AV
  | .one c, .one d => .one (nlC c d)
  | .ag c, .ag d => .ag (nlCs c d)
  | .tp c, .tp d => .tp (nlGs c d)
  | a, _ => a
section
variable {w : World} {M : Nat → Prop} {env : EnvT} {E : Ent} {S : St} {R : Value → World → Prop}
theorem RCell.nlC {c d : Cell} {v : Value} (h : RCell w M env c v) : RCell w M env (Aix.nlC c d) v := by
  unfold Aix.nlC
  split
  · cases h with
    | pv h => cases h; exact .pv .nil
  · exact h
theorem RCs.nlCs : ∀ {cs ds : List Cell} {vs : List Value}, RCs w M env cs vs → RCs w M env (Aix.nlCs cs ds) vs
  | _, _, _, .nil => .nil
  | _ :: _, [], _, h => h
  | _ :: _, _ :: _, _, .cons h hr => .cons h.nlC (RCs.nlCs hr)
theorem nlCs_one (c : Cell) (d : List Cell) : ∃ x, Aix.nlCs [c] d = [x] ∧ ∀ {v : Value}, RCell w M env c v → RCell w M env x v := by
  cases d with
  | nil => exact ⟨c, rfl, fun h => h⟩
  | cons d t => exact ⟨Aix.nlC c d, by cases t <;> rfl, fun h => h.nlC⟩
theorem RGs.nlGs : ∀ {l d : List (Bool × List Cell)} {vs : List Value}, RGs w M env l vs → RGs w M env (Aix.nlGs l d) vs
  | _, _, _, .nil => .nil
  | _ :: _, [], _, h => h
  | (g, c) :: r, (_, d) :: t, _, .cons h hr => by
    refine .cons ?_ (RGs.nlGs hr)
    cases g with
    | true =>
      obtain ⟨us, rfl, h⟩ := h
      exact ⟨us, rfl, h.nlCs⟩
    | false =>
      obtain ⟨x, rfl, h⟩ := h
      obtain ⟨y, h1, h2⟩ := nlCs_one (w := w) (M := M) (env := env) x d
      exact ⟨y, h1, h2 h⟩
theorem RAV.nlA {x y : AV} {v : Value} (h : RAV w M env x v) : RAV w M env (Aix.nlA x y) v := by
  unfold Aix.nlA
  split
  · cases h with | one h => exact .one h.nlC
  · cases h with | ag h => exact .ag h.nlCs
  · cases h with | tp h => exact .tp h.nlGs
  · exact h
theorem Ended.iceAll {I : Ops} (hI : I = real) : ∀ {n : Nat} {r r' : AV} {S S' : St}, (Aix.iceAll I n r S).val = some (r', S') → Ended E R r' S' → Ended E R r S
  | 0, _, _, _, _, e, _ => by simp [Aix.iceAll, val_stuck] at e
  | n + 1, r, r', S, S', e, h => by
    unfold Aix.iceAll at e
    split at e
    · simp only [val_ok, Option.some.injEq, Prod.mk.injEq] at e
      obtain ⟨rfl, rfl⟩ := e
      exact h
    · split at e
      · rename_i sz es hlk
        exact Ended.ice hI hlk (Ended.iceAll hI e h)
      · simp [val_stuck] at e
theorem Ended_flat {I : Ops} (hI : I = real) {r r' : AV} {σ : Store} {n : Nat} (h0 : E.n0 = 0) (e : ((Aix.iceAll I 20 r S).bind fun x => endR (Aix.nlA x.1 r') x.2).val = some (r', σ, n)) : Ended E (Back E r' σ n) r S := by
  rw [val_bind] at e
  obtain ⟨⟨x, S'⟩, h1, e⟩ := some_bind e
  refine Ended.iceAll hI h1 ?_
  intro β O a w u hr hv
  exact Ended_of h0 e β O a w u hr hv.nlA
end
end Go.Aix
namespace Go.Aix
structure NilT (c A B : Prop) : Prop where
  l : c → A
  r : B
section
variable {P : Program} {X : Ctx} {f : FuncId} {fn : Func} {b : Code} {E : Ent} {R : Value → World → Prop} {S : St}
end
end Go.Aix
namespace Go.Aix
section
variable {α : Type}
def mixE (f g : α → List PV) (l : List α) (i : Nat) : List (List PV) := mapE f (l.take i) ++ mapE g (l.drop i)
@[simp] theorem mixE_len (f g : α → List PV) (l : List α) (i : Nat) : (mixE f g l i).length = l.length := by
  unfold mixE
  rw [List.length_append, mapE_length, mapE_length, List.length_take, List.length_drop]
  omega
theorem mapE_enc (T : Ty α) : ∀ l, mapE T.enc l = T.encs l
  | [] => rfl
  | a :: l => by show _ :: mapE T.enc l = _ :: T.encs l; rw [mapE_enc T l]
@[simp] theorem mixE_zero (f : α → List PV) (T : Ty α) (l : List α) : mixE f T.enc l 0 = T.encs l := by
  unfold mixE
  rw [List.take_zero, List.drop_zero, ← mapE_enc]
  rfl
end
end Go.Aix
namespace Go.Aix
end Go.Aix
namespace Go.Aix
@[simp] theorem at0_0 (a0 : PV) (l : List PV) : at0 (a0 :: l) 0 = a0 := rfl
@[simp] theorem at0_1 (a0 a1 : PV) (l : List PV) : at0 (a0 :: a1 :: l) 1 = a1 := rfl
@[simp] theorem at0_2 (a0 a1 a2 : PV) (l : List PV) : at0 (a0 :: a1 :: a2 :: l) 2 = a2 := rfl
@[simp] theorem at0_3 (a0 a1 a2 a3 : PV) (l : List PV) : at0 (a0 :: a1 :: a2 :: a3 :: l) 3 = a3 := rfl
@[simp] theorem at0_4 (a0 a1 a2 a3 a4 : PV) (l : List PV) : at0 (a0 :: a1 :: a2 :: a3 :: a4 :: l) 4 = a4 := rfl
@[simp] theorem at0_5 (a0 a1 a2 a3 a4 a5 : PV) (l : List PV) : at0 (a0 :: a1 :: a2 :: a3 :: a4 :: a5 :: l) 5 = a5 := rfl
@[simp] theorem at0_6 (a0 a1 a2 a3 a4 a5 a6 : PV) (l : List PV) : at0 (a0 :: a1 :: a2 :: a3 :: a4 :: a5 :: a6 :: l) 6 = a6 := rfl
end Go.Aix
namespace Go.Aix
end Go.Aix
namespace Go.Aix
end Go.Aix
namespace Go.Aix
inductive NlP : List PV → List PV → Prop
  | nil : NlP [] []
  | same {p : PV} {ps qs : List PV} (h : NlP ps qs) : NlP (p :: ps) (p :: qs)
  | nl {u : Bool} {s : Nat} {ps qs : List PV} (h : NlP ps qs) : NlP (.nl :: ps) (.sl u s [] :: qs)
theorem NlP.length {ps qs : List PV} (h : NlP ps qs) : qs.length = ps.length := by
  induction h with
  | nil => rfl
  | same _ ih => simp [ih]
  | nl _ ih => simp [ih]
theorem NlP.rl {w : World} {M : Nat → Prop} : ∀ {ps qs : List PV} {vs : List Value} {O : List Nat}, NlP ps qs → RL w M ps vs O → RL w M qs vs O
  | _, _, _, _, .nil, h => h
  | _, _, _, _, .same h, .cons h1 hr => .cons h1 (NlP.rl h hr)
  | _, _, _, _, .nl h, .cons h1 hr => by cases h1; exact .cons .nil (NlP.rl h hr)
theorem RLL.setNl {w : World} {M : Nat → Prop} {sz : Nat} {ps qs : List PV} (h : NlP ps qs) : ∀ {es : List (List PV)} {i : Nat} {vs : List Value} {O : List Nat}, RLL w M sz (es.set i ps) vs O → RLL w M sz (es.set i qs) vs O
  | [], _, _, _, hr => by simpa using hr
  | e :: es, 0, _, _, hr => by
    rw [List.set_cons_zero] at hr ⊢
    cases hr with
    | cons hl h1 hr => exact .cons (by rw [h.length]; exact hl) (h.rl h1) hr
  | e :: es, i + 1, _, _, hr => by
    rw [List.set_cons_succ] at hr ⊢
    cases hr with
    | cons hl h1 hr => exact .cons hl h1 (RLL.setNl h hr)
theorem Wk.set {sz i : Nat} {es : List (List PV)} {ps qs : List PV} (h : NlP ps qs) : Wk sz (real.set es i ps) (real.set es i qs) :=
  ⟨by show (es.set i qs).length = (es.set i ps).length; simp, fun w M vs O hr => RLL.setNl h hr⟩
end Go.Aix
