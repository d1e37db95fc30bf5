/-
  THE CALCULUS, TWENTY-NINTH TEXT: Go's values as values of Lean types, and contracts over these.
-/
import Derived.Test.YtiieincddkhcdaaGreatAix4
import Derived.WalkKit
import Derived.ProofKit
import Derived.OpenShut
import Derived.ShutString
import Derived.ChangeOld
import Derived.Below
import Derived.SizedLaws
import Derived.Carry
set_option linter.unusedSimpArgs false
set_option linter.unusedVariables false
namespace Go.Aix
def at0 (ps : List PV) (q : Nat) : PV := (ps[q]?).getD (.sc .nilFunc)
def nth {α : Type} [Inhabited α] (l : List α) (i : Nat) : α := l[i]?.getD default
theorem nth_drop {α : Type} [Inhabited α] {l : List α} {i : Nat} (h : i < l.length) : l.drop i = nth l i :: l.drop (i + 1) := by
  rw [List.drop_eq_getElem_cons h]
  simp [nth, h]
theorem nth_mem {α : Type} [Inhabited α] {l : List α} {i : Nat} (h : i < l.length) : nth l i ∈ l := by simp [nth, h]
section
variable {w : World} {M : Nat → Prop} {env : EnvT}
theorem RL.inv {p : PV} {ps : List PV} {vs : List Value} (h : RL w M (p :: ps) vs []) : ∃ v r, vs = v :: r ∧ RPV w M p v [] ∧ RL w M ps r [] := by
  generalize hO : ([] : List Nat) = O0 at h
  cases h with
  | cons h hr =>
    have := List.append_eq_nil_iff.1 hO.symm
    obtain ⟨rfl, rfl⟩ := this
    exact ⟨_, _, rfl, h, hr⟩
theorem RLL.inv {sz : Nat} {ps : List PV} {es : List (List PV)} {vs : List Value} (h : RLL w M sz (ps :: es) vs []) : ps.length = sz ∧ RL w M ps vs [] ∧ RLL w M sz es (vs.drop sz) [] := by
  generalize hO : ([] : List Nat) = O0 at h
  cases h with
  | cons hl h hr =>
    have := List.append_eq_nil_iff.1 hO.symm
    obtain ⟨rfl, rfl⟩ := this
    exact ⟨hl, h, hr⟩
theorem RL.mk {p : PV} {v : Value} {ps : List PV} {vs : List Value} (h : RPV w M p v []) (hr : RL w M ps vs []) : RL w M (p :: ps) (v :: vs) [] := .cons (O1 := []) (O2 := []) h hr
theorem fitI {k : IntKind} {p : PV} {v : Value} (h : RPV w M p v []) (e : isPInt k p = true) : RPV w M (.sc (.int k (pInt p))) v [] := by
  unfold isPInt at e
  split at e
  · simp only [decide_eq_true_eq] at e
    subst e
    exact h
  · cases e
theorem fitB {p : PV} {v : Value} (h : RPV w M p v []) (e : isPBool p = true) : RPV w M (.sc (.bool (pBool p))) v [] := by
  unfold isPBool at e
  split at e
  · exact h
  · cases e
end
structure Ty (α : Type) where
  sz : Nat
  enc : α → List PV
  dec : List PV → α
  ok : List PV → Bool
  len : ∀ a, (enc a).length = sz
  fit : ∀ {w : World} {M : Nat → Prop} {ps : List PV} {vs : List Value}, RL w M ps vs [] → ok ps = true → RL w M (enc (dec ps)) vs []
  dec_enc : ∀ a, dec (enc a) = a
  ok_enc : ∀ a, ok (enc a) = true
  down : ∀ a, downc (enc a) = enc a
  dead : ∀ a, (enc a).map deadP = enc a
  /-- Made anew: its slices are its own. -/
  own : α → List PV
  olen : ∀ a, (own a).length = sz
  odown : ∀ a, downc (own a) = enc a
  dec_own : ∀ a, dec (own a) = a
  opur : ∀ a, purc (own a) = true
def mapE {α : Type} (f : α → List PV) : List α → List (List PV)
  | [] => []
  | a :: l => f a :: mapE f l
theorem mapE_map {α : Type} (f : α → List PV) : ∀ l, mapE f l = l.map f
  | [] => rfl
  | a :: l => by simp [mapE, mapE_map f l]
theorem mapE_length {α : Type} (f : α → List PV) (l : List α) : (mapE f l).length = l.length := by simp [mapE_map]
theorem mapE_append {α : Type} (f : α → List PV) (l r : List α) : mapE f (l ++ r) = mapE f l ++ mapE f r := by simp [mapE_map]
theorem mapE_get {α : Type} (f : α → List PV) (l : List α) (i : Nat) : (mapE f l)[i]? = l[i]?.map f := by simp [mapE_map]
theorem mapE_set {α : Type} (f : α → List PV) (l : List α) (i : Nat) (a : α) : (mapE f l).set i (f a) = mapE f (l.set i a) := by simp [mapE_map]
section
variable {α : Type} (T : Ty α)
def Ty.encs : List α → List (List PV)
  | [] => []
  | a :: l => T.enc a :: Ty.encs l
def Ty.decs : List (List PV) → List α
  | [] => []
  | a :: l => T.dec a :: Ty.decs l
def Ty.okP (p : PV) : Bool := isSl T.sz p && (els p).all T.ok
theorem Ty.encs_length : ∀ l, (T.encs l).length = l.length
  | [] => rfl
  | a :: l => by simp [encs, Ty.encs_length l]
theorem Ty.encs_get : ∀ l (i : Nat), (T.encs l)[i]? = l[i]?.map T.enc
  | [], i => by simp [encs]
  | a :: l, 0 => by simp [encs]
  | a :: l, i + 1 => by simp [encs, Ty.encs_get l i]
theorem Ty.decs_encs : ∀ l, T.decs (T.encs l) = l
  | [] => rfl
  | a :: l => by simp [encs, decs, T.dec_enc, Ty.decs_encs l]
theorem Ty.ok_encs : ∀ l, (T.encs l).all T.ok = true
  | [] => rfl
  | a :: l => by simp [encs, T.ok_enc]; simpa using Ty.ok_encs l
theorem Ty.downs_encs : ∀ l, downs (T.encs l) = T.encs l
  | [] => rfl
  | a :: l => by simp [encs, downs, T.down, Ty.downs_encs l]
theorem Ty.encs_append : ∀ l r, T.encs (l ++ r) = T.encs l ++ T.encs r
  | [], r => rfl
  | a :: l, r => by simp [encs, Ty.encs_append l r]
theorem Ty.encs_map : ∀ l, T.encs l = l.map T.enc
  | [] => rfl
  | a :: l => by simp [encs, Ty.encs_map l]
theorem Ty.encs_drop (l : List α) (n : Nat) : (T.encs l).drop n = T.encs (l.drop n) := by simp [encs_map]
theorem Ty.encs_take (l : List α) (n : Nat) : (T.encs l).take n = T.encs (l.take n) := by simp [encs_map]
theorem Ty.fits {w : World} {M : Nat → Prop} : ∀ {es : List (List PV)} {vs : List Value}, RLL w M T.sz es vs [] → es.all T.ok = true → RLL w M T.sz (T.encs (T.decs es)) vs []
  | [], vs, h, e => .nil
  | p :: es, vs, h, e => by
    obtain ⟨hl, h1, h2⟩ := h.inv
    simp only [List.all_cons, Bool.and_eq_true] at e
    exact .cons (O1 := []) (O2 := []) (T.len _) (T.fit h1 e.1) (Ty.fits h2 e.2)
theorem Ty.decs_length : ∀ l, (T.decs l).length = l.length
  | [] => rfl
  | a :: l => by simp [decs, Ty.decs_length l]
theorem Ty.fitP {w : World} {M : Nat → Prop} {p : PV} {v : Value} (h : RPV w M p v []) (e : T.okP p = true) : RPV w M (.sl false T.sz (T.encs (T.decs (els p)))) v [] := by
  unfold Ty.okP at e
  rw [Bool.and_eq_true] at e
  have h := h.asSl e.1
  have hl : (T.encs (T.decs (els p))).length = (els p).length := by rw [T.encs_length, T.decs_length]
  generalize els p = es at *
  cases h with
  | nil => exact .nil
  | sh a b c d f =>
    rw [← hl]
    exact .sh (by rw [← List.length_pos_iff, hl]; exact List.length_pos_iff.2 a) b c (by rw [hl]; exact d) (T.fits f e.2)
theorem Ty.deads_encs (l : List α) : deads (T.encs l) = T.encs l := by
  induction l with
  | nil => rfl
  | cons a l ih =>
    show (T.enc a).map deadP :: deads (T.encs l) = T.enc a :: T.encs l
    rw [T.dead, ih]
theorem Ty.downs_own : ∀ l, downs (mapE T.own l) = T.encs l
  | [] => rfl
  | a :: l => by
    show downc (T.own a) :: downs (mapE T.own l) = T.enc a :: T.encs l
    rw [T.odown, Ty.downs_own l]
theorem Ty.decs_own : ∀ l, T.decs (mapE T.own l) = l
  | [] => rfl
  | a :: l => by
    show T.dec (T.own a) :: T.decs (mapE T.own l) = a :: l
    rw [T.dec_own, Ty.decs_own l]
theorem Ty.pur_own : ∀ l, purs (mapE T.own l) = true
  | [] => rfl
  | a :: l => by
    show (purc (T.own a) && purs (mapE T.own l)) = true
    rw [T.opur, Ty.pur_own l]
    rfl
theorem Ty.okP_mk (u : Bool) (l : List α) : T.okP (.sl u T.sz (T.encs l)) = true := by
  unfold Ty.okP
  rw [Bool.and_eq_true]
  exact ⟨by show Nat.beq T.sz T.sz = true; simp, T.ok_encs l⟩
end
def tI64 : Ty Int where
  sz := 1
  enc x := [.sc (.int .i64 x)]
  dec ps := pInt (at0 ps 0)
  ok ps := match ps with
    | [a] => isPInt .i64 a
    | _ => false
  len _ := rfl
  fit := by
    intro w M ps vs h e
    split at e
    · obtain ⟨v, r, rfl, h1, h⟩ := h.inv
      exact .mk (fitI h1 e) h
    · cases e
  dec_enc _ := rfl
  ok_enc _ := rfl
  down _ := rfl
  dead _ := rfl
  own x := [.sc (.int .i64 x)]
  olen _ := rfl
  odown _ := rfl
  dec_own _ := rfl
  opur _ := rfl
def tU8 : Ty Int where
  sz := 1
  enc x := [.sc (.int .u8 x)]
  dec ps := pInt (at0 ps 0)
  ok ps := match ps with
    | [a] => isPInt .u8 a
    | _ => false
  len _ := rfl
  fit := by
    intro w M ps vs h e
    split at e
    · obtain ⟨v, r, rfl, h1, h⟩ := h.inv
      exact .mk (fitI h1 e) h
    · cases e
  dec_enc _ := rfl
  ok_enc _ := rfl
  down _ := rfl
  dead _ := rfl
  own x := [.sc (.int .u8 x)]
  olen _ := rfl
  odown _ := rfl
  dec_own _ := rfl
  opur _ := rfl
def tL {α : Type} (T : Ty α) : Ty (List α) where
  sz := 1
  enc x := [.sl false T.sz (T.encs x)]
  dec ps := T.decs (els (at0 ps 0))
  ok ps := match ps with
    | [a] => T.okP a
    | _ => false
  len _ := rfl
  fit := by
    intro w M ps vs h e
    split at e
    · obtain ⟨v, r, rfl, h1, h⟩ := h.inv
      exact .mk (T.fitP h1 e) h
    · cases e
  dec_enc x := T.decs_encs x
  ok_enc x := T.okP_mk false x
  down x := by simp [downc, PV.down, T.downs_encs]
  dead x := rfl
  own x := [.sl true T.sz (mapE T.own x)]
  olen _ := rfl
  odown x := by simp [downc, PV.down, T.downs_own]
  dec_own x := T.decs_own x
  opur x := by simp [purc, PV.pur, T.pur_own]
section
variable {α : Type} (T : Ty α)
theorem Ty.nth_encs [Inhabited α] {l : List α} {i : Nat} (q : Nat) (h : i < l.length) : real.nth (T.encs l) i q = at0 (T.enc (nth l i)) q := by
  show ((((T.encs l)[i]?).getD [])[q]?).getD (.sc .nilFunc) = _
  rw [T.encs_get]
  simp [at0, nth, h]
theorem Ty.nth_out {l : List α} {i : Nat} (q : Nat) (h : ¬ i < l.length) : real.nth (T.encs l) i q = .sc .nilFunc := by
  show ((((T.encs l)[i]?).getD [])[q]?).getD (.sc .nilFunc) = _
  have hn : l[i]? = none := List.getElem?_eq_none (by omega)
  rw [T.encs_get, hn]
  rfl
theorem Ty.nth_own [Inhabited α] {f : α → List PV} {l : List α} {i : Nat} (q : Nat) (h : i < l.length) : real.nth (mapE f l) i q = at0 (f (nth l i)) q := by
  show ((((mapE f l)[i]?).getD [])[q]?).getD (.sc .nilFunc) = _
  rw [mapE_get]
  simp [at0, nth, h]
theorem Ty.nth_own_out {f : α → List PV} {l : List α} {i : Nat} (q : Nat) (h : ¬ i < l.length) : real.nth (mapE f l) i q = .sc .nilFunc := by
  show ((((mapE f l)[i]?).getD [])[q]?).getD (.sc .nilFunc) = _
  have hn : l[i]? = none := List.getElem?_eq_none (by omega)
  rw [mapE_get, hn]
  rfl
theorem Ty.len_encs (l : List α) : real.len (T.encs l) = l.length := T.encs_length l
theorem Ty.ext_encs (l : List α) (o n : Nat) : real.ext (T.encs l) o n = T.encs ((l.drop o).take n) := by
  show ((T.encs l).drop o).take n = _
  rw [T.encs_drop, T.encs_take]
theorem Ty.deads_real (l : List α) : real.deads (T.encs l) = T.encs l := T.deads_encs l
theorem Ty.downs_real (l : List α) : real.downs (T.encs l) = T.encs l := T.downs_encs l
theorem Ty.app_encs (l r : List α) : real.app (T.encs l) (T.encs r) = T.encs (l ++ r) := (T.encs_append l r).symm
end
theorem tI64_rd (l : List Int) (i : Nat) : real.asInt (real.nth (tI64.encs l) i 0) = nth l i := by
  by_cases h : i < l.length
  · rw [tI64.nth_encs 0 h]; rfl
  · rw [tI64.nth_out 0 h]; simp [nth, h]; rfl
theorem tI64_is {l : List Int} {i : Nat} (h : i < l.length) : real.isInt .i64 (real.nth (tI64.encs l) i 0) = true := by
  rw [tI64.nth_encs 0 h]; rfl
theorem tU8_rd (l : List Int) (i : Nat) : real.asInt (real.nth (tU8.encs l) i 0) = nth l i := by
  by_cases h : i < l.length
  · rw [tU8.nth_encs 0 h]; rfl
  · rw [tU8.nth_out 0 h]; simp [nth, h]; rfl
theorem tU8_is {l : List Int} {i : Nat} (h : i < l.length) : real.isInt .u8 (real.nth (tU8.encs l) i 0) = true := by
  rw [tU8.nth_encs 0 h]; rfl
theorem tL_rd {α : Type} (T : Ty α) (l : List (List α)) (i : Nat) : real.els (real.nth ((tL T).encs l) i 0) = T.encs (nth l i) := by
  by_cases h : i < l.length
  · rw [(tL T).nth_encs 0 h]; exact rfl
  · rw [(tL T).nth_out 0 h]; simp [nth, h]; rfl
theorem tL_is {α : Type} (T : Ty α) {l : List (List α)} {i : Nat} (h : i < l.length) : real.isSh T.sz (real.nth ((tL T).encs l) i 0) = true := by
  rw [(tL T).nth_encs 0 h]; exact Nat.beq_refl _
structure Par (α : Type) where
  enc : α → AV
  dec : AV → Option α
  fit : ∀ {w : World} {M : Nat → Prop} {env : EnvT} {x : AV} {v : Value} {a : α}, RAV w M env x v → dec x = some a → RAV w M env (enc a) v
def pI : Par Int where
  enc n := .one (.pv (.sc (.int .i64 n)))
  dec x := match x with
    | .one (.pv (.sc (.int .i64 n))) => some n
    | _ => none
  fit := by
    intro w M env x v a h e
    split at e
    · cases e; exact h
    · cases e
def pU8 : Par Int where
  enc n := .one (.pv (.sc (.int .u8 n)))
  dec x := match x with
    | .one (.pv (.sc (.int .u8 n))) => some n
    | _ => none
  fit := by
    intro w M env x v a h e
    split at e
    · cases e; exact h
    · cases e
def pB : Par Bool where
  enc n := .one (.pv (.sc (.bool n)))
  dec x := match x with
    | .one (.pv (.sc (.bool n))) => some n
    | _ => none
  fit := by
    intro w M env x v a h e
    split at e
    · cases e; exact h
    · cases e
def pL {α : Type} (T : Ty α) : Par (List α) where
  enc l := .one (.pv (.sl false T.sz (T.encs l)))
  dec x := match x with
    | .one (.pv p) => if T.okP p = true then some (T.decs (els p)) else none
    | _ => none
  fit := by
    intro w M env x v a h e
    split at e
    · rename_i p
      split at e
      · rename_i hp
        cases e
        cases h with
        | one h => cases h with
          | pv h => exact .one (.pv (T.fitP h hp))
      · cases e
    · cases e
theorem pL_dec {α : Type} (T : Ty α) (u : Bool) (l : List α) : (pL T).dec (.one (.pv (.sl u T.sz (T.encs l)))) = some l := by
  show (if T.okP (.sl u T.sz (T.encs l)) = true then some (T.decs (T.encs l)) else none) = _
  rw [if_pos (T.okP_mk u l), T.decs_encs]
theorem pL_nl {α : Type} (T : Ty α) : (pL T).dec (.one (.pv .nl)) = some [] := rfl
def pvs : List Cell → Option (List PV)
  | [] => some []
  | c :: r => match c with
    | .pv p => match pvs r with
      | some l => some (p :: l)
      | none => none
    | _ => none
theorem RCs.pvs {w : World} {M : Nat → Prop} {env : EnvT} : ∀ {cs : List Cell} {vs : List Value} {ps : List PV}, RCs w M env cs vs → Aix.pvs cs = some ps → RL w M ps vs []
  | [], vs, ps, h, e => by
    cases h
    cases e
    exact .nil
  | c :: cs, vs, ps, h, e => by
    unfold Aix.pvs at e
    split at e
    · split at e
      · rename_i l hl
        cases e
        cases h with
        | cons h hr => cases h with
          | pv h => exact .mk h (RCs.pvs hr hl)
      · cases e
    · cases e
theorem RL.cells {w : World} {M : Nat → Prop} {env : EnvT} : ∀ {ps : List PV} {vs : List Value}, RL w M ps vs [] → ps.length = vs.length → RCs w M env (ps.map .pv) vs
  | [], [], _, _ => .nil
  | [], _ :: _, _, e => by simp at e
  | p :: ps, vs, h, e => by
    obtain ⟨v, r, rfl, h1, h⟩ := h.inv
    exact .cons (.pv h1) (RL.cells h (by simpa using e))
def pS {α : Type} (T : Ty α) : Par α where
  enc a := .ag ((T.enc a).map .pv)
  dec x := match x with
    | .ag cs => match pvs cs with
      | some ps => if T.ok ps = true ∧ Nat.beq ps.length T.sz = true then some (T.dec ps) else none
      | none => none
    | _ => none
  fit := by
    intro w M env x v a h e
    split at e
    · rename_i cs
      split at e
      · rename_i ps hps
        split at e
        · rename_i hp
          cases e
          cases h with
          | ag h =>
            have h1 := h.pvs hps
            have hl : cs.length = ps.length := by
              clear h h1 hp
              induction cs generalizing ps with
              | nil => cases hps; rfl
              | cons c cs ih =>
                unfold Aix.pvs at hps
                split at hps
                · split at hps
                  · rename_i l hl
                    cases hps
                    simp [ih _ hl]
                  · cases hps
                · cases hps
            have h2 := h.length
            refine .ag (RL.cells (T.fit h1 hp.1) ?_)
            rw [T.len, ← beq_eq hp.2, ← hl]
            exact h2
        · cases e
      · cases e
    · cases e
structure Pars (τ : Type) where
  enc : τ → List AV
  dec : List AV → Option τ
  fit : ∀ {w : World} {M : Nat → Prop} {env : EnvT} {x : List AV} {v : List Value} {a : τ}, RAVs w M env x v → dec x = some a → RAVs w M env (enc a) v
section
variable {α β γ δ : Type}
def pars0 : Pars Unit where
  enc _ := []
  dec l := match l with
    | [] => some ()
    | _ => none
  fit := by
    intro w M env x v a h e
    split at e
    · exact h
    · cases e
def parsC {τ : Type} (p : Par α) (q : Pars τ) : Pars (α × τ) where
  enc t := p.enc t.1 :: q.enc t.2
  dec l := match l with
    | x :: r => match p.dec x, q.dec r with
      | some a, some t => some (a, t)
      | _, _ => none
    | _ => none
  fit := by
    intro w M env x v a h e
    split at e
    · split at e
      · rename_i a t h1 h2
        cases e
        cases h with
        | cons h hr => exact .cons (p.fit h h1) (q.fit hr h2)
      · cases e
    · cases e
end
structure En where
  pre : List AV → Bool
  i : Nat → List AV → Int
  b : Nat → List AV → Bool
  l : Nat → List AV → List (List PV)
  s : Nat → List AV → ByteArray
  deriving Inhabited
abbrev Shp := Ops → (Nat → Int) → (Nat → Bool) → (Nat → List (List PV)) → (Nat → ByteArray) → R (AV × Store × Nat)
def callE (I : Ops) (e : En) (sh : Shp) (args : List AV) : R (AV × Store × Nat) :=
  .must (e.pre args) (sh I (fun j => e.i j args) (fun j => e.b j args) (fun j => e.l j args) (fun j => e.s j args))
structure An (τ : Type) where
  pre : τ → Bool := fun _ => true
  i : Nat → τ → Int := fun _ _ => 0
  b : Nat → τ → Bool := fun _ _ => false
  l : Nat → τ → List (List PV) := fun _ _ => []
  s : Nat → τ → ByteArray := fun _ _ => ByteArray.empty
def mkE {τ : Type} (q : Pars τ) (a : An τ) : En where
  pre args := match q.dec args with
    | some t => a.pre t
    | none => false
  i j args := match q.dec args with
    | some t => a.i j t
    | none => 0
  b j args := match q.dec args with
    | some t => a.b j t
    | none => false
  l j args := match q.dec args with
    | some t => a.l j t
    | none => []
  s j args := match q.dec args with
    | some t => a.s j t
    | none => ByteArray.empty
theorem RAVs_nothing {P : Program} {g : FuncId} {l l' : List AV} {r : AV} {σ : Store} {n : Nat} (h : Ok0 P g l' r σ n) (ha : ∀ {w : World} {Xs : Nat → Prop} {vs : List Value}, RAVs w Xs (fun _ => none) l vs → RAVs w Xs (fun _ => none) l' vs) : Ok0 P g l r σ n :=
  fun w Xs vs hX hv => h w Xs vs hX (ha hv)
theorem Sound.mkR {P : Program} {τ : Type} {g : FuncId} {q : Pars τ} {a : An τ} {sh : Shp} (he : Enters P g) {I : Ops} (hI : I = real)
    (h : ∀ t, a.pre t = true → ∀ r σ n, (sh real (fun j => a.i j t) (fun j => a.b j t) (fun j => a.l j t) (fun j => a.s j t)).val = some (r, σ, n) → Ok0 P g (q.enc t) r σ n)
    {e : En} (hK : e = Aix.mkE q a) : Sound P g (callE I e sh) := by
  subst hI hK
  refine ⟨he, fun args r σ n e => ?_⟩
  unfold callE at e
  simp only [R.val] at e
  split at e
  · rename_i hp
    simp only [Aix.mkE] at hp e
    split at hp
    · rename_i t ht
      simp only [ht] at e
      exact RAVs_nothing (h t hp r σ n e) (fun hv => q.fit hv ht)
    · cases hp
  · cases e
theorem Sound.mkE {P : Program} {τ : Type} {g : FuncId} {q : Pars τ} {a : An τ} {sh : Shp} {x : τ → AV × Store × Nat} (he : Enters P g) {I : Ops} (hI : I = real)
    (hx : ∀ t, sh real (fun j => a.i j t) (fun j => a.b j t) (fun j => a.l j t) (fun j => a.s j t) = .ok (x t))
    (h : ∀ t, a.pre t = true → Ok0 P g (q.enc t) (x t).1 (x t).2.1 (x t).2.2)
    {e : En} (hK : e = Aix.mkE q a) : Sound P g (callE I e sh) :=
  Sound.mkR he hI (fun t hp r σ n e => by
    rw [hx t] at e
    have e := Option.some.inj e
    have := h t hp
    rw [e] at this
    exact this) hK
end Go.Aix
/-
  THE CALCULUS, THIRTIETH TEXT: what a law is handed reads as values of Lean types.
-/
namespace Go.Aix
open Go.ChangeShapes Go.WideShapes Go.ChangeAt Go.RowKit
def F0 : Nat → Prop := fun _ => False
def inI64 (n : Int) : Prop := -9223372036854775808 ≤ n ∧ n ≤ 9223372036854775807
def TrodFit {α : Type} (P : Program) (T : Ty α) (G : α → Prop) (t : TypeId) : Prop :=
  ∀ {H : Type} (enc : TypeId × Value → H) (w : World) (spare : Nat → Bool) (held : Bool) (fuel : Nat) (cs : List Value) (d : DataW H) (p : List MemPlace),
    DataW.trod enc P w 0 spare held fuel t cs = some (d, p) → ∃ a, G a ∧ RL w F0 (T.enc a) cs []
section
variable {P : Program} {w : World} {H : Type} {enc : TypeId × Value → H} {spare : Nat → Bool} {held : Bool} {M : Nat → Prop}
theorem RL.of_take : ∀ {ps : List PV} {vs : List Value} {n : Nat} {O : List Nat}, RL w M ps (vs.take n) O → RL w M ps vs O
  | [], vs, n, O, h => by cases h; exact .nil
  | p :: ps, vs, n, O, h => by
    cases vs with
    | nil => simpa using h
    | cons v vs => cases n with
      | zero => simp only [List.take_zero] at h; cases h
      | succ n =>
        rw [List.take_succ_cons] at h
        cases h with
        | cons h hr => exact .cons h (RL.of_take hr)
theorem trod_i64 {t : TypeId} {k : IntKind} {fuel : Nat} {cs : List Value} {d : DataW H} {p : List MemPlace} (hu : P.underlying t = some (.int k)) (h : DataW.trod enc P w 0 spare held fuel t cs = some (d, p)) : ∃ n, cs = [.int k n] ∧ (Lit.int k n).wf = true := by
  obtain ⟨n', h, hx, hw⟩ := DataW.trod_int hu h
  exact ⟨n', h, hw⟩
theorem wf_i64 {n : Int} (h : (Lit.int .i64 n).wf = true) : inI64 n := by
  simp only [Lit.wf, Bool.and_eq_true, decide_eq_true_eq] at h
  exact h
theorem fit_i64 {t : TypeId} (hu : P.underlying t = some (.int .i64)) : TrodFit P tI64 inI64 t := by
  intro H enc w spare held fuel cs d p h
  obtain ⟨n, rfl, hw⟩ := trod_i64 hu h
  exact ⟨n, wf_i64 hw, .mk (.sc rfl) .nil⟩
def gL {α : Type} (G : α → Prop) (l : List α) : Prop := l.length ≤ maxLen ∧ ∀ a ∈ l, G a
theorem trod_slice {α : Type} {T : Ty α} {G : α → Prop} {t e : TypeId} (hu : P.underlying t = some (.slice e)) (hc : P.cellsOf e = T.sz) (hpos : 0 < T.sz) (hT : TrodFit P T G e) {fuel : Nat} {cs : List Value} {d : DataW H} {p : List MemPlace}
    (h : DataW.trod enc P w 0 spare held fuel t cs = some (d, p)) : ∃ l v, cs = [v] ∧ gL G l ∧ RPV w F0 (.sl false T.sz (T.encs l)) v [] := by
  rcases DataW.trod_slice hu h with ⟨rfl, _⟩ | ⟨a, len, cap, elems, _, n, _, rfl, _, _, hlc, hcm, hel, hget, _⟩
  · exact ⟨[], _, rfl, ⟨Nat.zero_le _, by simp⟩, .nil⟩
  · have each : ∀ i, i < len → ∃ x c, w.cells? 0 (a.add (i * T.sz)) T.sz = some c ∧ DataW.trod enc P w 0 spare held n e c = some x := by
      intro i hi
      have h1 := hget i hi
      rw [List.getElem?_eq_getElem (by omega)] at h1
      obtain ⟨c, c1, c2⟩ := some_bind h1
      rw [hc] at c1
      exact ⟨_, c, c1, c2⟩
    rcases Nat.eq_zero_or_pos len with h0 | hp
    · subst h0
      exact ⟨[], _, rfl, ⟨Nat.zero_le _, by simp⟩, .nil⟩
    · obtain ⟨x0, c0, q1, q2⟩ := each 0 hp
      obtain ⟨L, b1, b2, b3, b4⟩ := cells_blk q1 hpos
      have e0 : a.add (0 * T.sz) = a := by rw [Nat.zero_mul]; unfold Addr.add; simp
      rw [e0] at b1 b2
      obtain ⟨b, off, sp⟩ := a
      dsimp only at b1 b2
      subst b2
      have hab : blk w b = some L := b1
      have build : ∀ n i, i + n = len → ∃ l : List α, l.length = n ∧ (∀ a ∈ l, G a) ∧ RLL w F0 T.sz (T.encs l) (L.drop (off + i * T.sz)) [] := by
        intro n
        induction n with
        | zero => intro i _; exact ⟨[], rfl, by simp, .nil⟩
        | succ n ih =>
          intro i hi
          obtain ⟨l, l1, l2, l3⟩ := ih (i + 1) (by omega)
          obtain ⟨x, c, c1, c2⟩ := each i (by omega)
          obtain ⟨L', d1, d2, d3, d4⟩ := cells_blk c1 hpos
          rw [addr_add] at d1 d3
          rw [hab] at d1
          obtain rfl := Option.some.inj d1
          obtain ⟨y, y1, y2⟩ := hT enc w spare held _ c x.1 x.2 c2
          refine ⟨y :: l, by simp [l1], ?_, ?_⟩
          · intro z hz
            rcases List.mem_cons.1 hz with rfl | hz
            · exact y1
            · exact l2 z hz
          · rw [d3] at y2
            refine .cons (O1 := []) (O2 := []) (T.len _) (RL.of_take y2) ?_
            rw [List.drop_drop, show off + i * T.sz + T.sz = off + (i + 1) * T.sz from by rw [Nat.add_mul]; omega]
            exact l3
      obtain ⟨l, l1, l2, l3⟩ := build len 0 (by omega)
      refine ⟨l, _, rfl, ⟨by rw [l1]; omega, l2⟩, ?_⟩
      have hl : (T.encs l).length = len := by rw [T.encs_length, l1]
      rw [← hl]
      rw [Nat.zero_mul, Nat.add_zero] at l3
      exact .sh (by rw [← List.length_pos_iff, hl]; exact hp) (fun h => h) hab (by rw [hl]; exact hlc) l3
theorem fit_slice {α : Type} {T : Ty α} {G : α → Prop} {t e : TypeId} (hu : P.underlying t = some (.slice e)) (hc : P.cellsOf e = T.sz) (hpos : 0 < T.sz) (hT : TrodFit P T G e) : TrodFit P (tL T) (gL G) t := by
  intro H enc w spare held fuel cs d p h
  obtain ⟨l, v, rfl, h1, h2⟩ := trod_slice hu hc hpos hT h
  exact ⟨l, h1, .mk h2 .nil⟩
theorem trod_field {t : TypeId} {fs : Array Field} (hu : P.underlying t = some (.struct fs)) {fuel : Nat} {cs : List Value} {x : DataW H × List MemPlace}
    (h : DataW.trod enc P w 0 spare held fuel t cs = some x) : cs.length = P.cellsOf t ∧ ∀ (i : Nat) (f : Field), fs[i]? = some f → ∃ n x, DataW.trod enc P w 0 spare held n f.type ((cs.drop f.offset).take (P.cellsOf f.type)) = some x := by
  obtain ⟨xs, n, _, _, hl, hx, hg⟩ := DataW.trod_struct hu h
  refine ⟨hl, fun i f hf => ?_⟩
  have h1 := hg i f hf
  have hlt : i < xs.length := by rw [hx]; exact (Array.getElem?_eq_some_iff.1 hf).1
  rw [List.getElem?_eq_getElem hlt] at h1
  exact ⟨n, _, h1⟩
def fldOk (P : Program) (t i ti : Nat) : Bool := match P.underlying t with
  | some (.struct fs) => match fs[i]? with
    | some f => Nat.beq f.offset i && Nat.beq f.type ti && Nat.beq (P.cellsOf f.type) 1
    | none => false
  | _ => false
theorem trod_fld {t i ti : Nat} (hk : fldOk P t i ti = true) {fuel : Nat} {cs : List Value} {x : DataW H × List MemPlace}
    (h : DataW.trod enc P w 0 spare held fuel t cs = some x) : ∃ n d p, DataW.trod enc P w 0 spare held n ti ((cs.drop i).take 1) = some (d, p) := by
  unfold fldOk at hk
  split at hk
  · rename_i fs hu
    split at hk
    · rename_i f hf
      simp only [Bool.and_eq_true] at hk
      obtain ⟨n, x, hx⟩ := (trod_field hu h).2 i f hf
      rw [beq_eq hk.1.1, beq_eq hk.2, beq_eq hk.1.2] at hx
      exact ⟨n, x.1, x.2, hx⟩
    · cases hk
  · cases hk
theorem trod_len {t n : Nat} {i ti : Nat} (hk : fldOk P t i ti = true) (hn : P.cellsOf t = n) {fuel : Nat} {cs : List Value} {x : DataW H × List MemPlace}
    (h : DataW.trod enc P w 0 spare held fuel t cs = some x) : cs.length = n := by
  unfold fldOk at hk
  split at hk
  · rename_i fs hu
    rw [← hn]
    exact (trod_field hu h).1
  · cases hk
theorem back_true {w : World} {e : Ending} {w' : World} (h : (match e, w' with
      | .returned u, w' => ∃ β O, Mem (Ent0 w F0) β O [] 0 w' ∧ RAV w' (Mof (Ent0 w F0) β O []) (envOf β []) (scal (.bool true)) u
      | _, _ => False)) : e = .returned (.bool true) ∧ Below w.heap.size w w' := by
  cases e with
  | returned u =>
    obtain ⟨β, O, m, r⟩ := h
    have g := Grown.of m
    refine ⟨?_, g.os, g.tape, g.output, g.size, g.same⟩
    cases r with
    | one r => cases r with
      | pv r => cases r; rfl
  | panicked => exact h.elim
  | outgrown => exact h.elim
end
end Go.Aix
