/- Contracts. -/
import Derived.Test.YtafdnkachndacaaAix6
import Derived.Test.YtafdnkachndacaaAix4
import Derived.Test.YtafdnkachndacaaAix3
import Derived.Test.YtafdnkachndacaaAixX
set_option linter.unusedSimpArgs false
set_option linter.unusedVariables false
namespace Go.Proofs.Try
open Go Go.Aix
set_option maxRecDepth 100000
set_option maxHeartbeats 4000000
set_option linter.unusedSimpArgs false
set_option linter.unusedVariables false
theorem mixed : Try.prog.follows .mixedOrders = true := by kernel_rfl
def szL (n m : Int) : Int := if IntKind.i64.wrap (m - n) < 0 then -1 else IntKind.i64.wrap (m - n)
/-! ### Marks -/
def nx1 (m : Int) : Int := IntKind.i64.wrap (m + 1)
/-- What is written over the elements of a list, one behind the other. -/
def mkS {V : Type} (f : V → Int → V × Int) : List V → Int → List V × Int
  | [], k => ([], k)
  | e :: r, k => ((f e k).1 :: (mkS f r (f e k).2).1, (mkS f r (f e k).2).2)
@[simp] theorem mkS_len {V : Type} (f : V → Int → V × Int) : ∀ (l : List V) (k : Int), (mkS f l k).1.length = l.length
  | [], _ => rfl
  | e :: r, k => by simp [mkS, mkS_len f r]
@[simp] theorem mkS_take {V : Type} (f : V → Int → V × Int) (l : List V) (k : Int) : (mkS f l k).1.take l.length = (mkS f l k).1 := List.take_of_length_le (by rw [mkS_len]; exact Nat.le_refl _)
@[simp] theorem mkS_nil {V : Type} (f : V → Int → V × Int) (k : Int) : mkS f [] k = ([], k) := rfl
def fU8 (_ : Int) (k : Int) : Int × Int := (IntKind.u8.wrap k, nx1 k)
def fI64 (_ : Int) (k : Int) : Int × Int := (k, nx1 k)
theorem mid_nth {V : Type} [Inhabited V] {done l : List V} {i : Nat} (hd : done.length = i) (hi : i < l.length) : nth (done ++ l.drop i) i = nth l i := by
  subst hd
  unfold nth
  rw [List.getElem?_append_right (Nat.le_refl _), Nat.sub_self, List.getElem?_drop, Nat.add_zero]
theorem mid_len {V : Type} {done l : List V} {i : Nat} (hd : done.length = i) (hi : i ≤ l.length) : (done ++ l.drop i).length = l.length := by
  rw [List.length_append, List.length_drop]; omega
theorem mid_set {V : Type} {done l : List V} {i : Nat} (hd : done.length = i) (hi : i < l.length) (f : V → List PV) (y : V) {ps : List PV} (hp : ps = f y) : real.set (mapE f (done ++ l.drop i)) i ps = mapE f ((done ++ [y]) ++ l.drop (i + 1)) := by
  show (mapE f (done ++ l.drop i)).set i ps = _
  rw [hp, mapE_set]
  congr 1
  subst hd
  rw [List.drop_eq_getElem_cons hi, List.set_append_right _ _ (Nat.le_refl _), Nat.sub_self, List.set_cons_zero]
  simp
@[simp] theorem tI64_owns : ∀ l, mapE tI64.own l = tI64.encs l
  | [] => rfl
  | a :: l => by show _ :: mapE tI64.own l = _ :: tI64.encs l; rw [tI64_owns l]; rfl
@[simp] theorem tU8_owns : ∀ l, mapE tU8.own l = tU8.encs l
  | [] => rfl
  | a :: l => by show _ :: mapE tU8.own l = _ :: tU8.encs l; rw [tU8_owns l]; rfl
@[simp] theorem pO_I64 (l : List Int) : (pO tI64).dec (.one (.pv (.sl true 1 (tI64.encs l)))) = some l := by rw [← tI64_owns]; exact pO_dec tI64 l
@[simp] theorem pO_U8 (l : List Int) : (pO tU8).dec (.one (.pv (.sl true 1 (tU8.encs l)))) = some l := by rw [← tU8_owns]; exact pO_dec tU8 l
theorem PV.no_nil {p : PV} (h : els p = []) (h2 : isNo p = true) : p = .nl ∨ ∃ u s, p = .sl u s [] := by
  unfold isNo at h2
  split at h2
  · exact .inl rfl
  · exact .inr ⟨_, _, rfl⟩
  · cases h2
/-! ### Held -/
/-- Is each element as it was marked? -/
def hdS {V : Type} (f : V → Int → Option Int) : List V → Int → Int
  | [], k => k
  | e :: r, k => match f e k with
    | some k' => hdS f r k'
    | none => -1
@[simp] theorem hdS_nil {V : Type} (f : V → Int → Option Int) (k : Int) : hdS f [] k = k := rfl
def hU8 (c k : Int) : Option Int := if c = IntKind.u8.wrap k then some (nx1 k) else none
def hI64 (c k : Int) : Option Int := if c = k then some (nx1 k) else none
/-! ### Sizes -/
def szS {V : Type} (f : V → Int → Int) : List V → Int → Int
  | [], m => m
  | e :: r, m => if f e m < 0 then -1 else szS f r (f e m)
def szA {V : Type} (f : V → Int → Int) (l : List V) (m : Int) : Int := if IntKind.i64.wrap (m - l.length) < 0 then -1 else szS f l (IntKind.i64.wrap (m - l.length))

theorem ent168 : Enters Try.prog 168 := ⟨Try.f168, Try.func168, by kernel_rfl, by kernel_rfl⟩
theorem s168 {I : Ops} (hI : I = real)  : Sound Try.prog 168 (inl X I (Tab.calls []) Try.f168) :=
  Sound.inl (Y := (Tab.calls [])) xok (TabOk.calls mixed trivial) ent168 Try.func168 rfl rfl hI
def an112 : An (List Int × List Int × Unit) where
  pre t := decide (t.1.length < 4611686018427387904)
  b _ t := decide (t.1 = t.2.1)
noncomputable def en112 : En := mkE (parsC (pL tI64) (parsC (pL tI64) pars0)) an112
def sh112 : Shp := fun I i b l s => .ok (.one (.pv (.sc (.bool (b 0)))), [], 0)
theorem ent112 : Enters Try.prog 112 := ⟨Try.f112, Try.func112, by kernel_rfl, by kernel_rfl⟩

theorem L112 {w : World} {Xs : Nat → Prop} (l r : List Int) (hl : l.length < 4611686018427387904) (hlr : l.length = r.length) (es fs : List (List PV)) (hes : es = tI64.encs l) (hfs : fs = tI64.encs r) :
    ∀ (k i : Nat), k + i = l.length → W Try.prog 112 Try.f112 (Ent0 w Xs) (Back (Ent0 w Xs) (.one (.pv (.sc (.bool (decide (l.drop i = r.drop i)))))) [] 0) (place (bodyOf Try.f112) [1,1,0,1,0,0] [])
      ⟨[(0, .one (.pv (.sl false 1 es))), (1, .one (.pv (.sl false 1 fs))), (5, .one (.pv (.sc (.int .i64 i))))], [], 0⟩ := by
  obtain ⟨I, hI⟩ : ∃ I, I = real := ⟨_, rfl⟩
  intro k
  induction k with
  | zero =>
    intro i hk
    refine W_go (Y := (Tab.calls [])) xok (TabOk.calls mixed trivial) Try.func112 rfl 2000 _ hI ?_; (conv => arg 4; cbv)
    repeat' (first | ((with_reducible refine on_eqs ?_ ?_); (focus (with_reducible rfl)); conv => arg 4; cbv) | (with_reducible refine on_both ?_ ?_ <;> (conv => arg 4; cbv)) | (with_reducible refine on_true (by assumption) ?_; conv => arg 4; cbv) | (with_reducible refine on_false (by assumption) ?_; conv => arg 4; cbv) | (with_reducible refine on_ask (fun g => ?_) (fun g => ?_) <;> (have h := g) <;> (try simp (disch := omega) [hI, hes, hfs, -List.length_eq_zero_iff] at h) <;> (try (exfalso; omega)) <;> (conv => arg 4; cbv)) | ((with_reducible refine on_must ?_ ?_); (focus (first | (simp (disch := omega) [hI, hes, hfs]; done) | (simp (disch := omega) [hI, hes, hfs]; omega) | (simp (disch := omega) [hI, hes, hfs]; assumption) | (simp (disch := omega) [hI, hes, hfs]; (refine And.intro ?_ ?_) <;> (first | omega | assumption)))); conv => arg 4; cbv))
    (with_reducible refine on_ret ?_); refine Ended_of rfl ?_; (conv => lhs; cbv)
    have h1 : l.drop i = [] := List.drop_of_length_le (by omega)
    have h2 : r.drop i = [] := List.drop_of_length_le (by omega)
    simp [h1, h2]
  | succ k ih =>
    intro i hk
    refine W_go (Y := (Tab.calls [])) xok (TabOk.calls mixed trivial) Try.func112 rfl 2000 _ hI ?_; (conv => arg 4; cbv)
    have hd : l.drop i = nth l i :: l.drop (i + 1) := nth_drop (by omega)
    have hd' : r.drop i = nth r i :: r.drop (i + 1) := nth_drop (by omega)
    have hlt : i < r.length := by omega
    repeat' (first | ((with_reducible refine on_eqs ?_ ?_); (focus (with_reducible rfl)); conv => arg 4; cbv) | (with_reducible refine on_both ?_ ?_ <;> (conv => arg 4; cbv)) | (with_reducible refine on_true (by assumption) ?_; conv => arg 4; cbv) | (with_reducible refine on_false (by assumption) ?_; conv => arg 4; cbv) | (with_reducible refine on_ask (fun g => ?_) (fun g => ?_) <;> (have h := g) <;> (try simp (disch := omega) [hI, hes, hfs, -List.length_eq_zero_iff] at h) <;> (try (exfalso; omega)) <;> (conv => arg 4; cbv)) | ((with_reducible refine on_must ?_ ?_); (focus (first | (simp (disch := omega) [hI, hes, hfs]; done) | (simp (disch := omega) [hI, hes, hfs]; omega) | (simp (disch := omega) [hI, hes, hfs]; assumption) | (simp (disch := omega) [hI, hes, hfs]; (refine And.intro ?_ ?_) <;> (first | omega | assumption)))); conv => arg 4; cbv))
    · (with_reducible refine on_ret ?_); refine Ended_of rfl ?_; (conv => lhs; cbv); simp_all
    · have e : decide (l.drop i = r.drop i) = decide (l.drop (i + 1) = r.drop (i + 1)) := by simp_all
      rw [e]
      (with_reducible refine on_loop ?_); simp only [List.cons_append, List.nil_append]; refine W_norm [0, 1, 5] ?_ (ih (i + 1) (by omega)); (conv => lhs; cbv)
      first | (simp (disch := omega) [hI, hes, hfs, *]; done) | ((try simp (disch := omega) [hI, hes, hfs, *]); (repeat' split); all_goals (first | rfl | omega | (simp_all; done) | (exfalso; simp_all; omega)))
theorem ok112 (l r : List Int) (hl : l.length < 4611686018427387904) : Ok0 Try.prog 112 [(pL tI64).enc l, (pL tI64).enc r] (.one (.pv (.sc (.bool (decide (l = r)))))) [] 0 := by
  obtain ⟨I, hI⟩ : ∃ I, I = real := ⟨_, rfl⟩
  obtain ⟨es, hes⟩ : ∃ es, es = tI64.encs l := ⟨_, rfl⟩
  obtain ⟨fs, hfs⟩ : ∃ es, es = tI64.encs r := ⟨_, rfl⟩
  show Ok0 Try.prog 112 [.one (.pv (.sl false 1 (tI64.encs l))), .one (.pv (.sl false 1 (tI64.encs r)))] _ [] 0
  rw [← hes, ← hfs]
  refine Ok0_run (Y := (Tab.calls [])) xok (TabOk.calls mixed trivial) Try.func112 rfl rfl rfl 2000 hI fun w Xs => ?_; (conv => arg 4; cbv)
  repeat' (first | ((with_reducible refine on_eqs ?_ ?_); (focus (with_reducible rfl)); conv => arg 4; cbv) | (with_reducible refine on_both ?_ ?_ <;> (conv => arg 4; cbv)) | (with_reducible refine on_true (by assumption) ?_; conv => arg 4; cbv) | (with_reducible refine on_false (by assumption) ?_; conv => arg 4; cbv) | (with_reducible refine on_ask (fun g => ?_) (fun g => ?_) <;> (have h := g) <;> (try simp (disch := omega) [hI, hes, hfs, -List.length_eq_zero_iff] at h) <;> (try (exfalso; omega)) <;> (conv => arg 4; cbv)) | ((with_reducible refine on_must ?_ ?_); (focus (first | (simp (disch := omega) [hI, hes, hfs]; done) | (simp (disch := omega) [hI, hes, hfs]; omega) | (simp (disch := omega) [hI, hes, hfs]; assumption) | (simp (disch := omega) [hI, hes, hfs]; (refine And.intro ?_ ?_) <;> (first | omega | assumption)))); conv => arg 4; cbv))
  · (with_reducible refine on_ret ?_); refine Ended_of rfl ?_; (conv => lhs; cbv)
    have : l ≠ r := by intro e; subst e; simp_all
    simp [this]
  · (with_reducible refine on_loop ?_); simp only [List.cons_append, List.nil_append]; refine W_norm [0, 1, 5] ?_ (L112 l r hl (by omega) es fs hes hfs l.length 0 rfl); (conv => lhs; cbv)
    first | (simp (disch := omega) [hI, hes, hfs, *]; done) | ((try simp (disch := omega) [hI, hes, hfs, *]); (repeat' split); all_goals (first | rfl | omega | (simp_all; done) | (exfalso; simp_all; omega)))

theorem s112 {I : Ops} (hI : I = real) {e : En} (he : e = en112) : Sound Try.prog 112 (callE I e sh112) := by
  refine Sound.mkE ent112 hI (fun _ => rfl) ?_ he
  rintro ⟨l, r, ⟨⟩⟩ hp
  exact ok112 l r (of_decide_eq_true hp)
def an170 : An (List Int × Unit) where
  pre t := decide (t.1.length ≤ 1048576)
  l _ t := tI64.encs t.1
noncomputable def en170 : En := mkE (parsC (pL tI64) pars0) an170
def sh170 : Shp := fun I i b l s => .ok (.one (.arr 0 0 (I.len (l 0))), [(0, .row 1 (l 0))], 1)
theorem ent170 : Enters Try.prog 170 := ⟨Try.f170, Try.func170, by kernel_rfl, by kernel_rfl⟩

theorem L170 {w : World} {Xs : Nat → Prop} (l : List Int) (hl : l.length ≤ 1048576) (es : List (List PV)) (hes : es = tI64.encs l) (n : Nat) (hn : n = l.length) :
    ∀ (k i : Nat) (rs : List (List PV)), rs = pad tI64.enc [.sc (.int .i64 0)] l i → k + i = l.length → W Try.prog 170 Try.f170 (Ent0 w Xs) (Back (Ent0 w Xs) (.one (.arr 0 0 l.length)) [(0, .row 1 (tI64.encs l))] 1) (place (bodyOf Try.f170) [1,1,0,1,0,0] [])
      ⟨[(0, .one (.pv (.sl false 1 es))), (3, .one (.arr 0 0 n)), (4, .one (.pv (.sc (.int .i64 i))))], [(0, .row 1 rs)], 1⟩ := by
  obtain ⟨I, hI⟩ : ∃ I, I = real := ⟨_, rfl⟩
  intro k
  induction k with
  | zero =>
    intro i rs hrs hk
    refine W_go (Y := (Tab.calls [])) xok (TabOk.calls mixed trivial) Try.func170 rfl 2000 _ hI ?_; (conv => arg 4; cbv)
    repeat' (first | ((with_reducible refine on_eqs ?_ ?_); (focus (with_reducible rfl)); conv => arg 4; cbv) | (with_reducible refine on_both ?_ ?_ <;> (conv => arg 4; cbv)) | (with_reducible refine on_true (by assumption) ?_; conv => arg 4; cbv) | (with_reducible refine on_false (by assumption) ?_; conv => arg 4; cbv) | (with_reducible refine on_ask (fun g => ?_) (fun g => ?_) <;> (have h := g) <;> (try simp (disch := omega) [hI, hes, hrs, hn, -List.length_eq_zero_iff] at h) <;> (try (exfalso; omega)) <;> (conv => arg 4; cbv)) | ((with_reducible refine on_must ?_ ?_); (focus (first | (simp (disch := omega) [hI, hes, hrs, hn]; done) | (simp (disch := omega) [hI, hes, hrs, hn]; omega) | (simp (disch := omega) [hI, hes, hrs, hn]; assumption) | (simp (disch := omega) [hI, hes, hrs, hn]; (refine And.intro ?_ ?_) <;> (first | omega | assumption)))); conv => arg 4; cbv))
    (with_reducible refine on_ret ?_); refine Ended_of rfl ?_; (conv => lhs; cbv)
    rw [hrs, hn, pad_done _ _ _ _ (by omega), mapE_map, Ty.encs_map]
  | succ k ih =>
    intro i rs hrs hk
    refine W_go (Y := (Tab.calls [])) xok (TabOk.calls mixed trivial) Try.func170 rfl 2000 _ hI ?_; (conv => arg 4; cbv)
    have hp := pad_length tI64.enc [.sc (.int .i64 0)] l i (by omega)
    repeat' (first | ((with_reducible refine on_eqs ?_ ?_); (focus (with_reducible rfl)); conv => arg 4; cbv) | (with_reducible refine on_both ?_ ?_ <;> (conv => arg 4; cbv)) | (with_reducible refine on_true (by assumption) ?_; conv => arg 4; cbv) | (with_reducible refine on_false (by assumption) ?_; conv => arg 4; cbv) | (with_reducible refine on_ask (fun g => ?_) (fun g => ?_) <;> (have h := g) <;> (try simp (disch := omega) [hI, hes, hrs, hn, -List.length_eq_zero_iff] at h) <;> (try (exfalso; omega)) <;> (conv => arg 4; cbv)) | ((with_reducible refine on_must ?_ ?_); (focus (first | (simp (disch := omega) [hI, hes, hrs, hn]; done) | (simp (disch := omega) [hI, hes, hrs, hn]; omega) | (simp (disch := omega) [hI, hes, hrs, hn]; assumption) | (simp (disch := omega) [hI, hes, hrs, hn]; (refine And.intro ?_ ?_) <;> (first | omega | assumption)))); conv => arg 4; cbv))
    (with_reducible refine on_loop ?_); simp only [List.cons_append, List.nil_append]; refine W_norm [0, 3, 4] ?_ (ih (i + 1) _ rfl (by omega)); (conv => lhs; cbv)
    rw [← pad_set tI64.enc [.sc (.int .i64 0)] l i (by omega) _ rfl]
    simp (disch := omega) [hI, hes, hrs, hn, *]
    try rfl
theorem ok170 (l : List Int) (hl : l.length ≤ 1048576) : Ok0 Try.prog 170 [(pL tI64).enc l] (.one (.arr 0 0 (real.len (tI64.encs l)))) [(0, .row 1 (tI64.encs l))] 1 := by
  obtain ⟨I, hI⟩ : ∃ I, I = real := ⟨_, rfl⟩
  have hrs : True := trivial
  have hn : True := trivial
  obtain ⟨es, hes⟩ : ∃ es, es = tI64.encs l := ⟨_, rfl⟩
  rw [tI64.len_encs]
  show Ok0 Try.prog 170 [.one (.pv (.sl false 1 (tI64.encs l)))] _ [(0, .row 1 (tI64.encs l))] 1
  refine RAVs_nothing (l' := [.one (.pv (.sl false 1 es))]) ?_ (fun h => by rw [hes]; exact h)
  refine Ok0_run (Y := (Tab.calls [])) xok (TabOk.calls mixed trivial) Try.func170 rfl rfl rfl 2000 hI fun w Xs => ?_; (conv => arg 4; cbv)
  repeat' (first | ((with_reducible refine on_eqs ?_ ?_); (focus (with_reducible rfl)); conv => arg 4; cbv) | (with_reducible refine on_both ?_ ?_ <;> (conv => arg 4; cbv)) | (with_reducible refine on_true (by assumption) ?_; conv => arg 4; cbv) | (with_reducible refine on_false (by assumption) ?_; conv => arg 4; cbv) | (with_reducible refine on_ask (fun g => ?_) (fun g => ?_) <;> (have h := g) <;> (try simp (disch := omega) [hI, hes, hrs, hn, -List.length_eq_zero_iff] at h) <;> (try (exfalso; omega)) <;> (conv => arg 4; cbv)) | ((with_reducible refine on_must ?_ ?_); (focus (first | (simp (disch := omega) [hI, hes, hrs, hn]; done) | (simp (disch := omega) [hI, hes, hrs, hn]; omega) | (simp (disch := omega) [hI, hes, hrs, hn]; assumption) | (simp (disch := omega) [hI, hes, hrs, hn]; (refine And.intro ?_ ?_) <;> (first | omega | assumption)))); conv => arg 4; cbv))
  (with_reducible refine on_loop ?_); simp only [List.cons_append, List.nil_append]; refine W_norm [0, 3, 4] ?_ (L170 l hl es hes l.length rfl l.length 0 _ rfl rfl); (conv => lhs; cbv)
  rw [← pad_zero tI64.enc [.sc (.int .i64 0)] l l.length rfl]
  simp (disch := omega) [hI, hes, hrs, hn, *]

theorem s170 {I : Ops} (hI : I = real) {e : En} (he : e = en170) : Sound Try.prog 170 (callE I e sh170) := by
  refine Sound.mkE ent170 hI (fun _ => rfl) ?_ he
  rintro ⟨l, ⟨⟩⟩ hp
  exact ok170 l (of_decide_eq_true hp)
def an56 : An (List Int × List Int × Unit) where
  pre t := decide (t.1.length < 4611686018427387904)
  b _ t := decide (t.1 = t.2.1)
noncomputable def en56 : En := mkE (parsC (pL tU8) (parsC (pL tU8) pars0)) an56
def sh56 : Shp := fun I i b l s => .ok (.one (.pv (.sc (.bool (b 0)))), [], 0)
theorem ent56 : Enters Try.prog 56 := ⟨Try.f56, Try.func56, by kernel_rfl, by kernel_rfl⟩

theorem L56 {w : World} {Xs : Nat → Prop} (l r : List Int) (hl : l.length < 4611686018427387904) (hlr : l.length = r.length) (es fs : List (List PV)) (hes : es = tU8.encs l) (hfs : fs = tU8.encs r) :
    ∀ (k i : Nat), k + i = l.length → W Try.prog 56 Try.f56 (Ent0 w Xs) (Back (Ent0 w Xs) (.one (.pv (.sc (.bool (decide (l.drop i = r.drop i)))))) [] 0) (place (bodyOf Try.f56) [1,1,0,1,0,0] [])
      ⟨[(0, .one (.pv (.sl false 1 es))), (1, .one (.pv (.sl false 1 fs))), (5, .one (.pv (.sc (.int .i64 i))))], [], 0⟩ := by
  obtain ⟨I, hI⟩ : ∃ I, I = real := ⟨_, rfl⟩
  intro k
  induction k with
  | zero =>
    intro i hk
    refine W_go (Y := (Tab.calls [])) xok (TabOk.calls mixed trivial) Try.func56 rfl 2000 _ hI ?_; (conv => arg 4; cbv)
    repeat' (first | ((with_reducible refine on_eqs ?_ ?_); (focus (with_reducible rfl)); conv => arg 4; cbv) | (with_reducible refine on_both ?_ ?_ <;> (conv => arg 4; cbv)) | (with_reducible refine on_true (by assumption) ?_; conv => arg 4; cbv) | (with_reducible refine on_false (by assumption) ?_; conv => arg 4; cbv) | (with_reducible refine on_ask (fun g => ?_) (fun g => ?_) <;> (have h := g) <;> (try simp (disch := omega) [hI, hes, hfs, -List.length_eq_zero_iff] at h) <;> (try (exfalso; omega)) <;> (conv => arg 4; cbv)) | ((with_reducible refine on_must ?_ ?_); (focus (first | (simp (disch := omega) [hI, hes, hfs]; done) | (simp (disch := omega) [hI, hes, hfs]; omega) | (simp (disch := omega) [hI, hes, hfs]; assumption) | (simp (disch := omega) [hI, hes, hfs]; (refine And.intro ?_ ?_) <;> (first | omega | assumption)))); conv => arg 4; cbv))
    (with_reducible refine on_ret ?_); refine Ended_of rfl ?_; (conv => lhs; cbv)
    have h1 : l.drop i = [] := List.drop_of_length_le (by omega)
    have h2 : r.drop i = [] := List.drop_of_length_le (by omega)
    simp [h1, h2]
  | succ k ih =>
    intro i hk
    refine W_go (Y := (Tab.calls [])) xok (TabOk.calls mixed trivial) Try.func56 rfl 2000 _ hI ?_; (conv => arg 4; cbv)
    have hd : l.drop i = nth l i :: l.drop (i + 1) := nth_drop (by omega)
    have hd' : r.drop i = nth r i :: r.drop (i + 1) := nth_drop (by omega)
    have hlt : i < r.length := by omega
    repeat' (first | ((with_reducible refine on_eqs ?_ ?_); (focus (with_reducible rfl)); conv => arg 4; cbv) | (with_reducible refine on_both ?_ ?_ <;> (conv => arg 4; cbv)) | (with_reducible refine on_true (by assumption) ?_; conv => arg 4; cbv) | (with_reducible refine on_false (by assumption) ?_; conv => arg 4; cbv) | (with_reducible refine on_ask (fun g => ?_) (fun g => ?_) <;> (have h := g) <;> (try simp (disch := omega) [hI, hes, hfs, -List.length_eq_zero_iff] at h) <;> (try (exfalso; omega)) <;> (conv => arg 4; cbv)) | ((with_reducible refine on_must ?_ ?_); (focus (first | (simp (disch := omega) [hI, hes, hfs]; done) | (simp (disch := omega) [hI, hes, hfs]; omega) | (simp (disch := omega) [hI, hes, hfs]; assumption) | (simp (disch := omega) [hI, hes, hfs]; (refine And.intro ?_ ?_) <;> (first | omega | assumption)))); conv => arg 4; cbv))
    · (with_reducible refine on_ret ?_); refine Ended_of rfl ?_; (conv => lhs; cbv); simp_all
    · have e : decide (l.drop i = r.drop i) = decide (l.drop (i + 1) = r.drop (i + 1)) := by simp_all
      rw [e]
      (with_reducible refine on_loop ?_); simp only [List.cons_append, List.nil_append]; refine W_norm [0, 1, 5] ?_ (ih (i + 1) (by omega)); (conv => lhs; cbv)
      first | (simp (disch := omega) [hI, hes, hfs, *]; done) | ((try simp (disch := omega) [hI, hes, hfs, *]); (repeat' split); all_goals (first | rfl | omega | (simp_all; done) | (exfalso; simp_all; omega)))
theorem ok56 (l r : List Int) (hl : l.length < 4611686018427387904) : Ok0 Try.prog 56 [(pL tU8).enc l, (pL tU8).enc r] (.one (.pv (.sc (.bool (decide (l = r)))))) [] 0 := by
  obtain ⟨I, hI⟩ : ∃ I, I = real := ⟨_, rfl⟩
  obtain ⟨es, hes⟩ : ∃ es, es = tU8.encs l := ⟨_, rfl⟩
  obtain ⟨fs, hfs⟩ : ∃ es, es = tU8.encs r := ⟨_, rfl⟩
  show Ok0 Try.prog 56 [.one (.pv (.sl false 1 (tU8.encs l))), .one (.pv (.sl false 1 (tU8.encs r)))] _ [] 0
  rw [← hes, ← hfs]
  refine Ok0_run (Y := (Tab.calls [])) xok (TabOk.calls mixed trivial) Try.func56 rfl rfl rfl 2000 hI fun w Xs => ?_; (conv => arg 4; cbv)
  repeat' (first | ((with_reducible refine on_eqs ?_ ?_); (focus (with_reducible rfl)); conv => arg 4; cbv) | (with_reducible refine on_both ?_ ?_ <;> (conv => arg 4; cbv)) | (with_reducible refine on_true (by assumption) ?_; conv => arg 4; cbv) | (with_reducible refine on_false (by assumption) ?_; conv => arg 4; cbv) | (with_reducible refine on_ask (fun g => ?_) (fun g => ?_) <;> (have h := g) <;> (try simp (disch := omega) [hI, hes, hfs, -List.length_eq_zero_iff] at h) <;> (try (exfalso; omega)) <;> (conv => arg 4; cbv)) | ((with_reducible refine on_must ?_ ?_); (focus (first | (simp (disch := omega) [hI, hes, hfs]; done) | (simp (disch := omega) [hI, hes, hfs]; omega) | (simp (disch := omega) [hI, hes, hfs]; assumption) | (simp (disch := omega) [hI, hes, hfs]; (refine And.intro ?_ ?_) <;> (first | omega | assumption)))); conv => arg 4; cbv))
  · (with_reducible refine on_ret ?_); refine Ended_of rfl ?_; (conv => lhs; cbv)
    have : l ≠ r := by intro e; subst e; simp_all
    simp [this]
  · (with_reducible refine on_loop ?_); simp only [List.cons_append, List.nil_append]; refine W_norm [0, 1, 5] ?_ (L56 l r hl (by omega) es fs hes hfs l.length 0 rfl); (conv => lhs; cbv)
    first | (simp (disch := omega) [hI, hes, hfs, *]; done) | ((try simp (disch := omega) [hI, hes, hfs, *]); (repeat' split); all_goals (first | rfl | omega | (simp_all; done) | (exfalso; simp_all; omega)))

theorem s56 {I : Ops} (hI : I = real) {e : En} (he : e = en56) : Sound Try.prog 56 (callE I e sh56) := by
  refine Sound.mkE ent56 hI (fun _ => rfl) ?_ he
  rintro ⟨l, r, ⟨⟩⟩ hp
  exact ok56 l r (of_decide_eq_true hp)
def an53 : An (List Int × Unit) where
  pre t := decide (t.1.length ≤ 1048576)
  l _ t := tU8.encs t.1
noncomputable def en53 : En := mkE (parsC (pL tU8) pars0) an53
def sh53 : Shp := fun I i b l s => .ok (.one (.arr 0 0 (I.len (l 0))), [(0, .row 1 (l 0))], 1)
theorem ent53 : Enters Try.prog 53 := ⟨Try.f53, Try.func53, by kernel_rfl, by kernel_rfl⟩

theorem L53 {w : World} {Xs : Nat → Prop} (l : List Int) (hl : l.length ≤ 1048576) (es : List (List PV)) (hes : es = tU8.encs l) (n : Nat) (hn : n = l.length) :
    ∀ (k i : Nat) (rs : List (List PV)), rs = pad tU8.enc [.sc (.int .u8 0)] l i → k + i = l.length → W Try.prog 53 Try.f53 (Ent0 w Xs) (Back (Ent0 w Xs) (.one (.arr 0 0 l.length)) [(0, .row 1 (tU8.encs l))] 1) (place (bodyOf Try.f53) [1,1,0,1,0,0] [])
      ⟨[(0, .one (.pv (.sl false 1 es))), (3, .one (.arr 0 0 n)), (4, .one (.pv (.sc (.int .i64 i))))], [(0, .row 1 rs)], 1⟩ := by
  obtain ⟨I, hI⟩ : ∃ I, I = real := ⟨_, rfl⟩
  intro k
  induction k with
  | zero =>
    intro i rs hrs hk
    refine W_go (Y := (Tab.calls [])) xok (TabOk.calls mixed trivial) Try.func53 rfl 2000 _ hI ?_; (conv => arg 4; cbv)
    repeat' (first | ((with_reducible refine on_eqs ?_ ?_); (focus (with_reducible rfl)); conv => arg 4; cbv) | (with_reducible refine on_both ?_ ?_ <;> (conv => arg 4; cbv)) | (with_reducible refine on_true (by assumption) ?_; conv => arg 4; cbv) | (with_reducible refine on_false (by assumption) ?_; conv => arg 4; cbv) | (with_reducible refine on_ask (fun g => ?_) (fun g => ?_) <;> (have h := g) <;> (try simp (disch := omega) [hI, hes, hrs, hn, -List.length_eq_zero_iff] at h) <;> (try (exfalso; omega)) <;> (conv => arg 4; cbv)) | ((with_reducible refine on_must ?_ ?_); (focus (first | (simp (disch := omega) [hI, hes, hrs, hn]; done) | (simp (disch := omega) [hI, hes, hrs, hn]; omega) | (simp (disch := omega) [hI, hes, hrs, hn]; assumption) | (simp (disch := omega) [hI, hes, hrs, hn]; (refine And.intro ?_ ?_) <;> (first | omega | assumption)))); conv => arg 4; cbv))
    (with_reducible refine on_ret ?_); refine Ended_of rfl ?_; (conv => lhs; cbv)
    rw [hrs, hn, pad_done _ _ _ _ (by omega), mapE_map, Ty.encs_map]
  | succ k ih =>
    intro i rs hrs hk
    refine W_go (Y := (Tab.calls [])) xok (TabOk.calls mixed trivial) Try.func53 rfl 2000 _ hI ?_; (conv => arg 4; cbv)
    have hp := pad_length tU8.enc [.sc (.int .u8 0)] l i (by omega)
    repeat' (first | ((with_reducible refine on_eqs ?_ ?_); (focus (with_reducible rfl)); conv => arg 4; cbv) | (with_reducible refine on_both ?_ ?_ <;> (conv => arg 4; cbv)) | (with_reducible refine on_true (by assumption) ?_; conv => arg 4; cbv) | (with_reducible refine on_false (by assumption) ?_; conv => arg 4; cbv) | (with_reducible refine on_ask (fun g => ?_) (fun g => ?_) <;> (have h := g) <;> (try simp (disch := omega) [hI, hes, hrs, hn, -List.length_eq_zero_iff] at h) <;> (try (exfalso; omega)) <;> (conv => arg 4; cbv)) | ((with_reducible refine on_must ?_ ?_); (focus (first | (simp (disch := omega) [hI, hes, hrs, hn]; done) | (simp (disch := omega) [hI, hes, hrs, hn]; omega) | (simp (disch := omega) [hI, hes, hrs, hn]; assumption) | (simp (disch := omega) [hI, hes, hrs, hn]; (refine And.intro ?_ ?_) <;> (first | omega | assumption)))); conv => arg 4; cbv))
    (with_reducible refine on_loop ?_); simp only [List.cons_append, List.nil_append]; refine W_norm [0, 3, 4] ?_ (ih (i + 1) _ rfl (by omega)); (conv => lhs; cbv)
    rw [← pad_set tU8.enc [.sc (.int .u8 0)] l i (by omega) _ rfl]
    simp (disch := omega) [hI, hes, hrs, hn, *]
    try rfl
theorem ok53 (l : List Int) (hl : l.length ≤ 1048576) : Ok0 Try.prog 53 [(pL tU8).enc l] (.one (.arr 0 0 (real.len (tU8.encs l)))) [(0, .row 1 (tU8.encs l))] 1 := by
  obtain ⟨I, hI⟩ : ∃ I, I = real := ⟨_, rfl⟩
  have hrs : True := trivial
  have hn : True := trivial
  obtain ⟨es, hes⟩ : ∃ es, es = tU8.encs l := ⟨_, rfl⟩
  rw [tU8.len_encs]
  show Ok0 Try.prog 53 [.one (.pv (.sl false 1 (tU8.encs l)))] _ [(0, .row 1 (tU8.encs l))] 1
  refine RAVs_nothing (l' := [.one (.pv (.sl false 1 es))]) ?_ (fun h => by rw [hes]; exact h)
  refine Ok0_run (Y := (Tab.calls [])) xok (TabOk.calls mixed trivial) Try.func53 rfl rfl rfl 2000 hI fun w Xs => ?_; (conv => arg 4; cbv)
  repeat' (first | ((with_reducible refine on_eqs ?_ ?_); (focus (with_reducible rfl)); conv => arg 4; cbv) | (with_reducible refine on_both ?_ ?_ <;> (conv => arg 4; cbv)) | (with_reducible refine on_true (by assumption) ?_; conv => arg 4; cbv) | (with_reducible refine on_false (by assumption) ?_; conv => arg 4; cbv) | (with_reducible refine on_ask (fun g => ?_) (fun g => ?_) <;> (have h := g) <;> (try simp (disch := omega) [hI, hes, hrs, hn, -List.length_eq_zero_iff] at h) <;> (try (exfalso; omega)) <;> (conv => arg 4; cbv)) | ((with_reducible refine on_must ?_ ?_); (focus (first | (simp (disch := omega) [hI, hes, hrs, hn]; done) | (simp (disch := omega) [hI, hes, hrs, hn]; omega) | (simp (disch := omega) [hI, hes, hrs, hn]; assumption) | (simp (disch := omega) [hI, hes, hrs, hn]; (refine And.intro ?_ ?_) <;> (first | omega | assumption)))); conv => arg 4; cbv))
  (with_reducible refine on_loop ?_); simp only [List.cons_append, List.nil_append]; refine W_norm [0, 3, 4] ?_ (L53 l hl es hes l.length rfl l.length 0 _ rfl rfl); (conv => lhs; cbv)
  rw [← pad_zero tU8.enc [.sc (.int .u8 0)] l l.length rfl]
  simp (disch := omega) [hI, hes, hrs, hn, *]

theorem s53 {I : Ops} (hI : I = real) {e : En} (he : e = en53) : Sound Try.prog 53 (callE I e sh53) := by
  refine Sound.mkE ent53 hI (fun _ => rfl) ?_ he
  rintro ⟨l, ⟨⟩⟩ hp
  exact ok53 l (of_decide_eq_true hp)
def an113 : An (List Int × Int × Unit) where
  pre t := decide (t.1.length < 4611686018427387904)
  i _ t := (mkS fI64 t.1 t.2.1).2
  l _ t := mapE tI64.own (mkS fI64 t.1 t.2.1).1
noncomputable def en113 : En := mkE (parsC (pO tI64) (parsC pI pars0)) an113
theorem ent113 : Enters Try.prog 113 := ⟨Try.f113, Try.func113, by kernel_rfl, by kernel_rfl⟩

theorem L113 {w : World} {Xs : Nat → Prop} {β0 : Nat → Nat × Nat} {O0 : Nat → List Nat} (es0 : List (List PV)) (l : List Int) (hl : l.length < 4611686018427387904) (n : Nat) (hn : n = l.length) :
    ∀ (kk i : Nat) (m : Int) (done : List Int) (rs : List (List PV)), kk + i = l.length → done.length = i → rs = (tI64.encs (done ++ l.drop i)) → W Try.prog 113 Try.f113 (EntR w Xs β0 O0 [(0, .row 1 es0)] 1) (Back (EntR w Xs β0 O0 [(0, .row 1 es0)] 1) (.one (.pv (.sc (.int .i64 (mkS fI64 (l.drop i) m).2)))) [(0, .row 1 (tI64.encs (done ++ (mkS fI64 (l.drop i) m).1)))] 1) (place (bodyOf Try.f113) [1,0,1,0,0] [])
      ⟨[(0, .one (.arr 0 0 n)), (1, .one (.pv (.sc (.int .i64 m)))), (5, .one (.pv (.sc (.int .i64 i))))], [(0, .row 1 rs)], 1⟩ := by
  obtain ⟨I, hI⟩ : ∃ I, I = real := ⟨_, rfl⟩
  intro kk
  induction kk with
  | zero =>
    intro i m done rs hk hdn hrs
    have hlen : (done ++ l.drop i).length = l.length := mid_len hdn (by omega)
    have hlen2 : rs.length = l.length := by rw [hrs]; simp only [Ty.encs_length, mapE_length]; exact hlen
    have h1 : l.drop i = [] := List.drop_of_length_le (by omega)
    have hnth : True := trivial
    refine W_go (Y := (Tab.calls [])) xok (TabOk.calls mixed trivial) Try.func113 rfl 2000 _ hI ?_; (conv => arg 4; cbv)
    repeat' (first | ((with_reducible refine on_eqs ?_ ?_); (focus (with_reducible rfl)); conv => arg 4; cbv) | (with_reducible refine on_both ?_ ?_ <;> (conv => arg 4; cbv)) | (with_reducible refine on_true (by assumption) ?_; conv => arg 4; cbv) | (with_reducible refine on_false (by assumption) ?_; conv => arg 4; cbv) | (with_reducible refine on_ask (fun g => ?_) (fun g => ?_) <;> (have h := g) <;> (try simp (disch := omega) [hI, hlen, hlen2, hnth, hn, -List.length_eq_zero_iff] at h) <;> (try (exfalso; omega)) <;> (conv => arg 4; cbv)) | ((with_reducible refine on_must ?_ ?_); (focus (first | (simp (disch := omega) [hI, hlen, hlen2, hnth, hn]; done) | (simp (disch := omega) [hI, hlen, hlen2, hnth, hn]; omega) | (simp (disch := omega) [hI, hlen, hlen2, hnth, hn]; assumption) | (simp (disch := omega) [hI, hlen, hlen2, hnth, hn]; (refine And.intro ?_ ?_) <;> (first | omega | assumption)))); conv => arg 4; cbv))
    (with_reducible refine on_ret ?_); refine EndedN_of ?_; (conv => lhs; cbv)
    rw [hrs, h1]
    simp [mkS]
  | succ kk ih =>
    intro i m done rs hk hdn hrs
    have hlen : (done ++ l.drop i).length = l.length := mid_len hdn (by omega)
    have hlen2 : rs.length = l.length := by rw [hrs]; simp only [Ty.encs_length, mapE_length]; exact hlen
    have hnth : nth (done ++ l.drop i) i = nth l i := mid_nth hdn (by omega)
    have hset : ∀ (y : Int) {ps : List PV}, ps = tI64.own y → real.set rs i ps = (tI64.encs ((done ++ [y]) ++ l.drop (i + 1))) := by
      intro y ps hy
      rw [hrs]
      rw [← tI64_owns, ← tI64_owns]
      exact mid_set hdn (by omega) tI64.own y hy
    have hd : l.drop i = nth l i :: l.drop (i + 1) := nth_drop (by omega)
    refine W_go (Y := (Tab.calls [])) xok (TabOk.calls mixed trivial) Try.func113 rfl 2000 _ hI ?_; (conv => arg 4; cbv)
    repeat' (first | ((with_reducible refine on_eqs ?_ ?_); (focus (with_reducible rfl)); conv => arg 4; cbv) | (with_reducible refine on_both ?_ ?_ <;> (conv => arg 4; cbv)) | (with_reducible refine on_true (by assumption) ?_; conv => arg 4; cbv) | (with_reducible refine on_false (by assumption) ?_; conv => arg 4; cbv) | (with_reducible refine on_ask (fun g => ?_) (fun g => ?_) <;> (have h := g) <;> (try simp (disch := omega) [hI, hlen, hlen2, hnth, hn, -List.length_eq_zero_iff] at h) <;> (try (exfalso; omega)) <;> (conv => arg 4; cbv)) | ((with_reducible refine on_must ?_ ?_); (focus (first | (simp (disch := omega) [hI, hlen, hlen2, hnth, hn]; done) | (simp (disch := omega) [hI, hlen, hlen2, hnth, hn]; omega) | (simp (disch := omega) [hI, hlen, hlen2, hnth, hn]; assumption) | (simp (disch := omega) [hI, hlen, hlen2, hnth, hn]; (refine And.intro ?_ ?_) <;> (first | omega | assumption)))); conv => arg 4; cbv))
    · rw [show (mkS fI64 (l.drop i) m).2 = (mkS fI64 (l.drop (i + 1)) (fI64 (nth l i) m).2).2 by rw [hd]; rfl, show done ++ (mkS fI64 (l.drop i) m).1 = (done ++ [(fI64 (nth l i) m).1]) ++ (mkS fI64 (l.drop (i + 1)) (fI64 (nth l i) m).2).1 by rw [hd]; simp [mkS]]
      (with_reducible refine on_loop ?_); simp only [List.cons_append, List.nil_append]; refine W_norm [0, 1, 5] ?_ (ih (i + 1) _ (done ++ [(fI64 (nth l i) m).1]) _ (by omega) (by simp; omega) rfl); (conv => lhs; cbv)
      rw [← hset (fI64 (nth l i) m).1 rfl]
      clear hset hd ih hrs
      try simp only [List.length_eq_zero_iff] at *
      simp (disch := omega) [hI, hlen, hlen2, hnth, hn, *, nx1, fI64, mkS_take, mkS_nil, r_nthset]
      try rfl
theorem ok113 (k0 : Int) (l : List Int) (hl : l.length < 4611686018427387904) : OkR Try.prog 113 [.one (.arr 0 0 l.length), .one (.pv (.sc (.int .i64 k0)))] [(0, .row 1 (tI64.encs (l)))] 1 (.one (.pv (.sc (.int .i64 (mkS fI64 l k0).2)))) [(0, .row 1 (tI64.encs ((mkS fI64 l k0).1)))] 1 := by
  obtain ⟨I, hI⟩ : ∃ I, I = real := ⟨_, rfl⟩
  have hlen : True := trivial
  have hlen2 : True := trivial
  have hnth : True := trivial
  have hrs : True := trivial
  obtain ⟨n, hn⟩ : ∃ n, n = l.length := ⟨_, rfl⟩
  obtain ⟨es0, hes0⟩ : ∃ es, es = (tI64.encs (l)) := ⟨_, rfl⟩
  suffices hs : OkR Try.prog 113 [.one (.arr 0 0 n), .one (.pv (.sc (.int .i64 k0)))] [(0, .row 1 es0)] 1 (.one (.pv (.sc (.int .i64 (mkS fI64 l k0).2)))) [(0, .row 1 (tI64.encs ((mkS fI64 l k0).1)))] 1 by rwa [hn, hes0] at hs
  refine OkR_run (Y := (Tab.calls [])) xok (TabOk.calls mixed trivial) Try.func113 rfl rfl rfl 2000 hI fun w Xs β0 O0 => ?_; (conv => arg 4; cbv)
  repeat' (first | ((with_reducible refine on_eqs ?_ ?_); (focus (with_reducible rfl)); conv => arg 4; cbv) | (with_reducible refine on_both ?_ ?_ <;> (conv => arg 4; cbv)) | (with_reducible refine on_true (by assumption) ?_; conv => arg 4; cbv) | (with_reducible refine on_false (by assumption) ?_; conv => arg 4; cbv) | (with_reducible refine on_ask (fun g => ?_) (fun g => ?_) <;> (have h := g) <;> (try simp (disch := omega) [hI, hlen, hlen2, hnth, hn, -List.length_eq_zero_iff] at h) <;> (try (exfalso; omega)) <;> (conv => arg 4; cbv)) | ((with_reducible refine on_must ?_ ?_); (focus (first | (simp (disch := omega) [hI, hlen, hlen2, hnth, hn]; done) | (simp (disch := omega) [hI, hlen, hlen2, hnth, hn]; omega) | (simp (disch := omega) [hI, hlen, hlen2, hnth, hn]; assumption) | (simp (disch := omega) [hI, hlen, hlen2, hnth, hn]; (refine And.intro ?_ ?_) <;> (first | omega | assumption)))); conv => arg 4; cbv))
  (with_reducible refine on_loop ?_); simp only [List.cons_append, List.nil_append]; refine W_norm [0, 1, 5] ?_ (L113 es0 l hl n hn l.length 0 k0 [] es0 rfl rfl hes0); (conv => lhs; cbv)
  rfl
theorem okn113 (k0 : Int) (p : PV) (hp : els p = []) (hp2 : isNo p = true) : OkR Try.prog 113 [.one (.pv p), .one (.pv (.sc (.int .i64 k0)))] [] 0 (.one (.pv (.sc (.int .i64 k0)))) [] 0 := by
  obtain ⟨I, hI⟩ : ∃ I, I = real := ⟨_, rfl⟩
  have hlen : True := trivial
  have hlen2 : True := trivial
  have hnth : True := trivial
  have hrs : True := trivial
  have hn : True := trivial
  rcases PV.no_nil hp hp2 with rfl | ⟨u, s, rfl⟩
  all_goals
    refine OkR_run (Y := (Tab.calls [])) xok (TabOk.calls mixed trivial) Try.func113 rfl rfl rfl 2000 hI fun w Xs β0 O0 => ?_; (conv => arg 4; cbv)
    repeat' (first | ((with_reducible refine on_eqs ?_ ?_); (focus (with_reducible rfl)); conv => arg 4; cbv) | (with_reducible refine on_both ?_ ?_ <;> (conv => arg 4; cbv)) | (with_reducible refine on_true (by assumption) ?_; conv => arg 4; cbv) | (with_reducible refine on_false (by assumption) ?_; conv => arg 4; cbv) | (with_reducible refine on_ask (fun g => ?_) (fun g => ?_) <;> (have h := g) <;> (try simp (disch := omega) [hI, hlen, hlen2, hnth, hn, -List.length_eq_zero_iff] at h) <;> (try (exfalso; omega)) <;> (conv => arg 4; cbv)) | ((with_reducible refine on_must ?_ ?_); (focus (first | (simp (disch := omega) [hI, hlen, hlen2, hnth, hn]; done) | (simp (disch := omega) [hI, hlen, hlen2, hnth, hn]; omega) | (simp (disch := omega) [hI, hlen, hlen2, hnth, hn]; assumption) | (simp (disch := omega) [hI, hlen, hlen2, hnth, hn]; (refine And.intro ?_ ?_) <;> (first | omega | assumption)))); conv => arg 4; cbv))
    (with_reducible refine on_loop ?_)
    simp only [List.cons_append, List.nil_append]
    refine W_go (Y := (Tab.calls [])) xok (TabOk.calls mixed trivial) Try.func113 rfl 2000 _ hI ?_; (conv => arg 4; cbv)
    repeat' (first | ((with_reducible refine on_eqs ?_ ?_); (focus (with_reducible rfl)); conv => arg 4; cbv) | (with_reducible refine on_both ?_ ?_ <;> (conv => arg 4; cbv)) | (with_reducible refine on_true (by assumption) ?_; conv => arg 4; cbv) | (with_reducible refine on_false (by assumption) ?_; conv => arg 4; cbv) | (with_reducible refine on_ask (fun g => ?_) (fun g => ?_) <;> (have h := g) <;> (try simp (disch := omega) [hI, hlen, hlen2, hnth, hn, -List.length_eq_zero_iff] at h) <;> (try (exfalso; omega)) <;> (conv => arg 4; cbv)) | ((with_reducible refine on_must ?_ ?_); (focus (first | (simp (disch := omega) [hI, hlen, hlen2, hnth, hn]; done) | (simp (disch := omega) [hI, hlen, hlen2, hnth, hn]; omega) | (simp (disch := omega) [hI, hlen, hlen2, hnth, hn]; assumption) | (simp (disch := omega) [hI, hlen, hlen2, hnth, hn]; (refine And.intro ?_ ?_) <;> (first | omega | assumption)))); conv => arg 4; cbv))
    (with_reducible refine on_ret ?_); refine EndedN_of ?_; (conv => lhs; cbv)
theorem s113 {I : Ops} (hI : I = real) {e : En} (he : e = en113) : SoundR Try.prog 113 (markT I e 1) :=
  SoundR.markT (T := tI64) (r := fun l k => (mkS fI64 l k).1) ent113 (fun _ => rfl) (fun k0 l hp => by
    have hp : (decide (l.length < 4611686018427387904)) = true := hp
    simp only [Bool.and_eq_true, List.all_eq_true, decide_eq_true_eq] at hp
    have := ok113 k0 l hp
    rw [← tI64_owns, ← tI64_owns] at this
    exact this) okn113 hI he

def an57 : An (List Int × Int × Unit) where
  pre t := decide (t.1.length < 4611686018427387904)
  i _ t := (mkS fU8 t.1 t.2.1).2
  l _ t := mapE tU8.own (mkS fU8 t.1 t.2.1).1
noncomputable def en57 : En := mkE (parsC (pO tU8) (parsC pI pars0)) an57
theorem ent57 : Enters Try.prog 57 := ⟨Try.f57, Try.func57, by kernel_rfl, by kernel_rfl⟩

theorem L57 {w : World} {Xs : Nat → Prop} {β0 : Nat → Nat × Nat} {O0 : Nat → List Nat} (es0 : List (List PV)) (l : List Int) (hl : l.length < 4611686018427387904) (n : Nat) (hn : n = l.length) :
    ∀ (kk i : Nat) (m : Int) (done : List Int) (rs : List (List PV)), kk + i = l.length → done.length = i → rs = (tU8.encs (done ++ l.drop i)) → W Try.prog 57 Try.f57 (EntR w Xs β0 O0 [(0, .row 1 es0)] 1) (Back (EntR w Xs β0 O0 [(0, .row 1 es0)] 1) (.one (.pv (.sc (.int .i64 (mkS fU8 (l.drop i) m).2)))) [(0, .row 1 (tU8.encs (done ++ (mkS fU8 (l.drop i) m).1)))] 1) (place (bodyOf Try.f57) [1,0,1,0,0] [])
      ⟨[(0, .one (.arr 0 0 n)), (1, .one (.pv (.sc (.int .i64 m)))), (5, .one (.pv (.sc (.int .i64 i))))], [(0, .row 1 rs)], 1⟩ := by
  obtain ⟨I, hI⟩ : ∃ I, I = real := ⟨_, rfl⟩
  intro kk
  induction kk with
  | zero =>
    intro i m done rs hk hdn hrs
    have hlen : (done ++ l.drop i).length = l.length := mid_len hdn (by omega)
    have hlen2 : rs.length = l.length := by rw [hrs]; simp only [Ty.encs_length, mapE_length]; exact hlen
    have h1 : l.drop i = [] := List.drop_of_length_le (by omega)
    have hnth : True := trivial
    refine W_go (Y := (Tab.calls [])) xok (TabOk.calls mixed trivial) Try.func57 rfl 2000 _ hI ?_; (conv => arg 4; cbv)
    repeat' (first | ((with_reducible refine on_eqs ?_ ?_); (focus (with_reducible rfl)); conv => arg 4; cbv) | (with_reducible refine on_both ?_ ?_ <;> (conv => arg 4; cbv)) | (with_reducible refine on_true (by assumption) ?_; conv => arg 4; cbv) | (with_reducible refine on_false (by assumption) ?_; conv => arg 4; cbv) | (with_reducible refine on_ask (fun g => ?_) (fun g => ?_) <;> (have h := g) <;> (try simp (disch := omega) [hI, hlen, hlen2, hnth, hn, -List.length_eq_zero_iff] at h) <;> (try (exfalso; omega)) <;> (conv => arg 4; cbv)) | ((with_reducible refine on_must ?_ ?_); (focus (first | (simp (disch := omega) [hI, hlen, hlen2, hnth, hn]; done) | (simp (disch := omega) [hI, hlen, hlen2, hnth, hn]; omega) | (simp (disch := omega) [hI, hlen, hlen2, hnth, hn]; assumption) | (simp (disch := omega) [hI, hlen, hlen2, hnth, hn]; (refine And.intro ?_ ?_) <;> (first | omega | assumption)))); conv => arg 4; cbv))
    (with_reducible refine on_ret ?_); refine EndedN_of ?_; (conv => lhs; cbv)
    rw [hrs, h1]
    simp [mkS]
  | succ kk ih =>
    intro i m done rs hk hdn hrs
    have hlen : (done ++ l.drop i).length = l.length := mid_len hdn (by omega)
    have hlen2 : rs.length = l.length := by rw [hrs]; simp only [Ty.encs_length, mapE_length]; exact hlen
    have hnth : nth (done ++ l.drop i) i = nth l i := mid_nth hdn (by omega)
    have hset : ∀ (y : Int) {ps : List PV}, ps = tU8.own y → real.set rs i ps = (tU8.encs ((done ++ [y]) ++ l.drop (i + 1))) := by
      intro y ps hy
      rw [hrs]
      rw [← tU8_owns, ← tU8_owns]
      exact mid_set hdn (by omega) tU8.own y hy
    have hd : l.drop i = nth l i :: l.drop (i + 1) := nth_drop (by omega)
    refine W_go (Y := (Tab.calls [])) xok (TabOk.calls mixed trivial) Try.func57 rfl 2000 _ hI ?_; (conv => arg 4; cbv)
    repeat' (first | ((with_reducible refine on_eqs ?_ ?_); (focus (with_reducible rfl)); conv => arg 4; cbv) | (with_reducible refine on_both ?_ ?_ <;> (conv => arg 4; cbv)) | (with_reducible refine on_true (by assumption) ?_; conv => arg 4; cbv) | (with_reducible refine on_false (by assumption) ?_; conv => arg 4; cbv) | (with_reducible refine on_ask (fun g => ?_) (fun g => ?_) <;> (have h := g) <;> (try simp (disch := omega) [hI, hlen, hlen2, hnth, hn, -List.length_eq_zero_iff] at h) <;> (try (exfalso; omega)) <;> (conv => arg 4; cbv)) | ((with_reducible refine on_must ?_ ?_); (focus (first | (simp (disch := omega) [hI, hlen, hlen2, hnth, hn]; done) | (simp (disch := omega) [hI, hlen, hlen2, hnth, hn]; omega) | (simp (disch := omega) [hI, hlen, hlen2, hnth, hn]; assumption) | (simp (disch := omega) [hI, hlen, hlen2, hnth, hn]; (refine And.intro ?_ ?_) <;> (first | omega | assumption)))); conv => arg 4; cbv))
    · rw [show (mkS fU8 (l.drop i) m).2 = (mkS fU8 (l.drop (i + 1)) (fU8 (nth l i) m).2).2 by rw [hd]; rfl, show done ++ (mkS fU8 (l.drop i) m).1 = (done ++ [(fU8 (nth l i) m).1]) ++ (mkS fU8 (l.drop (i + 1)) (fU8 (nth l i) m).2).1 by rw [hd]; simp [mkS]]
      (with_reducible refine on_loop ?_); simp only [List.cons_append, List.nil_append]; refine W_norm [0, 1, 5] ?_ (ih (i + 1) _ (done ++ [(fU8 (nth l i) m).1]) _ (by omega) (by simp; omega) rfl); (conv => lhs; cbv)
      rw [← hset (fU8 (nth l i) m).1 rfl]
      clear hset hd ih hrs
      try simp only [List.length_eq_zero_iff] at *
      simp (disch := omega) [hI, hlen, hlen2, hnth, hn, *, nx1, fU8, mkS_take, mkS_nil, r_nthset]
      try rfl
theorem ok57 (k0 : Int) (l : List Int) (hl : l.length < 4611686018427387904) : OkR Try.prog 57 [.one (.arr 0 0 l.length), .one (.pv (.sc (.int .i64 k0)))] [(0, .row 1 (tU8.encs (l)))] 1 (.one (.pv (.sc (.int .i64 (mkS fU8 l k0).2)))) [(0, .row 1 (tU8.encs ((mkS fU8 l k0).1)))] 1 := by
  obtain ⟨I, hI⟩ : ∃ I, I = real := ⟨_, rfl⟩
  have hlen : True := trivial
  have hlen2 : True := trivial
  have hnth : True := trivial
  have hrs : True := trivial
  obtain ⟨n, hn⟩ : ∃ n, n = l.length := ⟨_, rfl⟩
  obtain ⟨es0, hes0⟩ : ∃ es, es = (tU8.encs (l)) := ⟨_, rfl⟩
  suffices hs : OkR Try.prog 57 [.one (.arr 0 0 n), .one (.pv (.sc (.int .i64 k0)))] [(0, .row 1 es0)] 1 (.one (.pv (.sc (.int .i64 (mkS fU8 l k0).2)))) [(0, .row 1 (tU8.encs ((mkS fU8 l k0).1)))] 1 by rwa [hn, hes0] at hs
  refine OkR_run (Y := (Tab.calls [])) xok (TabOk.calls mixed trivial) Try.func57 rfl rfl rfl 2000 hI fun w Xs β0 O0 => ?_; (conv => arg 4; cbv)
  repeat' (first | ((with_reducible refine on_eqs ?_ ?_); (focus (with_reducible rfl)); conv => arg 4; cbv) | (with_reducible refine on_both ?_ ?_ <;> (conv => arg 4; cbv)) | (with_reducible refine on_true (by assumption) ?_; conv => arg 4; cbv) | (with_reducible refine on_false (by assumption) ?_; conv => arg 4; cbv) | (with_reducible refine on_ask (fun g => ?_) (fun g => ?_) <;> (have h := g) <;> (try simp (disch := omega) [hI, hlen, hlen2, hnth, hn, -List.length_eq_zero_iff] at h) <;> (try (exfalso; omega)) <;> (conv => arg 4; cbv)) | ((with_reducible refine on_must ?_ ?_); (focus (first | (simp (disch := omega) [hI, hlen, hlen2, hnth, hn]; done) | (simp (disch := omega) [hI, hlen, hlen2, hnth, hn]; omega) | (simp (disch := omega) [hI, hlen, hlen2, hnth, hn]; assumption) | (simp (disch := omega) [hI, hlen, hlen2, hnth, hn]; (refine And.intro ?_ ?_) <;> (first | omega | assumption)))); conv => arg 4; cbv))
  (with_reducible refine on_loop ?_); simp only [List.cons_append, List.nil_append]; refine W_norm [0, 1, 5] ?_ (L57 es0 l hl n hn l.length 0 k0 [] es0 rfl rfl hes0); (conv => lhs; cbv)
  rfl
theorem okn57 (k0 : Int) (p : PV) (hp : els p = []) (hp2 : isNo p = true) : OkR Try.prog 57 [.one (.pv p), .one (.pv (.sc (.int .i64 k0)))] [] 0 (.one (.pv (.sc (.int .i64 k0)))) [] 0 := by
  obtain ⟨I, hI⟩ : ∃ I, I = real := ⟨_, rfl⟩
  have hlen : True := trivial
  have hlen2 : True := trivial
  have hnth : True := trivial
  have hrs : True := trivial
  have hn : True := trivial
  rcases PV.no_nil hp hp2 with rfl | ⟨u, s, rfl⟩
  all_goals
    refine OkR_run (Y := (Tab.calls [])) xok (TabOk.calls mixed trivial) Try.func57 rfl rfl rfl 2000 hI fun w Xs β0 O0 => ?_; (conv => arg 4; cbv)
    repeat' (first | ((with_reducible refine on_eqs ?_ ?_); (focus (with_reducible rfl)); conv => arg 4; cbv) | (with_reducible refine on_both ?_ ?_ <;> (conv => arg 4; cbv)) | (with_reducible refine on_true (by assumption) ?_; conv => arg 4; cbv) | (with_reducible refine on_false (by assumption) ?_; conv => arg 4; cbv) | (with_reducible refine on_ask (fun g => ?_) (fun g => ?_) <;> (have h := g) <;> (try simp (disch := omega) [hI, hlen, hlen2, hnth, hn, -List.length_eq_zero_iff] at h) <;> (try (exfalso; omega)) <;> (conv => arg 4; cbv)) | ((with_reducible refine on_must ?_ ?_); (focus (first | (simp (disch := omega) [hI, hlen, hlen2, hnth, hn]; done) | (simp (disch := omega) [hI, hlen, hlen2, hnth, hn]; omega) | (simp (disch := omega) [hI, hlen, hlen2, hnth, hn]; assumption) | (simp (disch := omega) [hI, hlen, hlen2, hnth, hn]; (refine And.intro ?_ ?_) <;> (first | omega | assumption)))); conv => arg 4; cbv))
    (with_reducible refine on_loop ?_)
    simp only [List.cons_append, List.nil_append]
    refine W_go (Y := (Tab.calls [])) xok (TabOk.calls mixed trivial) Try.func57 rfl 2000 _ hI ?_; (conv => arg 4; cbv)
    repeat' (first | ((with_reducible refine on_eqs ?_ ?_); (focus (with_reducible rfl)); conv => arg 4; cbv) | (with_reducible refine on_both ?_ ?_ <;> (conv => arg 4; cbv)) | (with_reducible refine on_true (by assumption) ?_; conv => arg 4; cbv) | (with_reducible refine on_false (by assumption) ?_; conv => arg 4; cbv) | (with_reducible refine on_ask (fun g => ?_) (fun g => ?_) <;> (have h := g) <;> (try simp (disch := omega) [hI, hlen, hlen2, hnth, hn, -List.length_eq_zero_iff] at h) <;> (try (exfalso; omega)) <;> (conv => arg 4; cbv)) | ((with_reducible refine on_must ?_ ?_); (focus (first | (simp (disch := omega) [hI, hlen, hlen2, hnth, hn]; done) | (simp (disch := omega) [hI, hlen, hlen2, hnth, hn]; omega) | (simp (disch := omega) [hI, hlen, hlen2, hnth, hn]; assumption) | (simp (disch := omega) [hI, hlen, hlen2, hnth, hn]; (refine And.intro ?_ ?_) <;> (first | omega | assumption)))); conv => arg 4; cbv))
    (with_reducible refine on_ret ?_); refine EndedN_of ?_; (conv => lhs; cbv)
theorem s57 {I : Ops} (hI : I = real) {e : En} (he : e = en57) : SoundR Try.prog 57 (markT I e 1) :=
  SoundR.markT (T := tU8) (r := fun l k => (mkS fU8 l k).1) ent57 (fun _ => rfl) (fun k0 l hp => by
    have hp : (decide (l.length < 4611686018427387904)) = true := hp
    simp only [Bool.and_eq_true, List.all_eq_true, decide_eq_true_eq] at hp
    have := ok57 k0 l hp
    rw [← tU8_owns, ← tU8_owns] at this
    exact this) okn57 hI he

def an114 : An (List Int × Int × Unit) where
  pre t := decide (t.1.length < 4611686018427387904)
  i _ t := hdS hI64 t.1 t.2.1
noncomputable def en114 : En := mkE (parsC (pL tI64) (parsC pI pars0)) an114
def sh114 : Shp := fun I i b l s => .ok (.one (.pv (.sc (.int .i64 (i 0)))), [], 0)
theorem ent114 : Enters Try.prog 114 := ⟨Try.f114, Try.func114, by kernel_rfl, by kernel_rfl⟩

theorem L114 {w : World} {Xs : Nat → Prop} (l : List Int) (hl : l.length < 4611686018427387904) (es : List (List PV)) (hes : es = tI64.encs l) :
    ∀ (kk i : Nat) (m : Int), kk + i = l.length → W Try.prog 114 Try.f114 (Ent0 w Xs) (Back (Ent0 w Xs) (.one (.pv (.sc (.int .i64 (hdS hI64 (l.drop i) m))))) [] 0) (place (bodyOf Try.f114) [1,0,1,0,0] [])
      ⟨[(0, .one (.pv (.sl false 1 es))), (1, .one (.pv (.sc (.int .i64 m)))), (5, .one (.pv (.sc (.int .i64 i))))], [], 0⟩ := by
  obtain ⟨I, hI⟩ : ∃ I, I = real := ⟨_, rfl⟩
  intro kk
  induction kk with
  | zero =>
    intro i m hk
    refine W_go (Y := (Tab.calls [])) xok (TabOk.calls mixed trivial) Try.func114 rfl 2000 _ hI ?_; (conv => arg 4; cbv)
    repeat' (first | ((with_reducible refine on_eqs ?_ ?_); (focus (with_reducible rfl)); conv => arg 4; cbv) | (with_reducible refine on_both ?_ ?_ <;> (conv => arg 4; cbv)) | (with_reducible refine on_true (by assumption) ?_; conv => arg 4; cbv) | (with_reducible refine on_false (by assumption) ?_; conv => arg 4; cbv) | (with_reducible refine on_ask (fun g => ?_) (fun g => ?_) <;> (have h := g) <;> (try simp (disch := omega) [hI, hes, -List.length_eq_zero_iff] at h) <;> (try (exfalso; omega)) <;> (conv => arg 4; cbv)) | ((with_reducible refine on_must ?_ ?_); (focus (first | (simp (disch := omega) [hI, hes]; done) | (simp (disch := omega) [hI, hes]; omega) | (simp (disch := omega) [hI, hes]; assumption) | (simp (disch := omega) [hI, hes]; (refine And.intro ?_ ?_) <;> (first | omega | assumption)))); conv => arg 4; cbv))
    (with_reducible refine on_ret ?_); refine Ended_of rfl ?_; (conv => lhs; cbv)
    have h1 : l.drop i = [] := List.drop_of_length_le (by omega)
    simp [h1, hdS]
  | succ kk ih =>
    intro i m hk
    have hd : l.drop i = nth l i :: l.drop (i + 1) := nth_drop (by omega)
    refine W_go (Y := (Tab.calls [])) xok (TabOk.calls mixed trivial) Try.func114 rfl 2000 _ hI ?_; (conv => arg 4; cbv)
    repeat' (first | ((with_reducible refine on_eqs ?_ ?_); (focus (with_reducible rfl)); conv => arg 4; cbv) | (with_reducible refine on_both ?_ ?_ <;> (conv => arg 4; cbv)) | (with_reducible refine on_true (by assumption) ?_; conv => arg 4; cbv) | (with_reducible refine on_false (by assumption) ?_; conv => arg 4; cbv) | (with_reducible refine on_ask (fun g => ?_) (fun g => ?_) <;> (have h := g) <;> (try simp (disch := omega) [hI, hes, -List.length_eq_zero_iff] at h) <;> (try (exfalso; omega)) <;> (conv => arg 4; cbv)) | ((with_reducible refine on_must ?_ ?_); (focus (first | (simp (disch := omega) [hI, hes]; done) | (simp (disch := omega) [hI, hes]; omega) | (simp (disch := omega) [hI, hes]; assumption) | (simp (disch := omega) [hI, hes]; (refine And.intro ?_ ?_) <;> (first | omega | assumption)))); conv => arg 4; cbv))
    all_goals first
      | ((with_reducible refine on_ret ?_); refine Ended_of rfl ?_; (conv => lhs; cbv); rw [hd, hdS, show hI64 (nth l i) m = none from by simp only [hI64]; first | ((repeat' (first | rw [if_neg (by omega)] | rw [if_pos (by first | assumption | omega)])); done) | (simp [*]; done)])
      | (have e : hdS hI64 (l.drop i) m = hdS hI64 (l.drop (i + 1)) (nx1 m) := by rw [hd, hdS, show hI64 (nth l i) m = some (nx1 m) from by simp only [hI64]; first | ((repeat' (first | rw [if_neg (by omega)] | rw [if_pos (by first | assumption | omega)])); done) | (simp [*]; done)]
         rw [e]
         (with_reducible refine on_loop ?_); simp only [List.cons_append, List.nil_append]; refine W_norm [0, 1, 5] ?_ (ih (i + 1) _ (by omega)); (conv => lhs; cbv)
         first | (simp (disch := omega) [hI, hes, *, nx1]; done) | ((try simp (disch := omega) [hI, hes, *, nx1]); (repeat' split); all_goals (first | rfl | omega | (simp_all; done) | (exfalso; simp_all; omega))))
theorem ok114 (l : List Int) (k : Int) (hl : l.length < 4611686018427387904) : Ok0 Try.prog 114 [(pL tI64).enc l, pI.enc k] (.one (.pv (.sc (.int .i64 (hdS hI64 l k))))) [] 0 := by
  obtain ⟨I, hI⟩ : ∃ I, I = real := ⟨_, rfl⟩
  obtain ⟨es, hes⟩ : ∃ es, es = tI64.encs l := ⟨_, rfl⟩
  show Ok0 Try.prog 114 [.one (.pv (.sl false 1 (tI64.encs l))), .one (.pv (.sc (.int .i64 k)))] _ [] 0
  rw [← hes]
  refine Ok0_run (Y := (Tab.calls [])) xok (TabOk.calls mixed trivial) Try.func114 rfl rfl rfl 2000 hI fun w Xs => ?_; (conv => arg 4; cbv)
  repeat' (first | ((with_reducible refine on_eqs ?_ ?_); (focus (with_reducible rfl)); conv => arg 4; cbv) | (with_reducible refine on_both ?_ ?_ <;> (conv => arg 4; cbv)) | (with_reducible refine on_true (by assumption) ?_; conv => arg 4; cbv) | (with_reducible refine on_false (by assumption) ?_; conv => arg 4; cbv) | (with_reducible refine on_ask (fun g => ?_) (fun g => ?_) <;> (have h := g) <;> (try simp (disch := omega) [hI, hes, -List.length_eq_zero_iff] at h) <;> (try (exfalso; omega)) <;> (conv => arg 4; cbv)) | ((with_reducible refine on_must ?_ ?_); (focus (first | (simp (disch := omega) [hI, hes]; done) | (simp (disch := omega) [hI, hes]; omega) | (simp (disch := omega) [hI, hes]; assumption) | (simp (disch := omega) [hI, hes]; (refine And.intro ?_ ?_) <;> (first | omega | assumption)))); conv => arg 4; cbv))
  (with_reducible refine on_loop ?_); simp only [List.cons_append, List.nil_append]; refine W_norm [0, 1, 5] ?_ (L114 l hl es hes l.length 0 _ rfl); (conv => lhs; cbv)
  first | (simp (disch := omega) [hI, hes, *]; done) | ((try simp (disch := omega) [hI, hes, *]); (repeat' split); all_goals (first | rfl | omega | (simp_all; done) | (exfalso; simp_all; omega)))

theorem s114 {I : Ops} (hI : I = real) {e : En} (he : e = en114) : Sound Try.prog 114 (callE I e sh114) := by
  refine Sound.mkE ent114 hI (fun _ => rfl) ?_ he
  rintro ⟨l, k, ⟨⟩⟩ hp
  
  have hp : (decide (l.length < 4611686018427387904)) = true := hp
  simp only [Bool.and_eq_true, List.all_eq_true, decide_eq_true_eq] at hp
  exact ok114 l k hp
def an131 : An (List Int × Int × Unit) where
  pre t := decide (t.1.length < 4611686018427387904)
  i _ t := hdS hU8 t.1 t.2.1
noncomputable def en131 : En := mkE (parsC (pL tU8) (parsC pI pars0)) an131
def sh131 : Shp := fun I i b l s => .ok (.one (.pv (.sc (.int .i64 (i 0)))), [], 0)
theorem ent131 : Enters Try.prog 131 := ⟨Try.f131, Try.func131, by kernel_rfl, by kernel_rfl⟩

theorem L131 {w : World} {Xs : Nat → Prop} (l : List Int) (hl : l.length < 4611686018427387904) (es : List (List PV)) (hes : es = tU8.encs l) :
    ∀ (kk i : Nat) (m : Int), kk + i = l.length → W Try.prog 131 Try.f131 (Ent0 w Xs) (Back (Ent0 w Xs) (.one (.pv (.sc (.int .i64 (hdS hU8 (l.drop i) m))))) [] 0) (place (bodyOf Try.f131) [1,0,1,0,0] [])
      ⟨[(0, .one (.pv (.sl false 1 es))), (1, .one (.pv (.sc (.int .i64 m)))), (5, .one (.pv (.sc (.int .i64 i))))], [], 0⟩ := by
  obtain ⟨I, hI⟩ : ∃ I, I = real := ⟨_, rfl⟩
  intro kk
  induction kk with
  | zero =>
    intro i m hk
    refine W_go (Y := (Tab.calls [])) xok (TabOk.calls mixed trivial) Try.func131 rfl 2000 _ hI ?_; (conv => arg 4; cbv)
    repeat' (first | ((with_reducible refine on_eqs ?_ ?_); (focus (with_reducible rfl)); conv => arg 4; cbv) | (with_reducible refine on_both ?_ ?_ <;> (conv => arg 4; cbv)) | (with_reducible refine on_true (by assumption) ?_; conv => arg 4; cbv) | (with_reducible refine on_false (by assumption) ?_; conv => arg 4; cbv) | (with_reducible refine on_ask (fun g => ?_) (fun g => ?_) <;> (have h := g) <;> (try simp (disch := omega) [hI, hes, -List.length_eq_zero_iff] at h) <;> (try (exfalso; omega)) <;> (conv => arg 4; cbv)) | ((with_reducible refine on_must ?_ ?_); (focus (first | (simp (disch := omega) [hI, hes]; done) | (simp (disch := omega) [hI, hes]; omega) | (simp (disch := omega) [hI, hes]; assumption) | (simp (disch := omega) [hI, hes]; (refine And.intro ?_ ?_) <;> (first | omega | assumption)))); conv => arg 4; cbv))
    (with_reducible refine on_ret ?_); refine Ended_of rfl ?_; (conv => lhs; cbv)
    have h1 : l.drop i = [] := List.drop_of_length_le (by omega)
    simp [h1, hdS]
  | succ kk ih =>
    intro i m hk
    have hd : l.drop i = nth l i :: l.drop (i + 1) := nth_drop (by omega)
    refine W_go (Y := (Tab.calls [])) xok (TabOk.calls mixed trivial) Try.func131 rfl 2000 _ hI ?_; (conv => arg 4; cbv)
    repeat' (first | ((with_reducible refine on_eqs ?_ ?_); (focus (with_reducible rfl)); conv => arg 4; cbv) | (with_reducible refine on_both ?_ ?_ <;> (conv => arg 4; cbv)) | (with_reducible refine on_true (by assumption) ?_; conv => arg 4; cbv) | (with_reducible refine on_false (by assumption) ?_; conv => arg 4; cbv) | (with_reducible refine on_ask (fun g => ?_) (fun g => ?_) <;> (have h := g) <;> (try simp (disch := omega) [hI, hes, -List.length_eq_zero_iff] at h) <;> (try (exfalso; omega)) <;> (conv => arg 4; cbv)) | ((with_reducible refine on_must ?_ ?_); (focus (first | (simp (disch := omega) [hI, hes]; done) | (simp (disch := omega) [hI, hes]; omega) | (simp (disch := omega) [hI, hes]; assumption) | (simp (disch := omega) [hI, hes]; (refine And.intro ?_ ?_) <;> (first | omega | assumption)))); conv => arg 4; cbv))
    all_goals first
      | ((with_reducible refine on_ret ?_); refine Ended_of rfl ?_; (conv => lhs; cbv); rw [hd, hdS, show hU8 (nth l i) m = none from by simp only [hU8]; first | ((repeat' (first | rw [if_neg (by omega)] | rw [if_pos (by first | assumption | omega)])); done) | (simp [*]; done)])
      | (have e : hdS hU8 (l.drop i) m = hdS hU8 (l.drop (i + 1)) (nx1 m) := by rw [hd, hdS, show hU8 (nth l i) m = some (nx1 m) from by simp only [hU8]; first | ((repeat' (first | rw [if_neg (by omega)] | rw [if_pos (by first | assumption | omega)])); done) | (simp [*]; done)]
         rw [e]
         (with_reducible refine on_loop ?_); simp only [List.cons_append, List.nil_append]; refine W_norm [0, 1, 5] ?_ (ih (i + 1) _ (by omega)); (conv => lhs; cbv)
         first | (simp (disch := omega) [hI, hes, *, nx1]; done) | ((try simp (disch := omega) [hI, hes, *, nx1]); (repeat' split); all_goals (first | rfl | omega | (simp_all; done) | (exfalso; simp_all; omega))))
theorem ok131 (l : List Int) (k : Int) (hl : l.length < 4611686018427387904) : Ok0 Try.prog 131 [(pL tU8).enc l, pI.enc k] (.one (.pv (.sc (.int .i64 (hdS hU8 l k))))) [] 0 := by
  obtain ⟨I, hI⟩ : ∃ I, I = real := ⟨_, rfl⟩
  obtain ⟨es, hes⟩ : ∃ es, es = tU8.encs l := ⟨_, rfl⟩
  show Ok0 Try.prog 131 [.one (.pv (.sl false 1 (tU8.encs l))), .one (.pv (.sc (.int .i64 k)))] _ [] 0
  rw [← hes]
  refine Ok0_run (Y := (Tab.calls [])) xok (TabOk.calls mixed trivial) Try.func131 rfl rfl rfl 2000 hI fun w Xs => ?_; (conv => arg 4; cbv)
  repeat' (first | ((with_reducible refine on_eqs ?_ ?_); (focus (with_reducible rfl)); conv => arg 4; cbv) | (with_reducible refine on_both ?_ ?_ <;> (conv => arg 4; cbv)) | (with_reducible refine on_true (by assumption) ?_; conv => arg 4; cbv) | (with_reducible refine on_false (by assumption) ?_; conv => arg 4; cbv) | (with_reducible refine on_ask (fun g => ?_) (fun g => ?_) <;> (have h := g) <;> (try simp (disch := omega) [hI, hes, -List.length_eq_zero_iff] at h) <;> (try (exfalso; omega)) <;> (conv => arg 4; cbv)) | ((with_reducible refine on_must ?_ ?_); (focus (first | (simp (disch := omega) [hI, hes]; done) | (simp (disch := omega) [hI, hes]; omega) | (simp (disch := omega) [hI, hes]; assumption) | (simp (disch := omega) [hI, hes]; (refine And.intro ?_ ?_) <;> (first | omega | assumption)))); conv => arg 4; cbv))
  (with_reducible refine on_loop ?_); simp only [List.cons_append, List.nil_append]; refine W_norm [0, 1, 5] ?_ (L131 l hl es hes l.length 0 _ rfl); (conv => lhs; cbv)
  first | (simp (disch := omega) [hI, hes, *]; done) | ((try simp (disch := omega) [hI, hes, *]); (repeat' split); all_goals (first | rfl | omega | (simp_all; done) | (exfalso; simp_all; omega)))

theorem s131 {I : Ops} (hI : I = real) {e : En} (he : e = en131) : Sound Try.prog 131 (callE I e sh131) := by
  refine Sound.mkE ent131 hI (fun _ => rfl) ?_ he
  rintro ⟨l, k, ⟨⟩⟩ hp
  
  have hp : (decide (l.length < 4611686018427387904)) = true := hp
  simp only [Bool.and_eq_true, List.all_eq_true, decide_eq_true_eq] at hp
  exact ok131 l k hp
end Go.Proofs.Try
