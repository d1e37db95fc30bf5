/- Contracts. -/
import Derived.Test.YtafdnkachndacaaLwB
set_option linter.unusedSimpArgs false
set_option linter.unusedVariables false
namespace Go.Proofs.Try
open Go Go.Aix
set_option maxRecDepth 100000
set_option maxHeartbeats 4000000
set_option linter.unusedSimpArgs false
set_option linter.unusedVariables false
theorem tCount_owns : ∀ l, mapE tCount_own l = tCount.encs l
  | [] => rfl
  | a :: l => by show _ :: mapE tCount_own l = _ :: tCount.encs l; rw [tCount_owns l]; rfl
@[simp] theorem pO_Count (l : List CountV) : (pO tCount).dec (.one (.pv (.sl true 3 (tCount.encs l)))) = some l := by rw [← tCount_owns]; exact pO_dec tCount l
theorem ent43 : Enters Try.prog 43 := ⟨Try.f43, Try.func43, by kernel_rfl, by kernel_rfl⟩
theorem s43 {I : Ops} (hI : I = real)  : Sound Try.prog 43 (inl X I (Tab.calls []) Try.f43) :=
  Sound.inl (Y := (Tab.calls [])) xok (TabOk.calls mixed trivial) ent43 Try.func43 rfl rfl hI
theorem ent127 : Enters Try.prog 127 := ⟨Try.f127, Try.func127, by kernel_rfl, by kernel_rfl⟩
theorem s127 {I : Ops} (hI : I = real)  : Sound Try.prog 127 (inl X I (Tab.calls []) Try.f127) :=
  Sound.inl (Y := (Tab.calls [])) xok (TabOk.calls mixed trivial) ent127 Try.func127 rfl rfl hI
def an130 : An (CountV × CountV × Unit) where
  pre t := true
  b _ t := decide (t.1 = t.2.1)
noncomputable def en130 : En := mkE (parsC (pS tCount) (parsC (pS tCount) pars0)) an130
def sh130 : Shp := fun I i b l s => .ok (.one (.pv (.sc (.bool (b 0)))), [], 0)
theorem ent130 : Enters Try.prog 130 := ⟨Try.f130, Try.func130, by kernel_rfl, by kernel_rfl⟩

theorem ok130 (x y : CountV)  : Ok0 Try.prog 130 [(pS tCount).enc x, (pS tCount).enc y] (.one (.pv (.sc (.bool (decide (x = y)))))) [] 0 := by
  obtain ⟨I, hI⟩ : ∃ I, I = real := ⟨_, rfl⟩
  obtain ⟨x0, x1, x2⟩ := x
  obtain ⟨y0, y1, y2⟩ := y
  try dsimp only at *

  show Ok0 Try.prog 130 [.ag [.pv (.sc (.int .i64 x0)), .pv (.sc (.int .i64 x1)), .pv (.sc (.int .i64 x2))], .ag [.pv (.sc (.int .i64 y0)), .pv (.sc (.int .i64 y1)), .pv (.sc (.int .i64 y2))]] _ [] 0

  refine Ok0_run (Y := (Tab.calls [])) xok (TabOk.calls mixed trivial) Try.func130 rfl rfl rfl 2000 hI fun w Xs => ?_; (conv => arg 4; cbv)
  repeat' (first | ((with_reducible refine on_eqs ?_ ?_); (focus (with_reducible rfl)); conv => arg 4; cbv) | (with_reducible refine on_both ?_ ?_ <;> (conv => arg 4; cbv)) | (with_reducible refine on_true (by assumption) ?_; conv => arg 4; cbv) | (with_reducible refine on_false (by assumption) ?_; conv => arg 4; cbv) | (with_reducible refine on_ask (fun g => ?_) (fun g => ?_) <;> (have h := g) <;> (try simp (disch := omega) [hI, -List.length_eq_zero_iff] at h) <;> (try (exfalso; omega)) <;> (conv => arg 4; cbv)) | ((with_reducible refine on_must ?_ ?_); (focus (first | (simp (disch := omega) [hI]; done) | (simp (disch := omega) [hI]; omega) | (simp (disch := omega) [hI]; assumption) | (simp (disch := omega) [hI]; (refine And.intro ?_ ?_) <;> (first | omega | assumption)))); conv => arg 4; cbv))
  all_goals first
    | ((with_reducible refine on_ret ?_); refine Ended_of rfl ?_; (conv => lhs; cbv); simp (disch := omega) [hI]; done)
    | ((with_reducible refine on_ret ?_); refine Ended_of rfl ?_; (conv => lhs; cbv); simp_all; done)
    | ((with_reducible refine on_ret ?_); refine Ended_of rfl ?_; (conv => lhs; cbv); (try simp (disch := omega) [hI]); simp_all; done)

theorem s130 {I : Ops} (hI : I = real) {e : En} (he : e = en130) : Sound Try.prog 130 (callE I e sh130) := by
  refine Sound.mkE ent130 hI (fun _ => rfl) ?_ he
  rintro ⟨x, y, ⟨⟩⟩ hp
  exact ok130 x y 
def an48 : An (List CountV × List CountV × Unit) where
  pre t := decide (t.1.length < 4611686018427387904)
  b _ t := decide (t.1 = t.2.1)
noncomputable def en48 : En := mkE (parsC (pL tCount) (parsC (pL tCount) pars0)) an48
def sh48 : Shp := fun I i b l s => .ok (.one (.pv (.sc (.bool (b 0)))), [], 0)
theorem ent48 : Enters Try.prog 48 := ⟨Try.f48, Try.func48, by kernel_rfl, by kernel_rfl⟩

theorem L48 {w : World} {Xs : Nat → Prop} (l r : List CountV) (hl : l.length < 4611686018427387904) (hlr : l.length = r.length) (es fs : List (List PV)) (hes : es = tCount.encs l) (hfs : fs = tCount.encs r) :
    ∀ (k i : Nat), k + i = l.length → W Try.prog 48 Try.f48 (Ent0 w Xs) (Back (Ent0 w Xs) (.one (.pv (.sc (.bool (decide (l.drop i = r.drop i)))))) [] 0) (place (bodyOf Try.f48) [1,1,0,1,0,0] [])
      ⟨[(0, .one (.pv (.sl false 3 es))), (1, .one (.pv (.sl false 3 fs))), (5, .one (.pv (.sc (.int .i64 i))))], [], 0⟩ := by
  obtain ⟨I, hI⟩ : ∃ I, I = real := ⟨_, rfl⟩; obtain ⟨K, hK⟩ : ∃ K : FuncId → En, K = fun g => (lk g [(130, en130)]).getD default := ⟨_, rfl⟩; have k130 : K 130 = en130 := (by subst hK; rfl); clear hK
  intro k
  induction k with
  | zero =>
    intro i hk
    refine W_go (Y := (Tab.calls [(130, true, callRd I (callE I (K 130) sh130))])) xok (TabOk.calls mixed ⟨EntryOk.rd (s130 hI k130) hI, fun _ => callRd_quiet _ _, trivial⟩) Try.func48 rfl 2000 _ hI ?_; (conv => arg 4; cbv)
    repeat' (first | ((with_reducible refine on_eqs ?_ ?_); (focus (with_reducible rfl)); conv => arg 4; cbv) | (with_reducible refine on_both ?_ ?_ <;> (conv => arg 4; cbv)) | (with_reducible refine on_true (by assumption) ?_; conv => arg 4; cbv) | (with_reducible refine on_false (by assumption) ?_; conv => arg 4; cbv) | (with_reducible refine on_ask (fun g => ?_) (fun g => ?_) <;> (have h := g) <;> (try simp (disch := omega) [hI, k130, en130, an130, hes, hfs, -List.length_eq_zero_iff] at h) <;> (try (exfalso; omega)) <;> (conv => arg 4; cbv)) | ((with_reducible refine on_must ?_ ?_); (focus (first | (simp (disch := omega) [hI, k130, en130, an130, hes, hfs]; done) | (simp (disch := omega) [hI, k130, en130, an130, hes, hfs]; omega) | (simp (disch := omega) [hI, k130, en130, an130, hes, hfs]; assumption) | (simp (disch := omega) [hI, k130, en130, an130, hes, hfs]; (refine And.intro ?_ ?_) <;> (first | omega | assumption)))); conv => arg 4; cbv))
    (with_reducible refine on_ret ?_); refine Ended_of rfl ?_; (conv => lhs; cbv)
    have h1 : l.drop i = [] := List.drop_of_length_le (by omega)
    have h2 : r.drop i = [] := List.drop_of_length_le (by omega)
    simp [h1, h2]
  | succ k ih =>
    intro i hk
    refine W_go (Y := (Tab.calls [(130, true, callRd I (callE I (K 130) sh130))])) xok (TabOk.calls mixed ⟨EntryOk.rd (s130 hI k130) hI, fun _ => callRd_quiet _ _, trivial⟩) Try.func48 rfl 2000 _ hI ?_; (conv => arg 4; cbv)
    have hd : l.drop i = nth l i :: l.drop (i + 1) := nth_drop (by omega)
    have hd' : r.drop i = nth r i :: r.drop (i + 1) := nth_drop (by omega)
    have hlt : i < r.length := by omega
    repeat' (first | ((with_reducible refine on_eqs ?_ ?_); (focus (with_reducible rfl)); conv => arg 4; cbv) | (with_reducible refine on_both ?_ ?_ <;> (conv => arg 4; cbv)) | (with_reducible refine on_true (by assumption) ?_; conv => arg 4; cbv) | (with_reducible refine on_false (by assumption) ?_; conv => arg 4; cbv) | (with_reducible refine on_ask (fun g => ?_) (fun g => ?_) <;> (have h := g) <;> (try simp (disch := omega) [hI, k130, en130, an130, hes, hfs, -List.length_eq_zero_iff] at h) <;> (try (exfalso; omega)) <;> (conv => arg 4; cbv)) | ((with_reducible refine on_must ?_ ?_); (focus (first | (simp (disch := omega) [hI, k130, en130, an130, hes, hfs]; done) | (simp (disch := omega) [hI, k130, en130, an130, hes, hfs]; omega) | (simp (disch := omega) [hI, k130, en130, an130, hes, hfs]; assumption) | (simp (disch := omega) [hI, k130, en130, an130, hes, hfs]; (refine And.intro ?_ ?_) <;> (first | omega | assumption)))); conv => arg 4; cbv))
    · (with_reducible refine on_ret ?_); refine Ended_of rfl ?_; (conv => lhs; cbv); simp_all
    · have e : decide (l.drop i = r.drop i) = decide (l.drop (i + 1) = r.drop (i + 1)) := by simp_all
      rw [e]
      (with_reducible refine on_loop ?_); simp only [List.cons_append, List.nil_append]; refine W_norm [0, 1, 5] ?_ (ih (i + 1) (by omega)); (conv => lhs; cbv)
      first | (simp (disch := omega) [hI, k130, en130, an130, hes, hfs, *]; done) | ((try simp (disch := omega) [hI, k130, en130, an130, hes, hfs, *]); (repeat' split); all_goals (first | rfl | omega | (simp_all; done) | (exfalso; simp_all; omega)))
theorem ok48 (l r : List CountV) (hl : l.length < 4611686018427387904) : Ok0 Try.prog 48 [(pL tCount).enc l, (pL tCount).enc r] (.one (.pv (.sc (.bool (decide (l = r)))))) [] 0 := by
  obtain ⟨I, hI⟩ : ∃ I, I = real := ⟨_, rfl⟩; obtain ⟨K, hK⟩ : ∃ K : FuncId → En, K = fun g => (lk g [(130, en130)]).getD default := ⟨_, rfl⟩; have k130 : K 130 = en130 := (by subst hK; rfl); clear hK
  obtain ⟨es, hes⟩ : ∃ es, es = tCount.encs l := ⟨_, rfl⟩
  obtain ⟨fs, hfs⟩ : ∃ es, es = tCount.encs r := ⟨_, rfl⟩
  show Ok0 Try.prog 48 [.one (.pv (.sl false 3 (tCount.encs l))), .one (.pv (.sl false 3 (tCount.encs r)))] _ [] 0
  rw [← hes, ← hfs]
  refine Ok0_run (Y := (Tab.calls [(130, true, callRd I (callE I (K 130) sh130))])) xok (TabOk.calls mixed ⟨EntryOk.rd (s130 hI k130) hI, fun _ => callRd_quiet _ _, trivial⟩) Try.func48 rfl rfl rfl 2000 hI fun w Xs => ?_; (conv => arg 4; cbv)
  repeat' (first | ((with_reducible refine on_eqs ?_ ?_); (focus (with_reducible rfl)); conv => arg 4; cbv) | (with_reducible refine on_both ?_ ?_ <;> (conv => arg 4; cbv)) | (with_reducible refine on_true (by assumption) ?_; conv => arg 4; cbv) | (with_reducible refine on_false (by assumption) ?_; conv => arg 4; cbv) | (with_reducible refine on_ask (fun g => ?_) (fun g => ?_) <;> (have h := g) <;> (try simp (disch := omega) [hI, k130, en130, an130, hes, hfs, -List.length_eq_zero_iff] at h) <;> (try (exfalso; omega)) <;> (conv => arg 4; cbv)) | ((with_reducible refine on_must ?_ ?_); (focus (first | (simp (disch := omega) [hI, k130, en130, an130, hes, hfs]; done) | (simp (disch := omega) [hI, k130, en130, an130, hes, hfs]; omega) | (simp (disch := omega) [hI, k130, en130, an130, hes, hfs]; assumption) | (simp (disch := omega) [hI, k130, en130, an130, hes, hfs]; (refine And.intro ?_ ?_) <;> (first | omega | assumption)))); conv => arg 4; cbv))
  · (with_reducible refine on_ret ?_); refine Ended_of rfl ?_; (conv => lhs; cbv)
    have : l ≠ r := by intro e; subst e; simp_all
    simp [this]
  · (with_reducible refine on_loop ?_); simp only [List.cons_append, List.nil_append]; refine W_norm [0, 1, 5] ?_ (L48 l r hl (by omega) es fs hes hfs l.length 0 rfl); (conv => lhs; cbv)
    first | (simp (disch := omega) [hI, k130, en130, an130, hes, hfs, *]; done) | ((try simp (disch := omega) [hI, k130, en130, an130, hes, hfs, *]); (repeat' split); all_goals (first | rfl | omega | (simp_all; done) | (exfalso; simp_all; omega)))

theorem s48 {I : Ops} (hI : I = real) {e : En} (he : e = en48) : Sound Try.prog 48 (callE I e sh48) := by
  refine Sound.mkE ent48 hI (fun _ => rfl) ?_ he
  rintro ⟨l, r, ⟨⟩⟩ hp
  exact ok48 l r (of_decide_eq_true hp)
def an45 : An (List CountV × Unit) where
  pre t := decide (t.1.length ≤ 1048576)
  l _ t := tCount.encs t.1
noncomputable def en45 : En := mkE (parsC (pL tCount) pars0) an45
def sh45 : Shp := fun I i b l s => .ok (.one (.arr 0 0 (I.len (l 0))), [(0, .row 3 (l 0))], 1)
theorem ent45 : Enters Try.prog 45 := ⟨Try.f45, Try.func45, by kernel_rfl, by kernel_rfl⟩

theorem L45 {w : World} {Xs : Nat → Prop} (l : List CountV) (hl : l.length ≤ 1048576) (es : List (List PV)) (hes : es = tCount.encs l) (n : Nat) (hn : n = l.length) :
    ∀ (k i : Nat) (rs : List (List PV)), rs = pad tCount.enc [.sc (.int .i64 0), .sc (.int .i64 0), .sc (.int .i64 0)] l i → k + i = l.length → W Try.prog 45 Try.f45 (Ent0 w Xs) (Back (Ent0 w Xs) (.one (.arr 0 0 l.length)) [(0, .row 3 (tCount.encs l))] 1) (place (bodyOf Try.f45) [1,1,0,1,0,0] [])
      ⟨[(0, .one (.pv (.sl false 3 es))), (3, .one (.arr 0 0 n)), (4, .one (.pv (.sc (.int .i64 i))))], [(0, .row 3 rs)], 1⟩ := by
  obtain ⟨I, hI⟩ : ∃ I, I = real := ⟨_, rfl⟩
  intro k
  induction k with
  | zero =>
    intro i rs hrs hk
    refine W_go (Y := (Tab.calls [(127, true, callRd I (inl X I (Tab.calls []) Try.f127))])) xok (TabOk.calls mixed ⟨EntryOk.rd (s127 hI) hI, fun _ => callRd_quiet _ _, trivial⟩) Try.func45 rfl 2000 _ hI ?_; (conv => arg 4; cbv)
    repeat' (first | ((with_reducible refine on_eqs ?_ ?_); (focus (with_reducible rfl)); conv => arg 4; cbv) | (with_reducible refine on_both ?_ ?_ <;> (conv => arg 4; cbv)) | (with_reducible refine on_true (by assumption) ?_; conv => arg 4; cbv) | (with_reducible refine on_false (by assumption) ?_; conv => arg 4; cbv) | (with_reducible refine on_ask (fun g => ?_) (fun g => ?_) <;> (have h := g) <;> (try simp (disch := omega) [hI, hes, hrs, hn, -List.length_eq_zero_iff] at h) <;> (try (exfalso; omega)) <;> (conv => arg 4; cbv)) | ((with_reducible refine on_must ?_ ?_); (focus (first | (simp (disch := omega) [hI, hes, hrs, hn]; done) | (simp (disch := omega) [hI, hes, hrs, hn]; omega) | (simp (disch := omega) [hI, hes, hrs, hn]; assumption) | (simp (disch := omega) [hI, hes, hrs, hn]; (refine And.intro ?_ ?_) <;> (first | omega | assumption)))); conv => arg 4; cbv))
    (with_reducible refine on_ret ?_); refine Ended_of rfl ?_; (conv => lhs; cbv)
    rw [hrs, hn, pad_done _ _ _ _ (by omega), mapE_map, Ty.encs_map]
  | succ k ih =>
    intro i rs hrs hk
    refine W_go (Y := (Tab.calls [(127, true, callRd I (inl X I (Tab.calls []) Try.f127))])) xok (TabOk.calls mixed ⟨EntryOk.rd (s127 hI) hI, fun _ => callRd_quiet _ _, trivial⟩) Try.func45 rfl 2000 _ hI ?_; (conv => arg 4; cbv)
    have hp := pad_length tCount.enc [.sc (.int .i64 0), .sc (.int .i64 0), .sc (.int .i64 0)] l i (by omega)
    repeat' (first | ((with_reducible refine on_eqs ?_ ?_); (focus (with_reducible rfl)); conv => arg 4; cbv) | (with_reducible refine on_both ?_ ?_ <;> (conv => arg 4; cbv)) | (with_reducible refine on_true (by assumption) ?_; conv => arg 4; cbv) | (with_reducible refine on_false (by assumption) ?_; conv => arg 4; cbv) | (with_reducible refine on_ask (fun g => ?_) (fun g => ?_) <;> (have h := g) <;> (try simp (disch := omega) [hI, hes, hrs, hn, -List.length_eq_zero_iff] at h) <;> (try (exfalso; omega)) <;> (conv => arg 4; cbv)) | ((with_reducible refine on_must ?_ ?_); (focus (first | (simp (disch := omega) [hI, hes, hrs, hn]; done) | (simp (disch := omega) [hI, hes, hrs, hn]; omega) | (simp (disch := omega) [hI, hes, hrs, hn]; assumption) | (simp (disch := omega) [hI, hes, hrs, hn]; (refine And.intro ?_ ?_) <;> (first | omega | assumption)))); conv => arg 4; cbv))
    (with_reducible refine on_loop ?_); simp only [List.cons_append, List.nil_append]; refine W_norm [0, 3, 4] ?_ (ih (i + 1) _ rfl (by omega)); (conv => lhs; cbv)
    rw [← pad_set tCount.enc [.sc (.int .i64 0), .sc (.int .i64 0), .sc (.int .i64 0)] l i (by omega) _ rfl]
    simp (disch := omega) [hI, hes, hrs, hn, *]
    try rfl
theorem ok45 (l : List CountV) (hl : l.length ≤ 1048576) : Ok0 Try.prog 45 [(pL tCount).enc l] (.one (.arr 0 0 (real.len (tCount.encs l)))) [(0, .row 3 (tCount.encs l))] 1 := by
  obtain ⟨I, hI⟩ : ∃ I, I = real := ⟨_, rfl⟩
  have hrs : True := trivial
  have hn : True := trivial
  obtain ⟨es, hes⟩ : ∃ es, es = tCount.encs l := ⟨_, rfl⟩
  rw [tCount.len_encs]
  show Ok0 Try.prog 45 [.one (.pv (.sl false 3 (tCount.encs l)))] _ [(0, .row 3 (tCount.encs l))] 1
  refine RAVs_nothing (l' := [.one (.pv (.sl false 3 es))]) ?_ (fun h => by rw [hes]; exact h)
  refine Ok0_run (Y := (Tab.calls [(127, true, callRd I (inl X I (Tab.calls []) Try.f127))])) xok (TabOk.calls mixed ⟨EntryOk.rd (s127 hI) hI, fun _ => callRd_quiet _ _, trivial⟩) Try.func45 rfl rfl rfl 2000 hI fun w Xs => ?_; (conv => arg 4; cbv)
  repeat' (first | ((with_reducible refine on_eqs ?_ ?_); (focus (with_reducible rfl)); conv => arg 4; cbv) | (with_reducible refine on_both ?_ ?_ <;> (conv => arg 4; cbv)) | (with_reducible refine on_true (by assumption) ?_; conv => arg 4; cbv) | (with_reducible refine on_false (by assumption) ?_; conv => arg 4; cbv) | (with_reducible refine on_ask (fun g => ?_) (fun g => ?_) <;> (have h := g) <;> (try simp (disch := omega) [hI, hes, hrs, hn, -List.length_eq_zero_iff] at h) <;> (try (exfalso; omega)) <;> (conv => arg 4; cbv)) | ((with_reducible refine on_must ?_ ?_); (focus (first | (simp (disch := omega) [hI, hes, hrs, hn]; done) | (simp (disch := omega) [hI, hes, hrs, hn]; omega) | (simp (disch := omega) [hI, hes, hrs, hn]; assumption) | (simp (disch := omega) [hI, hes, hrs, hn]; (refine And.intro ?_ ?_) <;> (first | omega | assumption)))); conv => arg 4; cbv))
  (with_reducible refine on_loop ?_); simp only [List.cons_append, List.nil_append]; refine W_norm [0, 3, 4] ?_ (L45 l hl es hes l.length rfl l.length 0 _ rfl rfl); (conv => lhs; cbv)
  rw [← pad_zero tCount.enc [.sc (.int .i64 0), .sc (.int .i64 0), .sc (.int .i64 0)] l l.length rfl]
  simp (disch := omega) [hI, hes, hrs, hn, *]

theorem s45 {I : Ops} (hI : I = real) {e : En} (he : e = en45) : Sound Try.prog 45 (callE I e sh45) := by
  refine Sound.mkE ent45 hI (fun _ => rfl) ?_ he
  rintro ⟨l, ⟨⟩⟩ hp
  exact ok45 l (of_decide_eq_true hp)
def fCnt (_ : CountV) (k : Int) : CountV × Int := (⟨k, nx1 k, nx1 (nx1 k)⟩, nx1 (nx1 (nx1 k)))
def an49 : An (List CountV × Int × Unit) where
  pre t := decide (t.1.length < 4611686018427387904)
  i _ t := (mkS fCnt t.1 t.2.1).2
  l _ t := mapE tCount.own (mkS fCnt t.1 t.2.1).1
noncomputable def en49 : En := mkE (parsC (pO tCount) (parsC pI pars0)) an49
theorem ent49 : Enters Try.prog 49 := ⟨Try.f49, Try.func49, by kernel_rfl, by kernel_rfl⟩

theorem L49 {w : World} {Xs : Nat → Prop} {β0 : Nat → Nat × Nat} {O0 : Nat → List Nat} (es0 : List (List PV)) (l : List CountV) (hl : l.length < 4611686018427387904) (n : Nat) (hn : n = l.length) :
    ∀ (kk i : Nat) (m : Int) (done : List CountV) (rs : List (List PV)), kk + i = l.length → done.length = i → rs = (tCount.encs (done ++ l.drop i)) → W Try.prog 49 Try.f49 (EntR w Xs β0 O0 [(0, .row 3 es0)] 1) (Back (EntR w Xs β0 O0 [(0, .row 3 es0)] 1) (.one (.pv (.sc (.int .i64 (mkS fCnt (l.drop i) m).2)))) [(0, .row 3 (tCount.encs (done ++ (mkS fCnt (l.drop i) m).1)))] 1) (place (bodyOf Try.f49) [1,0,1,0,0] [])
      ⟨[(0, .one (.arr 0 0 n)), (1, .one (.pv (.sc (.int .i64 m)))), (5, .one (.pv (.sc (.int .i64 i))))], [(0, .row 3 rs)], 1⟩ := by
  obtain ⟨I, hI⟩ : ∃ I, I = real := ⟨_, rfl⟩
  intro kk
  induction kk with
  | zero =>
    intro i m done rs hk hdn hrs
    have hlen : (done ++ l.drop i).length = l.length := mid_len hdn (by omega)
    have hlen2 : rs.length = l.length := by rw [hrs]; simp only [Ty.encs_length, mapE_length]; exact hlen
    have h1 : l.drop i = [] := List.drop_of_length_le (by omega)
    have hnth : True := trivial
    refine W_go (Y := (Tab.calls [])) xok (TabOk.calls mixed trivial) Try.func49 rfl 2000 _ hI ?_; (conv => arg 4; cbv)
    repeat' (first | ((with_reducible refine on_eqs ?_ ?_); (focus (with_reducible rfl)); conv => arg 4; cbv) | (with_reducible refine on_both ?_ ?_ <;> (conv => arg 4; cbv)) | (with_reducible refine on_true (by assumption) ?_; conv => arg 4; cbv) | (with_reducible refine on_false (by assumption) ?_; conv => arg 4; cbv) | (with_reducible refine on_ask (fun g => ?_) (fun g => ?_) <;> (have h := g) <;> (try simp (disch := omega) [hI, hlen, hlen2, hnth, hn, -List.length_eq_zero_iff] at h) <;> (try (exfalso; omega)) <;> (conv => arg 4; cbv)) | ((with_reducible refine on_must ?_ ?_); (focus (first | (simp (disch := omega) [hI, hlen, hlen2, hnth, hn]; done) | (simp (disch := omega) [hI, hlen, hlen2, hnth, hn]; omega) | (simp (disch := omega) [hI, hlen, hlen2, hnth, hn]; assumption) | (simp (disch := omega) [hI, hlen, hlen2, hnth, hn]; (refine And.intro ?_ ?_) <;> (first | omega | assumption)))); conv => arg 4; cbv))
    (with_reducible refine on_ret ?_); refine EndedN_of ?_; (conv => lhs; cbv)
    rw [hrs, h1]
    simp [mkS]
  | succ kk ih =>
    intro i m done rs hk hdn hrs
    have hlen : (done ++ l.drop i).length = l.length := mid_len hdn (by omega)
    have hlen2 : rs.length = l.length := by rw [hrs]; simp only [Ty.encs_length, mapE_length]; exact hlen
    have hnth : nth (done ++ l.drop i) i = nth l i := mid_nth hdn (by omega)
    have hset : ∀ (y : CountV) {ps : List PV}, ps = tCount_own y → real.set rs i ps = (tCount.encs ((done ++ [y]) ++ l.drop (i + 1))) := by
      intro y ps hy
      rw [hrs]
      rw [← tCount_owns, ← tCount_owns]
      exact mid_set hdn (by omega) tCount_own y hy
    have hd : l.drop i = nth l i :: l.drop (i + 1) := nth_drop (by omega)
    refine W_go (Y := (Tab.calls [])) xok (TabOk.calls mixed trivial) Try.func49 rfl 2000 _ hI ?_; (conv => arg 4; cbv)
    repeat' (first | ((with_reducible refine on_eqs ?_ ?_); (focus (with_reducible rfl)); conv => arg 4; cbv) | (with_reducible refine on_both ?_ ?_ <;> (conv => arg 4; cbv)) | (with_reducible refine on_true (by assumption) ?_; conv => arg 4; cbv) | (with_reducible refine on_false (by assumption) ?_; conv => arg 4; cbv) | (with_reducible refine on_ask (fun g => ?_) (fun g => ?_) <;> (have h := g) <;> (try simp (disch := omega) [hI, hlen, hlen2, hnth, hn, -List.length_eq_zero_iff] at h) <;> (try (exfalso; omega)) <;> (conv => arg 4; cbv)) | ((with_reducible refine on_must ?_ ?_); (focus (first | (simp (disch := omega) [hI, hlen, hlen2, hnth, hn]; done) | (simp (disch := omega) [hI, hlen, hlen2, hnth, hn]; omega) | (simp (disch := omega) [hI, hlen, hlen2, hnth, hn]; assumption) | (simp (disch := omega) [hI, hlen, hlen2, hnth, hn]; (refine And.intro ?_ ?_) <;> (first | omega | assumption)))); conv => arg 4; cbv))
    · rw [show (mkS fCnt (l.drop i) m).2 = (mkS fCnt (l.drop (i + 1)) (fCnt (nth l i) m).2).2 by rw [hd]; rfl, show done ++ (mkS fCnt (l.drop i) m).1 = (done ++ [(fCnt (nth l i) m).1]) ++ (mkS fCnt (l.drop (i + 1)) (fCnt (nth l i) m).2).1 by rw [hd]; simp [mkS]]
      (with_reducible refine on_loop ?_); simp only [List.cons_append, List.nil_append]; refine W_norm [0, 1, 5] ?_ (ih (i + 1) _ (done ++ [(fCnt (nth l i) m).1]) _ (by omega) (by simp; omega) rfl); (conv => lhs; cbv)
      rw [← hset (fCnt (nth l i) m).1 rfl]
      clear hset hd ih hrs
      try simp only [List.length_eq_zero_iff] at *
      simp (disch := omega) [hI, hlen, hlen2, hnth, hn, *, nx1, fCnt, tCount_own, mkS_take, mkS_nil, r_nthset]
      try rfl
theorem ok49 (k0 : Int) (l : List CountV) (hl : l.length < 4611686018427387904) : OkR Try.prog 49 [.one (.arr 0 0 l.length), .one (.pv (.sc (.int .i64 k0)))] [(0, .row 3 (tCount.encs (l)))] 1 (.one (.pv (.sc (.int .i64 (mkS fCnt l k0).2)))) [(0, .row 3 (tCount.encs ((mkS fCnt l k0).1)))] 1 := by
  obtain ⟨I, hI⟩ : ∃ I, I = real := ⟨_, rfl⟩
  have hlen : True := trivial
  have hlen2 : True := trivial
  have hnth : True := trivial
  have hrs : True := trivial
  obtain ⟨n, hn⟩ : ∃ n, n = l.length := ⟨_, rfl⟩
  obtain ⟨es0, hes0⟩ : ∃ es, es = (tCount.encs (l)) := ⟨_, rfl⟩
  suffices hs : OkR Try.prog 49 [.one (.arr 0 0 n), .one (.pv (.sc (.int .i64 k0)))] [(0, .row 3 es0)] 1 (.one (.pv (.sc (.int .i64 (mkS fCnt l k0).2)))) [(0, .row 3 (tCount.encs ((mkS fCnt l k0).1)))] 1 by rwa [hn, hes0] at hs
  refine OkR_run (Y := (Tab.calls [])) xok (TabOk.calls mixed trivial) Try.func49 rfl rfl rfl 2000 hI fun w Xs β0 O0 => ?_; (conv => arg 4; cbv)
  repeat' (first | ((with_reducible refine on_eqs ?_ ?_); (focus (with_reducible rfl)); conv => arg 4; cbv) | (with_reducible refine on_both ?_ ?_ <;> (conv => arg 4; cbv)) | (with_reducible refine on_true (by assumption) ?_; conv => arg 4; cbv) | (with_reducible refine on_false (by assumption) ?_; conv => arg 4; cbv) | (with_reducible refine on_ask (fun g => ?_) (fun g => ?_) <;> (have h := g) <;> (try simp (disch := omega) [hI, hlen, hlen2, hnth, hn, -List.length_eq_zero_iff] at h) <;> (try (exfalso; omega)) <;> (conv => arg 4; cbv)) | ((with_reducible refine on_must ?_ ?_); (focus (first | (simp (disch := omega) [hI, hlen, hlen2, hnth, hn]; done) | (simp (disch := omega) [hI, hlen, hlen2, hnth, hn]; omega) | (simp (disch := omega) [hI, hlen, hlen2, hnth, hn]; assumption) | (simp (disch := omega) [hI, hlen, hlen2, hnth, hn]; (refine And.intro ?_ ?_) <;> (first | omega | assumption)))); conv => arg 4; cbv))
  (with_reducible refine on_loop ?_); simp only [List.cons_append, List.nil_append]; refine W_norm [0, 1, 5] ?_ (L49 es0 l hl n hn l.length 0 k0 [] es0 rfl rfl hes0); (conv => lhs; cbv)
  rfl
theorem okn49 (k0 : Int) (p : PV) (hp : els p = []) (hp2 : isNo p = true) : OkR Try.prog 49 [.one (.pv p), .one (.pv (.sc (.int .i64 k0)))] [] 0 (.one (.pv (.sc (.int .i64 k0)))) [] 0 := by
  obtain ⟨I, hI⟩ : ∃ I, I = real := ⟨_, rfl⟩
  have hlen : True := trivial
  have hlen2 : True := trivial
  have hnth : True := trivial
  have hrs : True := trivial
  have hn : True := trivial
  rcases PV.no_nil hp hp2 with rfl | ⟨u, s, rfl⟩
  all_goals
    refine OkR_run (Y := (Tab.calls [])) xok (TabOk.calls mixed trivial) Try.func49 rfl rfl rfl 2000 hI fun w Xs β0 O0 => ?_; (conv => arg 4; cbv)
    repeat' (first | ((with_reducible refine on_eqs ?_ ?_); (focus (with_reducible rfl)); conv => arg 4; cbv) | (with_reducible refine on_both ?_ ?_ <;> (conv => arg 4; cbv)) | (with_reducible refine on_true (by assumption) ?_; conv => arg 4; cbv) | (with_reducible refine on_false (by assumption) ?_; conv => arg 4; cbv) | (with_reducible refine on_ask (fun g => ?_) (fun g => ?_) <;> (have h := g) <;> (try simp (disch := omega) [hI, hlen, hlen2, hnth, hn, -List.length_eq_zero_iff] at h) <;> (try (exfalso; omega)) <;> (conv => arg 4; cbv)) | ((with_reducible refine on_must ?_ ?_); (focus (first | (simp (disch := omega) [hI, hlen, hlen2, hnth, hn]; done) | (simp (disch := omega) [hI, hlen, hlen2, hnth, hn]; omega) | (simp (disch := omega) [hI, hlen, hlen2, hnth, hn]; assumption) | (simp (disch := omega) [hI, hlen, hlen2, hnth, hn]; (refine And.intro ?_ ?_) <;> (first | omega | assumption)))); conv => arg 4; cbv))
    (with_reducible refine on_loop ?_)
    simp only [List.cons_append, List.nil_append]
    refine W_go (Y := (Tab.calls [])) xok (TabOk.calls mixed trivial) Try.func49 rfl 2000 _ hI ?_; (conv => arg 4; cbv)
    repeat' (first | ((with_reducible refine on_eqs ?_ ?_); (focus (with_reducible rfl)); conv => arg 4; cbv) | (with_reducible refine on_both ?_ ?_ <;> (conv => arg 4; cbv)) | (with_reducible refine on_true (by assumption) ?_; conv => arg 4; cbv) | (with_reducible refine on_false (by assumption) ?_; conv => arg 4; cbv) | (with_reducible refine on_ask (fun g => ?_) (fun g => ?_) <;> (have h := g) <;> (try simp (disch := omega) [hI, hlen, hlen2, hnth, hn, -List.length_eq_zero_iff] at h) <;> (try (exfalso; omega)) <;> (conv => arg 4; cbv)) | ((with_reducible refine on_must ?_ ?_); (focus (first | (simp (disch := omega) [hI, hlen, hlen2, hnth, hn]; done) | (simp (disch := omega) [hI, hlen, hlen2, hnth, hn]; omega) | (simp (disch := omega) [hI, hlen, hlen2, hnth, hn]; assumption) | (simp (disch := omega) [hI, hlen, hlen2, hnth, hn]; (refine And.intro ?_ ?_) <;> (first | omega | assumption)))); conv => arg 4; cbv))
    (with_reducible refine on_ret ?_); refine EndedN_of ?_; (conv => lhs; cbv)
theorem s49 {I : Ops} (hI : I = real) {e : En} (he : e = en49) : SoundR Try.prog 49 (markT I e 3) :=
  SoundR.markT (T := tCount) (r := fun l k => (mkS fCnt l k).1) ent49 (fun _ => rfl) (fun k0 l hp => by
    have hp : (decide (l.length < 4611686018427387904)) = true := hp
    simp only [Bool.and_eq_true, List.all_eq_true, decide_eq_true_eq] at hp
    have := ok49 k0 l hp
    rw [← tCount_owns, ← tCount_owns] at this
    exact this) okn49 hI he

def hCnt (e : CountV) (k : Int) : Option Int := if e.place = k then if e.epoch = nx1 k then if e.n = nx1 (nx1 k) then some (nx1 (nx1 (nx1 k))) else none else none else none
def an135 : An (List CountV × Int × Unit) where
  pre t := decide (t.1.length < 4611686018427387904)
  i _ t := hdS hCnt t.1 t.2.1
noncomputable def en135 : En := mkE (parsC (pL tCount) (parsC pI pars0)) an135
def sh135 : Shp := fun I i b l s => .ok (.one (.pv (.sc (.int .i64 (i 0)))), [], 0)
theorem ent135 : Enters Try.prog 135 := ⟨Try.f135, Try.func135, by kernel_rfl, by kernel_rfl⟩

theorem L135 {w : World} {Xs : Nat → Prop} (l : List CountV) (hl : l.length < 4611686018427387904) (es : List (List PV)) (hes : es = tCount.encs l) :
    ∀ (kk i : Nat) (m : Int), kk + i = l.length → W Try.prog 135 Try.f135 (Ent0 w Xs) (Back (Ent0 w Xs) (.one (.pv (.sc (.int .i64 (hdS hCnt (l.drop i) m))))) [] 0) (place (bodyOf Try.f135) [1,0,1,0,0] [])
      ⟨[(0, .one (.pv (.sl false 3 es))), (1, .one (.pv (.sc (.int .i64 m)))), (5, .one (.pv (.sc (.int .i64 i))))], [], 0⟩ := by
  obtain ⟨I, hI⟩ : ∃ I, I = real := ⟨_, rfl⟩
  intro kk
  induction kk with
  | zero =>
    intro i m hk
    refine W_go (Y := (Tab.calls [])) xok (TabOk.calls mixed trivial) Try.func135 rfl 2000 _ hI ?_; (conv => arg 4; cbv)
    repeat' (first | ((with_reducible refine on_eqs ?_ ?_); (focus (with_reducible rfl)); conv => arg 4; cbv) | (with_reducible refine on_both ?_ ?_ <;> (conv => arg 4; cbv)) | (with_reducible refine on_true (by assumption) ?_; conv => arg 4; cbv) | (with_reducible refine on_false (by assumption) ?_; conv => arg 4; cbv) | (with_reducible refine on_ask (fun g => ?_) (fun g => ?_) <;> (have h := g) <;> (try simp (disch := omega) [hI, hes, -List.length_eq_zero_iff] at h) <;> (try (exfalso; omega)) <;> (conv => arg 4; cbv)) | ((with_reducible refine on_must ?_ ?_); (focus (first | (simp (disch := omega) [hI, hes]; done) | (simp (disch := omega) [hI, hes]; omega) | (simp (disch := omega) [hI, hes]; assumption) | (simp (disch := omega) [hI, hes]; (refine And.intro ?_ ?_) <;> (first | omega | assumption)))); conv => arg 4; cbv))
    (with_reducible refine on_ret ?_); refine Ended_of rfl ?_; (conv => lhs; cbv)
    have h1 : l.drop i = [] := List.drop_of_length_le (by omega)
    simp [h1, hdS]
  | succ kk ih =>
    intro i m hk
    have hd : l.drop i = nth l i :: l.drop (i + 1) := nth_drop (by omega)
    refine W_go (Y := (Tab.calls [])) xok (TabOk.calls mixed trivial) Try.func135 rfl 2000 _ hI ?_; (conv => arg 4; cbv)
    repeat' (first | ((with_reducible refine on_eqs ?_ ?_); (focus (with_reducible rfl)); conv => arg 4; cbv) | (with_reducible refine on_both ?_ ?_ <;> (conv => arg 4; cbv)) | (with_reducible refine on_true (by assumption) ?_; conv => arg 4; cbv) | (with_reducible refine on_false (by assumption) ?_; conv => arg 4; cbv) | (with_reducible refine on_ask (fun g => ?_) (fun g => ?_) <;> (have h := g) <;> (try simp (disch := omega) [hI, hes, -List.length_eq_zero_iff] at h) <;> (try (exfalso; omega)) <;> (conv => arg 4; cbv)) | ((with_reducible refine on_must ?_ ?_); (focus (first | (simp (disch := omega) [hI, hes]; done) | (simp (disch := omega) [hI, hes]; omega) | (simp (disch := omega) [hI, hes]; assumption) | (simp (disch := omega) [hI, hes]; (refine And.intro ?_ ?_) <;> (first | omega | assumption)))); conv => arg 4; cbv))
    all_goals first
      | ((with_reducible refine on_ret ?_); refine Ended_of rfl ?_; (conv => lhs; cbv); rw [hd, hdS, show hCnt (nth l i) m = none from by simp only [hCnt, nx1]; first | ((repeat' (first | rw [if_neg (by omega)] | rw [if_pos (by first | assumption | omega)])); done) | (simp [*]; done)])
      | (have e : hdS hCnt (l.drop i) m = hdS hCnt (l.drop (i + 1)) (nx1 (nx1 (nx1 m))) := by rw [hd, hdS, show hCnt (nth l i) m = some (nx1 (nx1 (nx1 m))) from by simp only [hCnt, nx1]; first | ((repeat' (first | rw [if_neg (by omega)] | rw [if_pos (by first | assumption | omega)])); done) | (simp [*]; done)]
         rw [e]
         (with_reducible refine on_loop ?_); simp only [List.cons_append, List.nil_append]; refine W_norm [0, 1, 5] ?_ (ih (i + 1) _ (by omega)); (conv => lhs; cbv)
         first | (simp (disch := omega) [hI, hes, *, nx1]; done) | ((try simp (disch := omega) [hI, hes, *, nx1]); (repeat' split); all_goals (first | rfl | omega | (simp_all; done) | (exfalso; simp_all; omega))))
theorem ok135 (l : List CountV) (k : Int) (hl : l.length < 4611686018427387904) : Ok0 Try.prog 135 [(pL tCount).enc l, pI.enc k] (.one (.pv (.sc (.int .i64 (hdS hCnt l k))))) [] 0 := by
  obtain ⟨I, hI⟩ : ∃ I, I = real := ⟨_, rfl⟩
  obtain ⟨es, hes⟩ : ∃ es, es = tCount.encs l := ⟨_, rfl⟩
  show Ok0 Try.prog 135 [.one (.pv (.sl false 3 (tCount.encs l))), .one (.pv (.sc (.int .i64 k)))] _ [] 0
  rw [← hes]
  refine Ok0_run (Y := (Tab.calls [])) xok (TabOk.calls mixed trivial) Try.func135 rfl rfl rfl 2000 hI fun w Xs => ?_; (conv => arg 4; cbv)
  repeat' (first | ((with_reducible refine on_eqs ?_ ?_); (focus (with_reducible rfl)); conv => arg 4; cbv) | (with_reducible refine on_both ?_ ?_ <;> (conv => arg 4; cbv)) | (with_reducible refine on_true (by assumption) ?_; conv => arg 4; cbv) | (with_reducible refine on_false (by assumption) ?_; conv => arg 4; cbv) | (with_reducible refine on_ask (fun g => ?_) (fun g => ?_) <;> (have h := g) <;> (try simp (disch := omega) [hI, hes, -List.length_eq_zero_iff] at h) <;> (try (exfalso; omega)) <;> (conv => arg 4; cbv)) | ((with_reducible refine on_must ?_ ?_); (focus (first | (simp (disch := omega) [hI, hes]; done) | (simp (disch := omega) [hI, hes]; omega) | (simp (disch := omega) [hI, hes]; assumption) | (simp (disch := omega) [hI, hes]; (refine And.intro ?_ ?_) <;> (first | omega | assumption)))); conv => arg 4; cbv))
  (with_reducible refine on_loop ?_); simp only [List.cons_append, List.nil_append]; refine W_norm [0, 1, 5] ?_ (L135 l hl es hes l.length 0 _ rfl); (conv => lhs; cbv)
  first | (simp (disch := omega) [hI, hes, *]; done) | ((try simp (disch := omega) [hI, hes, *]); (repeat' split); all_goals (first | rfl | omega | (simp_all; done) | (exfalso; simp_all; omega)))

theorem s135 {I : Ops} (hI : I = real) {e : En} (he : e = en135) : Sound Try.prog 135 (callE I e sh135) := by
  refine Sound.mkE ent135 hI (fun _ => rfl) ?_ he
  rintro ⟨l, k, ⟨⟩⟩ hp
  
  have hp : (decide (l.length < 4611686018427387904)) = true := hp
  simp only [Bool.and_eq_true, List.all_eq_true, decide_eq_true_eq] at hp
  exact ok135 l k hp
theorem ent50 : Enters Try.prog 50 := ⟨Try.f50, Try.func50, by kernel_rfl, by kernel_rfl⟩
theorem s50 {I : Ops} (hI : I = real) {K : FuncId → En} (k57 : K 57 = en57) : SoundR Try.prog 50 (inlR X I (Tab.calls [(57, false, callRef I (markT I (K 57) 1))]) Try.f50) :=
  SoundR.inl (Y := (Tab.calls [(57, false, callRef I (markT I (K 57) 1))])) xok (TabOk.calls mixed ⟨EntryOk.ref (s57 hI k57) hI, notQuiet, trivial⟩) ent50 Try.func50 rfl rfl hI
theorem ent51 : Enters Try.prog 51 := ⟨Try.f51, Try.func51, by kernel_rfl, by kernel_rfl⟩
theorem s51 {I : Ops} (hI : I = real) {K : FuncId → En} (k131 : K 131 = en131) : Sound Try.prog 51 (inl X I (Tab.calls [(131, true, callRd I (callE I (K 131) sh131))]) Try.f51) :=
  Sound.inl (Y := (Tab.calls [(131, true, callRd I (callE I (K 131) sh131))])) xok (TabOk.calls mixed ⟨EntryOk.rd (s131 hI k131) hI, fun _ => callRd_quiet _ _, trivial⟩) ent51 Try.func51 rfl rfl hI
theorem ent47 : Enters Try.prog 47 := ⟨Try.f47, Try.func47, by kernel_rfl, by kernel_rfl⟩
theorem s47 {I : Ops} (hI : I = real) {K : FuncId → En} (k56 : K 56 = en56) : Sound Try.prog 47 (inl X I (Tab.calls [(56, true, callRd I (callE I (K 56) sh56))]) Try.f47) :=
  Sound.inl (Y := (Tab.calls [(56, true, callRd I (callE I (K 56) sh56))])) xok (TabOk.calls mixed ⟨EntryOk.rd (s56 hI k56) hI, fun _ => callRd_quiet _ _, trivial⟩) ent47 Try.func47 rfl rfl hI
theorem ent58 : Enters Try.prog 58 := ⟨Try.f58, Try.func58, by kernel_rfl, by kernel_rfl⟩
theorem s58 {I : Ops} (hI : I = real) {K : FuncId → En} (k49 : K 49 = en49) : SoundR Try.prog 58 (inlR X I (Tab.calls [(49, false, callRef I (markT I (K 49) 3))]) Try.f58) :=
  SoundR.inl (Y := (Tab.calls [(49, false, callRef I (markT I (K 49) 3))])) xok (TabOk.calls mixed ⟨EntryOk.ref (s49 hI k49) hI, notQuiet, trivial⟩) ent58 Try.func58 rfl rfl hI
theorem ent59 : Enters Try.prog 59 := ⟨Try.f59, Try.func59, by kernel_rfl, by kernel_rfl⟩
theorem s59 {I : Ops} (hI : I = real) {K : FuncId → En} (k135 : K 135 = en135) : Sound Try.prog 59 (inl X I (Tab.calls [(135, true, callRd I (callE I (K 135) sh135))]) Try.f59) :=
  Sound.inl (Y := (Tab.calls [(135, true, callRd I (callE I (K 135) sh135))])) xok (TabOk.calls mixed ⟨EntryOk.rd (s135 hI k135) hI, fun _ => callRd_quiet _ _, trivial⟩) ent59 Try.func59 rfl rfl hI
theorem ent55 : Enters Try.prog 55 := ⟨Try.f55, Try.func55, by kernel_rfl, by kernel_rfl⟩
theorem s55 {I : Ops} (hI : I = real) {K : FuncId → En} (k48 : K 48 = en48) : Sound Try.prog 55 (inl X I (Tab.calls [(48, true, callRd I (callE I (K 48) sh48))]) Try.f55) :=
  Sound.inl (Y := (Tab.calls [(48, true, callRd I (callE I (K 48) sh48))])) xok (TabOk.calls mixed ⟨EntryOk.rd (s48 hI k48) hI, fun _ => callRd_quiet _ _, trivial⟩) ent55 Try.func55 rfl rfl hI
theorem ent65 : Enters Try.prog 65 := ⟨Try.f65, Try.func65, by kernel_rfl, by kernel_rfl⟩
theorem s65 {I : Ops} (hI : I = real) {K : FuncId → En} (k40 : K 40 = en40) : SoundR Try.prog 65 (inlR X I (Tab.calls [(40, false, callRef I (markT I (K 40) 2))]) Try.f65) :=
  SoundR.inl (Y := (Tab.calls [(40, false, callRef I (markT I (K 40) 2))])) xok (TabOk.calls mixed ⟨EntryOk.ref (s40 hI k40) hI, notQuiet, trivial⟩) ent65 Try.func65 rfl rfl hI
theorem ent66 : Enters Try.prog 66 := ⟨Try.f66, Try.func66, by kernel_rfl, by kernel_rfl⟩
theorem s66 {I : Ops} (hI : I = real) {K : FuncId → En} (k141 : K 141 = en141) : Sound Try.prog 66 (inl X I (Tab.calls [(141, true, callRd I (callE I (K 141) sh141))]) Try.f66) :=
  Sound.inl (Y := (Tab.calls [(141, true, callRd I (callE I (K 141) sh141))])) xok (TabOk.calls mixed ⟨EntryOk.rd (s141 hI k141) hI, fun _ => callRd_quiet _ _, trivial⟩) ent66 Try.func66 rfl rfl hI
theorem ent64 : Enters Try.prog 64 := ⟨Try.f64, Try.func64, by kernel_rfl, by kernel_rfl⟩
theorem s64 {I : Ops} (hI : I = real) {K : FuncId → En} (k30 : K 30 = en30) : Sound Try.prog 64 (inl X I (Tab.calls [(30, true, callRd I (callE I (K 30) sh30))]) Try.f64) :=
  Sound.inl (Y := (Tab.calls [(30, true, callRd I (callE I (K 30) sh30))])) xok (TabOk.calls mixed ⟨EntryOk.rd (s30 hI k30) hI, fun _ => callRd_quiet _ _, trivial⟩) ent64 Try.func64 rfl rfl hI
end Go.Proofs.Try
