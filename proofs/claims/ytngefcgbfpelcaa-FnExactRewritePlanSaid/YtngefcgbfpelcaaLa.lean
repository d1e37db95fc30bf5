/- Contracts. -/
import Derived.Test.YtngefcgbfpelcaaBa
set_option linter.unusedSimpArgs false
set_option linter.unusedVariables false
namespace Go.Proofs.Try
open Go Go.Aix
set_option maxRecDepth 100000
set_option maxHeartbeats 4000000
set_option linter.unusedSimpArgs false
set_option linter.unusedVariables false
@[simp] theorem pO_Node (l : List NodeV) : (pO tNode).dec (.one (.pv (.sl true 7 (mapE tNode_own l)))) = some l := pO_dec tNode l
theorem ent53 : Enters Try.prog 53 := ⟨Try.f53, Try.func53, by kernel_rfl, by kernel_rfl⟩
theorem s53 {I : Ops} (hI : I = real)  : Sound Try.prog 53 (inl X I (Tab.calls []) Try.f53) :=
  Sound.inl (Y := (Tab.calls [])) xok (TabOk.calls mixed trivial) ent53 Try.func53 rfl rfl hI
def an37 : An (List Int × List Int × Unit) where
  pre t := decide (t.1.length < 4611686018427387904)
  b _ t := decide (t.1 = t.2.1)
noncomputable def en37 : En := mkE (parsC (pL tI64) (parsC (pL tI64) pars0)) an37
def sh37 : Shp := fun I i b l s => .ok (.one (.pv (.sc (.bool (b 0)))), [], 0)
theorem ent37 : Enters Try.prog 37 := ⟨Try.f37, Try.func37, by kernel_rfl, by kernel_rfl⟩

theorem L37 {w : World} {Xs : Nat → Prop} (l r : List Int) (hl : l.length < 4611686018427387904) (hlr : l.length = r.length) (es fs : List (List PV)) (hes : es = tI64.encs l) (hfs : fs = tI64.encs r) :
    ∀ (k i : Nat), k + i = l.length → W Try.prog 37 Try.f37 (Ent0 w Xs) (Back (Ent0 w Xs) (.one (.pv (.sc (.bool (decide (l.drop i = r.drop i)))))) [] 0) (place (bodyOf Try.f37) [1,1,0,1,0,0] [])
      ⟨[(0, .one (.pv (.sl false 1 es))), (1, .one (.pv (.sl false 1 fs))), (5, .one (.pv (.sc (.int .i64 i))))], [], 0⟩ := by
  obtain ⟨I, hI⟩ : ∃ I, I = real := ⟨_, rfl⟩
  intro k
  induction k with
  | zero =>
    intro i hk
    refine W_go (Y := (Tab.calls [])) xok (TabOk.calls mixed trivial) Try.func37 rfl 2000 _ hI ?_; (conv => arg 4; cbv)
    repeat' (first | ((with_reducible refine on_eqs ?_ ?_); (focus (with_reducible rfl)); conv => arg 4; cbv) | (with_reducible refine on_both ?_ ?_ <;> (conv => arg 4; cbv)) | (with_reducible refine on_true (by assumption) ?_; conv => arg 4; cbv) | (with_reducible refine on_false (by assumption) ?_; conv => arg 4; cbv) | (with_reducible refine on_ask (fun g => ?_) (fun g => ?_) <;> (have h := g) <;> (try simp (disch := omega) [hI, hes, hfs, -List.length_eq_zero_iff] at h) <;> (try (exfalso; omega)) <;> (conv => arg 4; cbv)) | ((with_reducible refine on_must ?_ ?_); (focus ((simp (disch := omega) [hI, hes, hfs]) <;> (first | omega | assumption | ((repeat' (refine And.intro ?_ ?_)) <;> (first | omega | assumption))))); conv => arg 4; cbv))
    (with_reducible refine on_ret ?_); refine Ended_of rfl ?_; (conv => lhs; cbv)
    have h1 : l.drop i = [] := List.drop_of_length_le (by omega)
    have h2 : r.drop i = [] := List.drop_of_length_le (by omega)
    simp [h1, h2]
  | succ k ih =>
    intro i hk
    refine W_go (Y := (Tab.calls [])) xok (TabOk.calls mixed trivial) Try.func37 rfl 2000 _ hI ?_; (conv => arg 4; cbv)
    have hd : l.drop i = nth l i :: l.drop (i + 1) := nth_drop (by omega)
    have hd' : r.drop i = nth r i :: r.drop (i + 1) := nth_drop (by omega)
    have hlt : i < r.length := by omega
    repeat' (first | ((with_reducible refine on_eqs ?_ ?_); (focus (with_reducible rfl)); conv => arg 4; cbv) | (with_reducible refine on_both ?_ ?_ <;> (conv => arg 4; cbv)) | (with_reducible refine on_true (by assumption) ?_; conv => arg 4; cbv) | (with_reducible refine on_false (by assumption) ?_; conv => arg 4; cbv) | (with_reducible refine on_ask (fun g => ?_) (fun g => ?_) <;> (have h := g) <;> (try simp (disch := omega) [hI, hes, hfs, -List.length_eq_zero_iff] at h) <;> (try (exfalso; omega)) <;> (conv => arg 4; cbv)) | ((with_reducible refine on_must ?_ ?_); (focus ((simp (disch := omega) [hI, hes, hfs]) <;> (first | omega | assumption | ((repeat' (refine And.intro ?_ ?_)) <;> (first | omega | assumption))))); conv => arg 4; cbv))
    · (with_reducible refine on_ret ?_); refine Ended_of rfl ?_; (conv => lhs; cbv); simp_all
    · have e : decide (l.drop i = r.drop i) = decide (l.drop (i + 1) = r.drop (i + 1)) := by simp_all
      rw [e]
      (with_reducible refine on_loop ?_); simp only [List.cons_append, List.nil_append]; refine W_norm [0, 1, 5] ?_ (ih (i + 1) (by omega)); (conv => lhs; cbv)
      first | (simp (disch := omega) [hI, hes, hfs, *]; done) | ((try simp (disch := omega) [hI, hes, hfs, *]); (repeat' split); all_goals (first | rfl | omega | (simp_all; done) | (exfalso; simp_all; omega)))
theorem ok37 (l r : List Int) (hl : l.length < 4611686018427387904) : Ok0 Try.prog 37 [(pL tI64).enc l, (pL tI64).enc r] (.one (.pv (.sc (.bool (decide (l = r)))))) [] 0 := by
  obtain ⟨I, hI⟩ : ∃ I, I = real := ⟨_, rfl⟩
  obtain ⟨es, hes⟩ : ∃ es, es = tI64.encs l := ⟨_, rfl⟩
  obtain ⟨fs, hfs⟩ : ∃ es, es = tI64.encs r := ⟨_, rfl⟩
  show Ok0 Try.prog 37 [.one (.pv (.sl false 1 (tI64.encs l))), .one (.pv (.sl false 1 (tI64.encs r)))] _ [] 0
  rw [← hes, ← hfs]
  refine Ok0_run (Y := (Tab.calls [])) xok (TabOk.calls mixed trivial) Try.func37 rfl rfl rfl 2000 hI fun w Xs => ?_; (conv => arg 4; cbv)
  repeat' (first | ((with_reducible refine on_eqs ?_ ?_); (focus (with_reducible rfl)); conv => arg 4; cbv) | (with_reducible refine on_both ?_ ?_ <;> (conv => arg 4; cbv)) | (with_reducible refine on_true (by assumption) ?_; conv => arg 4; cbv) | (with_reducible refine on_false (by assumption) ?_; conv => arg 4; cbv) | (with_reducible refine on_ask (fun g => ?_) (fun g => ?_) <;> (have h := g) <;> (try simp (disch := omega) [hI, hes, hfs, -List.length_eq_zero_iff] at h) <;> (try (exfalso; omega)) <;> (conv => arg 4; cbv)) | ((with_reducible refine on_must ?_ ?_); (focus ((simp (disch := omega) [hI, hes, hfs]) <;> (first | omega | assumption | ((repeat' (refine And.intro ?_ ?_)) <;> (first | omega | assumption))))); conv => arg 4; cbv))
  · (with_reducible refine on_ret ?_); refine Ended_of rfl ?_; (conv => lhs; cbv)
    have : l ≠ r := by intro e; subst e; simp_all
    simp [this]
  · (with_reducible refine on_loop ?_); simp only [List.cons_append, List.nil_append]; refine W_norm [0, 1, 5] ?_ (L37 l r hl (by omega) es fs hes hfs l.length 0 rfl); (conv => lhs; cbv)
    first | (simp (disch := omega) [hI, hes, hfs, *]; done) | ((try simp (disch := omega) [hI, hes, hfs, *]); (repeat' split); all_goals (first | rfl | omega | (simp_all; done) | (exfalso; simp_all; omega)))

theorem s37 {I : Ops} (hI : I = real) {e : En} (he : e = en37) : Sound Try.prog 37 (callE I e sh37) := by
  refine Sound.mkE ent37 hI (fun _ => rfl) ?_ he
  rintro ⟨l, r, ⟨⟩⟩ hp
  exact ok37 l r (of_decide_eq_true hp)
def an56 : An (List Int × Unit) where
  pre t := decide (t.1.length ≤ 1048576)
  l _ t := tI64.encs t.1
noncomputable def en56 : En := mkE (parsC (pL tI64) pars0) an56
def sh56 : Shp := fun I i b l s => .ok (.one (.arr 0 0 (I.len (l 0))), [(0, .row 1 (l 0))], 1)
theorem ent56 : Enters Try.prog 56 := ⟨Try.f56, Try.func56, by kernel_rfl, by kernel_rfl⟩

theorem L56 {w : World} {Xs : Nat → Prop} (l : List Int) (hl : l.length ≤ 1048576) (es : List (List PV)) (hes : es = tI64.encs l) (n : Nat) (hn : n = l.length) :
    ∀ (k i : Nat) (rs : List (List PV)), rs = pad tI64.enc [.sc (.int .i64 0)] l i → k + i = l.length → W Try.prog 56 Try.f56 (Ent0 w Xs) (Back (Ent0 w Xs) (.one (.arr 0 0 l.length)) [(0, .row 1 (tI64.encs l))] 1) (place (bodyOf Try.f56) [1,1,0,1,0,0] [])
      ⟨[(0, .one (.pv (.sl false 1 es))), (3, .one (.arr 0 0 n)), (4, .one (.pv (.sc (.int .i64 i))))], [(0, .row 1 rs)], 1⟩ := by
  obtain ⟨I, hI⟩ : ∃ I, I = real := ⟨_, rfl⟩
  intro k
  induction k with
  | zero =>
    intro i rs hrs hk
    refine W_go (Y := (Tab.calls [])) xok (TabOk.calls mixed trivial) Try.func56 rfl 2000 _ hI ?_; (conv => arg 4; cbv)
    repeat' (first | ((with_reducible refine on_eqs ?_ ?_); (focus (with_reducible rfl)); conv => arg 4; cbv) | (with_reducible refine on_both ?_ ?_ <;> (conv => arg 4; cbv)) | (with_reducible refine on_true (by assumption) ?_; conv => arg 4; cbv) | (with_reducible refine on_false (by assumption) ?_; conv => arg 4; cbv) | (with_reducible refine on_ask (fun g => ?_) (fun g => ?_) <;> (have h := g) <;> (try simp (disch := omega) [hI, hes, hrs, hn, -List.length_eq_zero_iff] at h) <;> (try (exfalso; omega)) <;> (conv => arg 4; cbv)) | ((with_reducible refine on_must ?_ ?_); (focus ((simp (disch := omega) [hI, hes, hrs, hn]) <;> (first | omega | assumption | ((repeat' (refine And.intro ?_ ?_)) <;> (first | omega | assumption))))); conv => arg 4; cbv))
    (with_reducible refine on_ret ?_); refine Ended_of rfl ?_; (conv => lhs; cbv)
    rw [hrs, hn, pad_done _ _ _ _ (by omega), mapE_map, Ty.encs_map]
  | succ k ih =>
    intro i rs hrs hk
    refine W_go (Y := (Tab.calls [])) xok (TabOk.calls mixed trivial) Try.func56 rfl 2000 _ hI ?_; (conv => arg 4; cbv)
    have hp := pad_length tI64.enc [.sc (.int .i64 0)] l i (by omega)
    repeat' (first | ((with_reducible refine on_eqs ?_ ?_); (focus (with_reducible rfl)); conv => arg 4; cbv) | (with_reducible refine on_both ?_ ?_ <;> (conv => arg 4; cbv)) | (with_reducible refine on_true (by assumption) ?_; conv => arg 4; cbv) | (with_reducible refine on_false (by assumption) ?_; conv => arg 4; cbv) | (with_reducible refine on_ask (fun g => ?_) (fun g => ?_) <;> (have h := g) <;> (try simp (disch := omega) [hI, hes, hrs, hn, -List.length_eq_zero_iff] at h) <;> (try (exfalso; omega)) <;> (conv => arg 4; cbv)) | ((with_reducible refine on_must ?_ ?_); (focus ((simp (disch := omega) [hI, hes, hrs, hn]) <;> (first | omega | assumption | ((repeat' (refine And.intro ?_ ?_)) <;> (first | omega | assumption))))); conv => arg 4; cbv))
    (with_reducible refine on_loop ?_); simp only [List.cons_append, List.nil_append]; refine W_norm [0, 3, 4] ?_ (ih (i + 1) _ rfl (by omega)); (conv => lhs; cbv)
    rw [← pad_set tI64.enc [.sc (.int .i64 0)] l i (by omega) _ rfl]
    simp (disch := omega) [hI, hes, hrs, hn, *]
    try rfl
theorem ok56 (l : List Int) (hl : l.length ≤ 1048576) : Ok0 Try.prog 56 [(pL tI64).enc l] (.one (.arr 0 0 (real.len (tI64.encs l)))) [(0, .row 1 (tI64.encs l))] 1 := by
  obtain ⟨I, hI⟩ : ∃ I, I = real := ⟨_, rfl⟩
  have hrs : True := trivial
  have hn : True := trivial
  obtain ⟨es, hes⟩ : ∃ es, es = tI64.encs l := ⟨_, rfl⟩
  rw [tI64.len_encs]
  show Ok0 Try.prog 56 [.one (.pv (.sl false 1 (tI64.encs l)))] _ [(0, .row 1 (tI64.encs l))] 1
  refine RAVs_nothing (l' := [.one (.pv (.sl false 1 es))]) ?_ (fun h => by rw [hes]; exact h)
  refine Ok0_run (Y := (Tab.calls [])) xok (TabOk.calls mixed trivial) Try.func56 rfl rfl rfl 2000 hI fun w Xs => ?_; (conv => arg 4; cbv)
  repeat' (first | ((with_reducible refine on_eqs ?_ ?_); (focus (with_reducible rfl)); conv => arg 4; cbv) | (with_reducible refine on_both ?_ ?_ <;> (conv => arg 4; cbv)) | (with_reducible refine on_true (by assumption) ?_; conv => arg 4; cbv) | (with_reducible refine on_false (by assumption) ?_; conv => arg 4; cbv) | (with_reducible refine on_ask (fun g => ?_) (fun g => ?_) <;> (have h := g) <;> (try simp (disch := omega) [hI, hes, hrs, hn, -List.length_eq_zero_iff] at h) <;> (try (exfalso; omega)) <;> (conv => arg 4; cbv)) | ((with_reducible refine on_must ?_ ?_); (focus ((simp (disch := omega) [hI, hes, hrs, hn]) <;> (first | omega | assumption | ((repeat' (refine And.intro ?_ ?_)) <;> (first | omega | assumption))))); conv => arg 4; cbv))
  (with_reducible refine on_loop ?_); simp only [List.cons_append, List.nil_append]; refine W_norm [0, 3, 4] ?_ (L56 l hl es hes l.length rfl l.length 0 _ rfl rfl); (conv => lhs; cbv)
  rw [← pad_zero tI64.enc [.sc (.int .i64 0)] l l.length rfl]
  simp (disch := omega) [hI, hes, hrs, hn, *]

theorem s56 {I : Ops} (hI : I = real) {e : En} (he : e = en56) : Sound Try.prog 56 (callE I e sh56) := by
  refine Sound.mkE ent56 hI (fun _ => rfl) ?_ he
  rintro ⟨l, ⟨⟩⟩ hp
  exact ok56 l (of_decide_eq_true hp)
def an39 : An (List Int × Int × Unit) where
  pre t := decide (t.1.length < 4611686018427387904)
  i _ t := (mkS fI64 t.1 t.2.1).2
  l _ t := mapE tI64.own (mkS fI64 t.1 t.2.1).1
noncomputable def en39 : En := mkE (parsC (pO tI64) (parsC pI pars0)) an39
theorem ent39 : Enters Try.prog 39 := ⟨Try.f39, Try.func39, by kernel_rfl, by kernel_rfl⟩

theorem L39 {w : World} {Xs : Nat → Prop} {β0 : Nat → Nat × Nat} {O0 : Nat → List Nat} (es0 : List (List PV)) (l : List Int) (hl : l.length < 4611686018427387904) (n : Nat) (hn : n = l.length) :
    ∀ (kk i : Nat) (m : Int) (done : List Int) (rs : List (List PV)), kk + i = l.length → done.length = i → rs = (tI64.encs (done ++ l.drop i)) → W Try.prog 39 Try.f39 (EntR w Xs β0 O0 [(0, .row 1 es0)] 1) (Back (EntR w Xs β0 O0 [(0, .row 1 es0)] 1) (.one (.pv (.sc (.int .i64 (mkS fI64 (l.drop i) m).2)))) [(0, .row 1 (tI64.encs (done ++ (mkS fI64 (l.drop i) m).1)))] 1) (place (bodyOf Try.f39) [1,0,1,0,0] [])
      ⟨[(0, .one (.arr 0 0 n)), (1, .one (.pv (.sc (.int .i64 m)))), (5, .one (.pv (.sc (.int .i64 i))))], [(0, .row 1 rs)], 1⟩ := by
  obtain ⟨I, hI⟩ : ∃ I, I = real := ⟨_, rfl⟩
  intro kk
  induction kk with
  | zero =>
    intro i m done rs hk hdn hrs
    have hlen : (done ++ l.drop i).length = l.length := mid_len hdn (by omega)
    have hlen2 : rs.length = l.length := by rw [hrs]; simp only [Ty.encs_length, mapE_length]; exact hlen
    have h1 : l.drop i = [] := List.drop_of_length_le (by omega)
    have hnth : True := trivial
    refine W_go (Y := (Tab.calls [])) xok (TabOk.calls mixed trivial) Try.func39 rfl 2000 _ hI ?_; (conv => arg 4; cbv)
    repeat' (first | ((with_reducible refine on_eqs ?_ ?_); (focus (with_reducible rfl)); conv => arg 4; cbv) | (with_reducible refine on_both ?_ ?_ <;> (conv => arg 4; cbv)) | (with_reducible refine on_true (by assumption) ?_; conv => arg 4; cbv) | (with_reducible refine on_false (by assumption) ?_; conv => arg 4; cbv) | (with_reducible refine on_ask (fun g => ?_) (fun g => ?_) <;> (have h := g) <;> (try simp (disch := omega) [hI, hlen, hlen2, hnth, hn, -List.length_eq_zero_iff] at h) <;> (try (exfalso; omega)) <;> (conv => arg 4; cbv)) | ((with_reducible refine on_must ?_ ?_); (focus ((simp (disch := omega) [hI, hlen, hlen2, hnth, hn]) <;> (first | omega | assumption | ((repeat' (refine And.intro ?_ ?_)) <;> (first | omega | assumption))))); conv => arg 4; cbv))
    (with_reducible refine on_ret ?_); refine EndedN_of ?_; (conv => lhs; cbv)
    rw [hrs, h1]
    simp [mkS]
  | succ kk ih =>
    intro i m done rs hk hdn hrs
    have hlen : (done ++ l.drop i).length = l.length := mid_len hdn (by omega)
    have hlen2 : rs.length = l.length := by rw [hrs]; simp only [Ty.encs_length, mapE_length]; exact hlen
    have hnth : nth (done ++ l.drop i) i = nth l i := mid_nth hdn (by omega)
    have hset : ∀ (y : Int) {ps : List PV}, ps = tI64.own y → real.set rs i ps = (tI64.encs ((done ++ [y]) ++ l.drop (i + 1))) := by
      intro y ps hy
      rw [hrs]
      rw [← tI64_owns, ← tI64_owns]
      exact mid_set hdn (by omega) tI64.own y hy
    have hd : l.drop i = nth l i :: l.drop (i + 1) := nth_drop (by omega)
    refine W_go (Y := (Tab.calls [])) xok (TabOk.calls mixed trivial) Try.func39 rfl 2000 _ hI ?_; (conv => arg 4; cbv)
    repeat' (first | ((with_reducible refine on_eqs ?_ ?_); (focus (with_reducible rfl)); conv => arg 4; cbv) | (with_reducible refine on_both ?_ ?_ <;> (conv => arg 4; cbv)) | (with_reducible refine on_true (by assumption) ?_; conv => arg 4; cbv) | (with_reducible refine on_false (by assumption) ?_; conv => arg 4; cbv) | (with_reducible refine on_ask (fun g => ?_) (fun g => ?_) <;> (have h := g) <;> (try simp (disch := omega) [hI, hlen, hlen2, hnth, hn, -List.length_eq_zero_iff] at h) <;> (try (exfalso; omega)) <;> (conv => arg 4; cbv)) | ((with_reducible refine on_must ?_ ?_); (focus ((simp (disch := omega) [hI, hlen, hlen2, hnth, hn]) <;> (first | omega | assumption | ((repeat' (refine And.intro ?_ ?_)) <;> (first | omega | assumption))))); conv => arg 4; cbv))
    · rw [show (mkS fI64 (l.drop i) m).2 = (mkS fI64 (l.drop (i + 1)) (fI64 (nth l i) m).2).2 by rw [hd]; rfl, show done ++ (mkS fI64 (l.drop i) m).1 = (done ++ [(fI64 (nth l i) m).1]) ++ (mkS fI64 (l.drop (i + 1)) (fI64 (nth l i) m).2).1 by rw [hd]; simp [mkS]]
      (with_reducible refine on_loop ?_); simp only [List.cons_append, List.nil_append]; refine W_norm [0, 1, 5] ?_ (ih (i + 1) _ (done ++ [(fI64 (nth l i) m).1]) _ (by omega) (by simp; omega) rfl); (conv => lhs; cbv)
      rw [← hset (fI64 (nth l i) m).1 rfl]
      clear hset hd ih hrs
      try simp only [List.length_eq_zero_iff] at *
      simp (disch := omega) [hI, hlen, hlen2, hnth, hn, *, nx1, fI64, mkS_take, mkS_nil, r_nthset]
      try rfl
theorem ok39 (k0 : Int) (l : List Int) (hl : l.length < 4611686018427387904) : OkR Try.prog 39 [.one (.arr 0 0 l.length), .one (.pv (.sc (.int .i64 k0)))] [(0, .row 1 (tI64.encs (l)))] 1 (.one (.pv (.sc (.int .i64 (mkS fI64 l k0).2)))) [(0, .row 1 (tI64.encs ((mkS fI64 l k0).1)))] 1 := by
  obtain ⟨I, hI⟩ : ∃ I, I = real := ⟨_, rfl⟩
  have hlen : True := trivial
  have hlen2 : True := trivial
  have hnth : True := trivial
  have hrs : True := trivial
  obtain ⟨n, hn⟩ : ∃ n, n = l.length := ⟨_, rfl⟩
  obtain ⟨es0, hes0⟩ : ∃ es, es = (tI64.encs (l)) := ⟨_, rfl⟩
  suffices hs : OkR Try.prog 39 [.one (.arr 0 0 n), .one (.pv (.sc (.int .i64 k0)))] [(0, .row 1 es0)] 1 (.one (.pv (.sc (.int .i64 (mkS fI64 l k0).2)))) [(0, .row 1 (tI64.encs ((mkS fI64 l k0).1)))] 1 by rwa [hn, hes0] at hs
  refine OkR_run (Y := (Tab.calls [])) xok (TabOk.calls mixed trivial) Try.func39 rfl rfl rfl 2000 hI fun w Xs β0 O0 => ?_; (conv => arg 4; cbv)
  repeat' (first | ((with_reducible refine on_eqs ?_ ?_); (focus (with_reducible rfl)); conv => arg 4; cbv) | (with_reducible refine on_both ?_ ?_ <;> (conv => arg 4; cbv)) | (with_reducible refine on_true (by assumption) ?_; conv => arg 4; cbv) | (with_reducible refine on_false (by assumption) ?_; conv => arg 4; cbv) | (with_reducible refine on_ask (fun g => ?_) (fun g => ?_) <;> (have h := g) <;> (try simp (disch := omega) [hI, hlen, hlen2, hnth, hn, -List.length_eq_zero_iff] at h) <;> (try (exfalso; omega)) <;> (conv => arg 4; cbv)) | ((with_reducible refine on_must ?_ ?_); (focus ((simp (disch := omega) [hI, hlen, hlen2, hnth, hn]) <;> (first | omega | assumption | ((repeat' (refine And.intro ?_ ?_)) <;> (first | omega | assumption))))); conv => arg 4; cbv))
  (with_reducible refine on_loop ?_); simp only [List.cons_append, List.nil_append]; refine W_norm [0, 1, 5] ?_ (L39 es0 l hl n hn l.length 0 k0 [] es0 rfl rfl hes0); (conv => lhs; cbv)
  rfl
theorem okn39 (k0 : Int) (p : PV) (hp : els p = []) (hp2 : isNo p = true) : OkR Try.prog 39 [.one (.pv p), .one (.pv (.sc (.int .i64 k0)))] [] 0 (.one (.pv (.sc (.int .i64 k0)))) [] 0 := by
  obtain ⟨I, hI⟩ : ∃ I, I = real := ⟨_, rfl⟩
  have hlen : True := trivial
  have hlen2 : True := trivial
  have hnth : True := trivial
  have hrs : True := trivial
  have hn : True := trivial
  rcases PV.no_nil hp hp2 with rfl | ⟨u, s, rfl⟩
  all_goals
    refine OkR_run (Y := (Tab.calls [])) xok (TabOk.calls mixed trivial) Try.func39 rfl rfl rfl 2000 hI fun w Xs β0 O0 => ?_; (conv => arg 4; cbv)
    repeat' (first | ((with_reducible refine on_eqs ?_ ?_); (focus (with_reducible rfl)); conv => arg 4; cbv) | (with_reducible refine on_both ?_ ?_ <;> (conv => arg 4; cbv)) | (with_reducible refine on_true (by assumption) ?_; conv => arg 4; cbv) | (with_reducible refine on_false (by assumption) ?_; conv => arg 4; cbv) | (with_reducible refine on_ask (fun g => ?_) (fun g => ?_) <;> (have h := g) <;> (try simp (disch := omega) [hI, hlen, hlen2, hnth, hn, -List.length_eq_zero_iff] at h) <;> (try (exfalso; omega)) <;> (conv => arg 4; cbv)) | ((with_reducible refine on_must ?_ ?_); (focus ((simp (disch := omega) [hI, hlen, hlen2, hnth, hn]) <;> (first | omega | assumption | ((repeat' (refine And.intro ?_ ?_)) <;> (first | omega | assumption))))); conv => arg 4; cbv))
    (with_reducible refine on_loop ?_)
    simp only [List.cons_append, List.nil_append]
    refine W_go (Y := (Tab.calls [])) xok (TabOk.calls mixed trivial) Try.func39 rfl 2000 _ hI ?_; (conv => arg 4; cbv)
    repeat' (first | ((with_reducible refine on_eqs ?_ ?_); (focus (with_reducible rfl)); conv => arg 4; cbv) | (with_reducible refine on_both ?_ ?_ <;> (conv => arg 4; cbv)) | (with_reducible refine on_true (by assumption) ?_; conv => arg 4; cbv) | (with_reducible refine on_false (by assumption) ?_; conv => arg 4; cbv) | (with_reducible refine on_ask (fun g => ?_) (fun g => ?_) <;> (have h := g) <;> (try simp (disch := omega) [hI, hlen, hlen2, hnth, hn, -List.length_eq_zero_iff] at h) <;> (try (exfalso; omega)) <;> (conv => arg 4; cbv)) | ((with_reducible refine on_must ?_ ?_); (focus ((simp (disch := omega) [hI, hlen, hlen2, hnth, hn]) <;> (first | omega | assumption | ((repeat' (refine And.intro ?_ ?_)) <;> (first | omega | assumption))))); conv => arg 4; cbv))
    (with_reducible refine on_ret ?_); refine EndedN_of ?_; (conv => lhs; cbv)
theorem s39 {I : Ops} (hI : I = real) {e : En} (he : e = en39) : SoundR Try.prog 39 (markT I e 1) :=
  SoundR.markT (T := tI64) (r := fun l k => (mkS fI64 l k).1) ent39 (fun _ => rfl) (fun k0 l hp => by
    have hp : (decide (l.length < 4611686018427387904)) = true := hp
    simp only [Bool.and_eq_true, List.all_eq_true, decide_eq_true_eq] at hp
    have := ok39 k0 l hp
    rw [← tI64_owns, ← tI64_owns] at this
    exact this) okn39 hI he

def an40 : An (List Int × Int × Unit) where
  pre t := decide (t.1.length < 4611686018427387904)
  i _ t := hdS hI64 t.1 t.2.1
noncomputable def en40 : En := mkE (parsC (pL tI64) (parsC pI pars0)) an40
def sh40 : Shp := fun I i b l s => .ok (.one (.pv (.sc (.int .i64 (i 0)))), [], 0)
theorem ent40 : Enters Try.prog 40 := ⟨Try.f40, Try.func40, by kernel_rfl, by kernel_rfl⟩

theorem L40 {w : World} {Xs : Nat → Prop} (l : List Int) (hl : l.length < 4611686018427387904) (es : List (List PV)) (hes : es = tI64.encs l) :
    ∀ (kk i : Nat) (m : Int), kk + i = l.length → W Try.prog 40 Try.f40 (Ent0 w Xs) (Back (Ent0 w Xs) (.one (.pv (.sc (.int .i64 (hdS hI64 (l.drop i) m))))) [] 0) (place (bodyOf Try.f40) [1,0,1,0,0] [])
      ⟨[(0, .one (.pv (.sl false 1 es))), (1, .one (.pv (.sc (.int .i64 m)))), (5, .one (.pv (.sc (.int .i64 i))))], [], 0⟩ := by
  obtain ⟨I, hI⟩ : ∃ I, I = real := ⟨_, rfl⟩
  intro kk
  induction kk with
  | zero =>
    intro i m hk
    refine W_go (Y := (Tab.calls [])) xok (TabOk.calls mixed trivial) Try.func40 rfl 2000 _ hI ?_; (conv => arg 4; cbv)
    repeat' (first | ((with_reducible refine on_eqs ?_ ?_); (focus (with_reducible rfl)); conv => arg 4; cbv) | (with_reducible refine on_both ?_ ?_ <;> (conv => arg 4; cbv)) | (with_reducible refine on_true (by assumption) ?_; conv => arg 4; cbv) | (with_reducible refine on_false (by assumption) ?_; conv => arg 4; cbv) | (with_reducible refine on_ask (fun g => ?_) (fun g => ?_) <;> (have h := g) <;> (try simp (disch := omega) [hI, hes, -List.length_eq_zero_iff] at h) <;> (try (exfalso; omega)) <;> (conv => arg 4; cbv)) | ((with_reducible refine on_must ?_ ?_); (focus ((simp (disch := omega) [hI, hes]) <;> (first | omega | assumption | ((repeat' (refine And.intro ?_ ?_)) <;> (first | omega | assumption))))); conv => arg 4; cbv))
    (with_reducible refine on_ret ?_); refine Ended_of rfl ?_; (conv => lhs; cbv)
    have h1 : l.drop i = [] := List.drop_of_length_le (by omega)
    simp [h1, hdS]
  | succ kk ih =>
    intro i m hk
    have hd : l.drop i = nth l i :: l.drop (i + 1) := nth_drop (by omega)
    refine W_go (Y := (Tab.calls [])) xok (TabOk.calls mixed trivial) Try.func40 rfl 2000 _ hI ?_; (conv => arg 4; cbv)
    repeat' (first | ((with_reducible refine on_eqs ?_ ?_); (focus (with_reducible rfl)); conv => arg 4; cbv) | (with_reducible refine on_both ?_ ?_ <;> (conv => arg 4; cbv)) | (with_reducible refine on_true (by assumption) ?_; conv => arg 4; cbv) | (with_reducible refine on_false (by assumption) ?_; conv => arg 4; cbv) | (with_reducible refine on_ask (fun g => ?_) (fun g => ?_) <;> (have h := g) <;> (try simp (disch := omega) [hI, hes, -List.length_eq_zero_iff] at h) <;> (try (exfalso; omega)) <;> (conv => arg 4; cbv)) | ((with_reducible refine on_must ?_ ?_); (focus ((simp (disch := omega) [hI, hes]) <;> (first | omega | assumption | ((repeat' (refine And.intro ?_ ?_)) <;> (first | omega | assumption))))); conv => arg 4; cbv))
    all_goals first
      | ((with_reducible refine on_ret ?_); refine Ended_of rfl ?_; (conv => lhs; cbv); rw [hd, hdS, show hI64 (nth l i) m = none from by simp only [hI64]; first | ((repeat' (first | rw [if_neg (by omega)] | rw [if_pos (by first | assumption | omega)])); done) | (simp [*]; done) | ((repeat' (refine ite_go (fun q => ?_) (fun q => ?_))) <;> first | rfl | (exfalso; first | contradiction | omega))])
      | (have e : hdS hI64 (l.drop i) m = hdS hI64 (l.drop (i + 1)) (nx1 m) := by rw [hd, hdS, show hI64 (nth l i) m = some (nx1 m) from by simp only [hI64]; first | ((repeat' (first | rw [if_neg (by omega)] | rw [if_pos (by first | assumption | omega)])); done) | (simp [*]; done) | ((repeat' (refine ite_go (fun q => ?_) (fun q => ?_))) <;> first | rfl | (exfalso; first | contradiction | omega))]
         rw [e]
         (with_reducible refine on_loop ?_); simp only [List.cons_append, List.nil_append]; refine W_norm [0, 1, 5] ?_ (ih (i + 1) _ (by omega)); (conv => lhs; cbv)
         first | (simp (disch := omega) [hI, hes, *, nx1]; done) | ((try simp (disch := omega) [hI, hes, *, nx1]); (repeat' split); all_goals (first | rfl | omega | (simp_all; done) | (exfalso; simp_all; omega))))
theorem ok40 (l : List Int) (k : Int) (hl : l.length < 4611686018427387904) : Ok0 Try.prog 40 [(pL tI64).enc l, pI.enc k] (.one (.pv (.sc (.int .i64 (hdS hI64 l k))))) [] 0 := by
  obtain ⟨I, hI⟩ : ∃ I, I = real := ⟨_, rfl⟩
  obtain ⟨es, hes⟩ : ∃ es, es = tI64.encs l := ⟨_, rfl⟩
  show Ok0 Try.prog 40 [.one (.pv (.sl false 1 (tI64.encs l))), .one (.pv (.sc (.int .i64 k)))] _ [] 0
  rw [← hes]
  refine Ok0_run (Y := (Tab.calls [])) xok (TabOk.calls mixed trivial) Try.func40 rfl rfl rfl 2000 hI fun w Xs => ?_; (conv => arg 4; cbv)
  repeat' (first | ((with_reducible refine on_eqs ?_ ?_); (focus (with_reducible rfl)); conv => arg 4; cbv) | (with_reducible refine on_both ?_ ?_ <;> (conv => arg 4; cbv)) | (with_reducible refine on_true (by assumption) ?_; conv => arg 4; cbv) | (with_reducible refine on_false (by assumption) ?_; conv => arg 4; cbv) | (with_reducible refine on_ask (fun g => ?_) (fun g => ?_) <;> (have h := g) <;> (try simp (disch := omega) [hI, hes, -List.length_eq_zero_iff] at h) <;> (try (exfalso; omega)) <;> (conv => arg 4; cbv)) | ((with_reducible refine on_must ?_ ?_); (focus ((simp (disch := omega) [hI, hes]) <;> (first | omega | assumption | ((repeat' (refine And.intro ?_ ?_)) <;> (first | omega | assumption))))); conv => arg 4; cbv))
  (with_reducible refine on_loop ?_); simp only [List.cons_append, List.nil_append]; refine W_norm [0, 1, 5] ?_ (L40 l hl es hes l.length 0 _ rfl); (conv => lhs; cbv)
  first | (simp (disch := omega) [hI, hes, *]; done) | ((try simp (disch := omega) [hI, hes, *]); (repeat' split); all_goals (first | rfl | omega | (simp_all; done) | (exfalso; simp_all; omega)))

theorem s40 {I : Ops} (hI : I = real) {e : En} (he : e = en40) : Sound Try.prog 40 (callE I e sh40) := by
  refine Sound.mkE ent40 hI (fun _ => rfl) ?_ he
  rintro ⟨l, k, ⟨⟩⟩ hp
  
  have hp : (decide (l.length < 4611686018427387904)) = true := hp
  simp only [Bool.and_eq_true, List.all_eq_true, decide_eq_true_eq] at hp
  exact ok40 l k hp
theorem ent31 : Enters Try.prog 31 := ⟨Try.f31, Try.func31, by kernel_rfl, by kernel_rfl⟩
noncomputable def Y31 (I : Ops) : CallsA := (Tab.calls [(53, true, callRd I (inl X I (Tab.calls []) Try.f53))])
theorem tY31 {I : Ops} (hI : I = real)  : CallsOk Try.prog (Y31 I) := (TabOk.calls mixed ⟨EntryOk.rd (s53 hI) hI, fun _ => callRd_quiet _ _, trivial⟩)
theorem s31 {I : Ops} (hI : I = real)  : Sound Try.prog 31 (inl X I (Y31 I) Try.f31) :=
  Sound.inl (Y := (Y31 I)) xok (tY31 hI) ent31 Try.func31 rfl rfl hI
def szNd (e : NodeV) (m : Int) : Int := if szL e.cells.length m < 0 then -1 else szL e.cells.length m
def an9 : An (List NodeV × Int × Unit) where
  pre t := decide (t.1.length ≤ 9223372036854775807) && t.1.all fun e => decide (e.cells.length ≤ 9223372036854775807)
  i _ t := szA szNd t.1 t.2.1
noncomputable def en9 : En := mkE (parsC (pL tNode) (parsC pI pars0)) an9
def sh9 : Shp := fun I i b l s => .ok (.one (.pv (.sc (.int .i64 (i 0)))), [], 0)
theorem ent9 : Enters Try.prog 9 := ⟨Try.f9, Try.func9, by kernel_rfl, by kernel_rfl⟩
noncomputable def Y9 (I : Ops) : CallsA := (Tab.calls [(31, true, callRd I (inl X I (Y31 I) Try.f31))])
theorem tY9 {I : Ops} (hI : I = real)  : CallsOk Try.prog (Y9 I) := (TabOk.calls mixed ⟨EntryOk.rd (s31 hI) hI, fun _ => callRd_quiet _ _, trivial⟩)

theorem L9 {w : World} {Xs : Nat → Prop} (l : List NodeV) (hl : l.length ≤ 9223372036854775807) (hb : ∀ e ∈ l, decide (e.cells.length ≤ 9223372036854775807) = true) (es : List (List PV)) (hes : es = tNode.encs l) :
    ∀ (k i : Nat) (m : Int), k + i = l.length → W Try.prog 9 Try.f9 (Ent0 w Xs) (Back (Ent0 w Xs) (.one (.pv (.sc (.int .i64 (szS szNd (l.drop i) m))))) [] 0) (place (bodyOf Try.f9) [1,1,1,0,1,0,0] [])
      ⟨[(0, .one (.pv (.sl false 7 es))), (1, .one (.pv (.sc (.int .i64 m)))), (5, .one (.pv (.sc (.int .i64 i))))], [], 0⟩ := by
  obtain ⟨I, hI⟩ : ∃ I, I = real := ⟨_, rfl⟩
  intro k
  induction k with
  | zero =>
    intro i m hk
    have hx : True := trivial
    refine W_go (Y := (Y9 I)) xok (tY9 hI) Try.func9 rfl 2000 _ hI ?_; (conv => arg 4; cbv)
    repeat' (first | ((with_reducible refine on_eqs ?_ ?_); (focus (with_reducible rfl)); conv => arg 4; cbv) | (with_reducible refine on_both ?_ ?_ <;> (conv => arg 4; cbv)) | (with_reducible refine on_true (by assumption) ?_; conv => arg 4; cbv) | (with_reducible refine on_false (by assumption) ?_; conv => arg 4; cbv) | (with_reducible refine on_ask (fun g => ?_) (fun g => ?_) <;> (have h := g) <;> (try simp (disch := omega) [hI, hes, hx, -List.length_eq_zero_iff] at h) <;> (try (exfalso; omega)) <;> (conv => arg 4; cbv)) | ((with_reducible refine on_must ?_ ?_); (focus ((simp (disch := omega) [hI, hes, hx]) <;> (first | omega | assumption | ((repeat' (refine And.intro ?_ ?_)) <;> (first | omega | assumption))))); conv => arg 4; cbv))
    (with_reducible refine on_ret ?_); refine Ended_of rfl ?_; (conv => lhs; cbv)
    have : l.drop i = [] := List.drop_of_length_le (by omega)
    rw [this]; rfl
  | succ k ih =>
    intro i m hk
    have hx := hb _ (nth_mem (l := l) (i := i) (by omega))
    have hd : l.drop i = nth l i :: l.drop (i + 1) := nth_drop (by omega)
    refine W_go (Y := (Y9 I)) xok (tY9 hI) Try.func9 rfl 2000 _ hI ?_; (conv => arg 4; cbv)
    repeat' (first | ((with_reducible refine on_eqs ?_ ?_); (focus (with_reducible rfl)); conv => arg 4; cbv) | (with_reducible refine on_both ?_ ?_ <;> (conv => arg 4; cbv)) | (with_reducible refine on_true (by assumption) ?_; conv => arg 4; cbv) | (with_reducible refine on_false (by assumption) ?_; conv => arg 4; cbv) | (with_reducible refine on_ask (fun g => ?_) (fun g => ?_) <;> (have h := g) <;> (try simp (disch := omega) [hI, hes, hx, -List.length_eq_zero_iff] at h) <;> (try (exfalso; omega)) <;> (conv => arg 4; cbv)) | ((with_reducible refine on_must ?_ ?_); (focus ((simp (disch := omega) [hI, hes, hx]) <;> (first | omega | assumption | ((repeat' (refine And.intro ?_ ?_)) <;> (first | omega | assumption))))); conv => arg 4; cbv))
    · (with_reducible refine on_ret ?_); refine Ended_of rfl ?_; (conv => lhs; cbv); rw [hd]; first | (simp (disch := omega) [hI, hes, hx, szS, szNd, szL, *]; done) | ((try simp (disch := omega) [hI, hes, hx, szS, szNd, szL, *]); (repeat' split); all_goals (first | rfl | omega | (simp_all; done) | (exfalso; simp_all; omega)))
    · have q : ¬ szNd (nth l i) m < 0 := by unfold szNd szL; (repeat' split); all_goals omega
      have e : szS szNd (l.drop i) m = szS szNd (l.drop (i + 1)) (szNd (nth l i) m) := by rw [hd, szS, if_neg q]
      rw [e]
      (with_reducible refine on_loop ?_); simp only [List.cons_append, List.nil_append]; refine W_norm [0, 1, 5] ?_ (ih (i + 1) _ (by omega)); (conv => lhs; cbv)
      first | (simp (disch := omega) [hI, hes, hx, szS, szNd, szL, *]; done) | ((try simp (disch := omega) [hI, hes, hx, szS, szNd, szL, *]); (repeat' split); all_goals (first | rfl | omega | (simp_all; done) | (exfalso; simp_all; omega)))
theorem ok9 (l : List NodeV) (m : Int) (hl : l.length ≤ 9223372036854775807) (hb : ∀ e ∈ l, decide (e.cells.length ≤ 9223372036854775807) = true) : Ok0 Try.prog 9 [(pL tNode).enc l, pI.enc m] (.one (.pv (.sc (.int .i64 (szA szNd l m))))) [] 0 := by
  obtain ⟨I, hI⟩ : ∃ I, I = real := ⟨_, rfl⟩
  have hx : True := trivial
  obtain ⟨es, hes⟩ : ∃ es, es = tNode.encs l := ⟨_, rfl⟩
  show Ok0 Try.prog 9 [.one (.pv (.sl false 7 (tNode.encs l))), .one (.pv (.sc (.int .i64 m)))] _ [] 0
  rw [← hes]
  refine Ok0_run (Y := (Y9 I)) xok (tY9 hI) Try.func9 rfl rfl rfl 2000 hI fun w Xs => ?_; (conv => arg 4; cbv)
  repeat' (first | ((with_reducible refine on_eqs ?_ ?_); (focus (with_reducible rfl)); conv => arg 4; cbv) | (with_reducible refine on_both ?_ ?_ <;> (conv => arg 4; cbv)) | (with_reducible refine on_true (by assumption) ?_; conv => arg 4; cbv) | (with_reducible refine on_false (by assumption) ?_; conv => arg 4; cbv) | (with_reducible refine on_ask (fun g => ?_) (fun g => ?_) <;> (have h := g) <;> (try simp (disch := omega) [hI, hes, hx, -List.length_eq_zero_iff] at h) <;> (try (exfalso; omega)) <;> (conv => arg 4; cbv)) | ((with_reducible refine on_must ?_ ?_); (focus ((simp (disch := omega) [hI, hes, hx]) <;> (first | omega | assumption | ((repeat' (refine And.intro ?_ ?_)) <;> (first | omega | assumption))))); conv => arg 4; cbv))
  · (with_reducible refine on_ret ?_); refine Ended_of rfl ?_; (conv => lhs; cbv); first | (simp (disch := omega) [hI, hes, hx, szA, *]; done) | ((try simp (disch := omega) [hI, hes, hx, szA, *]); (repeat' split); all_goals (first | rfl | omega | (simp_all; done) | (exfalso; simp_all; omega)))
  · have e : szA szNd l m = szS szNd (l.drop 0) (IntKind.i64.wrap (m - l.length)) := by unfold szA; rw [if_neg (by omega)]; rfl
    rw [e]
    (with_reducible refine on_loop ?_); simp only [List.cons_append, List.nil_append]; refine W_norm [0, 1, 5] ?_ (L9 l hl hb es hes l.length 0 _ rfl); (conv => lhs; cbv)
    first | (simp (disch := omega) [hI, hes, hx, szA, *]; done) | ((try simp (disch := omega) [hI, hes, hx, szA, *]); (repeat' split); all_goals (first | rfl | omega | (simp_all; done) | (exfalso; simp_all; omega)))

theorem s9 {I : Ops} (hI : I = real) {e : En} (he : e = en9) : Sound Try.prog 9 (callE I e sh9) := by
  refine Sound.mkE ent9 hI (fun _ => rfl) ?_ he
  rintro ⟨l, m, ⟨⟩⟩ hp
  
  have hp : (decide (l.length ≤ 9223372036854775807) && l.all fun e => decide (e.cells.length ≤ 9223372036854775807)) = true := hp
  simp only [Bool.and_eq_true, List.all_eq_true, decide_eq_true_eq] at hp
  exact ok9 l m hp.1 (fun e he => by simpa using hp.2 e he)
def an38 : An (NodeV × NodeV × Unit) where
  pre t := decide (t.1.cells.length < 4611686018427387904)
  b _ t := decide (t.1 = t.2.1)
noncomputable def en38 : En := mkE (parsC (pS tNode) (parsC (pS tNode) pars0)) an38
def sh38 : Shp := fun I i b l s => .ok (.one (.pv (.sc (.bool (b 0)))), [], 0)
theorem ent38 : Enters Try.prog 38 := ⟨Try.f38, Try.func38, by kernel_rfl, by kernel_rfl⟩
noncomputable def Y38 (I : Ops) (K : FuncId → En) : CallsA := (Tab.calls [(37, true, callRd I (callE I (K 37) sh37))])
theorem tY38 {I : Ops} (hI : I = real) {K : FuncId → En} (k37 : K 37 = en37) : CallsOk Try.prog (Y38 I K) := (TabOk.calls mixed ⟨EntryOk.rd (s37 hI k37) hI, fun _ => callRd_quiet _ _, trivial⟩)

theorem ok38 (x y : NodeV) (h6 : x.cells.length < 4611686018427387904) : Ok0 Try.prog 38 [(pS tNode).enc x, (pS tNode).enc y] (.one (.pv (.sc (.bool (decide (x = y)))))) [] 0 := by
  obtain ⟨I, hI⟩ : ∃ I, I = real := ⟨_, rfl⟩; obtain ⟨K, hK⟩ : ∃ K : FuncId → En, K = fun g => (lk g [(37, en37)]).getD default := ⟨_, rfl⟩; have k37 : K 37 = en37 := (by subst hK; rfl); clear hK
  obtain ⟨x0, x1, x2, x3, x4, x5, x6⟩ := x
  obtain ⟨y0, y1, y2, y3, y4, y5, y6⟩ := y
  try dsimp only at *
  obtain ⟨ea6, hea6⟩ : ∃ es, es = tI64.encs x6 := ⟨_, rfl⟩
  obtain ⟨eb6, heb6⟩ : ∃ es, es = tI64.encs y6 := ⟨_, rfl⟩

  show Ok0 Try.prog 38 [.ag [.pv (.sc (.int .i64 x0)), .pv (.sc (.int .i64 x1)), .pv (.sc (.int .i64 x2)), .pv (.sc (.int .i64 x3)), .pv (.sc (.int .i64 x4)), .pv (.sc (.int .i64 x5)), .pv (.sl false 1 (tI64.encs x6))], .ag [.pv (.sc (.int .i64 y0)), .pv (.sc (.int .i64 y1)), .pv (.sc (.int .i64 y2)), .pv (.sc (.int .i64 y3)), .pv (.sc (.int .i64 y4)), .pv (.sc (.int .i64 y5)), .pv (.sl false 1 (tI64.encs y6))]] _ [] 0
  rw [← hea6, ← heb6]
  refine Ok0_run (Y := (Y38 I K)) xok (tY38 hI k37) Try.func38 rfl rfl rfl 2000 hI fun w Xs => ?_; (conv => arg 4; cbv)
  repeat' (first | ((with_reducible refine on_eqs ?_ ?_); (focus (with_reducible rfl)); conv => arg 4; cbv) | (with_reducible refine on_both ?_ ?_ <;> (conv => arg 4; cbv)) | (with_reducible refine on_true (by assumption) ?_; conv => arg 4; cbv) | (with_reducible refine on_false (by assumption) ?_; conv => arg 4; cbv) | (with_reducible refine on_ask (fun g => ?_) (fun g => ?_) <;> (have h := g) <;> (try simp (disch := omega) [hI, k37, en37, an37, hea6, heb6, -List.length_eq_zero_iff] at h) <;> (try (exfalso; omega)) <;> (conv => arg 4; cbv)) | ((with_reducible refine on_must ?_ ?_); (focus ((simp (disch := omega) [hI, k37, en37, an37, hea6, heb6]) <;> (first | omega | assumption | ((repeat' (refine And.intro ?_ ?_)) <;> (first | omega | assumption))))); conv => arg 4; cbv))
  all_goals first
    | ((with_reducible refine on_ret ?_); refine Ended_of rfl ?_; (conv => lhs; cbv); simp (disch := omega) [hI, k37, en37, an37, hea6, heb6]; done)
    | ((with_reducible refine on_ret ?_); refine Ended_of rfl ?_; (conv => lhs; cbv); simp_all; done)
    | ((with_reducible refine on_ret ?_); refine Ended_of rfl ?_; (conv => lhs; cbv); (try simp (disch := omega) [hI, k37, en37, an37, hea6, heb6]); simp_all; done)

theorem s38 {I : Ops} (hI : I = real) {e : En} (he : e = en38) : Sound Try.prog 38 (callE I e sh38) := by
  refine Sound.mkE ent38 hI (fun _ => rfl) ?_ he
  rintro ⟨x, y, ⟨⟩⟩ hp
  exact ok38 x y (by simpa [an38] using hp)
def an14 : An (List NodeV × List NodeV × Unit) where
  pre t := decide (t.1.length < 4611686018427387904) && t.1.all fun e => decide (e.cells.length < 4611686018427387904)
  b _ t := decide (t.1 = t.2.1)
noncomputable def en14 : En := mkE (parsC (pL tNode) (parsC (pL tNode) pars0)) an14
def sh14 : Shp := fun I i b l s => .ok (.one (.pv (.sc (.bool (b 0)))), [], 0)
theorem ent14 : Enters Try.prog 14 := ⟨Try.f14, Try.func14, by kernel_rfl, by kernel_rfl⟩
noncomputable def Y14 (I : Ops) (K : FuncId → En) : CallsA := (Tab.calls [(38, true, callRd I (callE I (K 38) sh38))])
theorem tY14 {I : Ops} (hI : I = real) {K : FuncId → En} (k38 : K 38 = en38) : CallsOk Try.prog (Y14 I K) := (TabOk.calls mixed ⟨EntryOk.rd (s38 hI k38) hI, fun _ => callRd_quiet _ _, trivial⟩)

theorem L14 {w : World} {Xs : Nat → Prop} (l r : List NodeV) (hl : l.length < 4611686018427387904) (hb : ∀ e ∈ l, e.cells.length < 4611686018427387904) (hlr : l.length = r.length) (es fs : List (List PV)) (hes : es = tNode.encs l) (hfs : fs = tNode.encs r) :
    ∀ (k i : Nat), k + i = l.length → W Try.prog 14 Try.f14 (Ent0 w Xs) (Back (Ent0 w Xs) (.one (.pv (.sc (.bool (decide (l.drop i = r.drop i)))))) [] 0) (place (bodyOf Try.f14) [1,1,0,1,0,0] [])
      ⟨[(0, .one (.pv (.sl false 7 es))), (1, .one (.pv (.sl false 7 fs))), (5, .one (.pv (.sc (.int .i64 i))))], [], 0⟩ := by
  obtain ⟨I, hI⟩ : ∃ I, I = real := ⟨_, rfl⟩; obtain ⟨K, hK⟩ : ∃ K : FuncId → En, K = fun g => (lk g [(38, en38)]).getD default := ⟨_, rfl⟩; have k38 : K 38 = en38 := (by subst hK; rfl); clear hK
  intro k
  induction k with
  | zero =>
    intro i hk
    refine W_go (Y := (Y14 I K)) xok (tY14 hI k38) Try.func14 rfl 2000 _ hI ?_; (conv => arg 4; cbv)
    repeat' (first | ((with_reducible refine on_eqs ?_ ?_); (focus (with_reducible rfl)); conv => arg 4; cbv) | (with_reducible refine on_both ?_ ?_ <;> (conv => arg 4; cbv)) | (with_reducible refine on_true (by assumption) ?_; conv => arg 4; cbv) | (with_reducible refine on_false (by assumption) ?_; conv => arg 4; cbv) | (with_reducible refine on_ask (fun g => ?_) (fun g => ?_) <;> (have h := g) <;> (try simp (disch := omega) [hI, k38, en38, an38, hes, hfs, -List.length_eq_zero_iff] at h) <;> (try (exfalso; omega)) <;> (conv => arg 4; cbv)) | ((with_reducible refine on_must ?_ ?_); (focus ((simp (disch := omega) [hI, k38, en38, an38, hes, hfs]) <;> (first | omega | assumption | ((repeat' (refine And.intro ?_ ?_)) <;> (first | omega | assumption))))); conv => arg 4; cbv))
    (with_reducible refine on_ret ?_); refine Ended_of rfl ?_; (conv => lhs; cbv)
    have h1 : l.drop i = [] := List.drop_of_length_le (by omega)
    have h2 : r.drop i = [] := List.drop_of_length_le (by omega)
    simp [h1, h2]
  | succ k ih =>
    intro i hk
    refine W_go (Y := (Y14 I K)) xok (tY14 hI k38) Try.func14 rfl 2000 _ hI ?_; (conv => arg 4; cbv)
    have hd : l.drop i = nth l i :: l.drop (i + 1) := nth_drop (by omega)
    have hd' : r.drop i = nth r i :: r.drop (i + 1) := nth_drop (by omega)
    have hlt : i < r.length := by omega
    have hx := hb _ (nth_mem (l := l) (i := i) (by omega))
    repeat' (first | ((with_reducible refine on_eqs ?_ ?_); (focus (with_reducible rfl)); conv => arg 4; cbv) | (with_reducible refine on_both ?_ ?_ <;> (conv => arg 4; cbv)) | (with_reducible refine on_true (by assumption) ?_; conv => arg 4; cbv) | (with_reducible refine on_false (by assumption) ?_; conv => arg 4; cbv) | (with_reducible refine on_ask (fun g => ?_) (fun g => ?_) <;> (have h := g) <;> (try simp (disch := omega) [hI, k38, en38, an38, hes, hfs, -List.length_eq_zero_iff] at h) <;> (try (exfalso; omega)) <;> (conv => arg 4; cbv)) | ((with_reducible refine on_must ?_ ?_); (focus ((simp (disch := omega) [hI, k38, en38, an38, hes, hfs]) <;> (first | omega | assumption | ((repeat' (refine And.intro ?_ ?_)) <;> (first | omega | assumption))))); conv => arg 4; cbv))
    · (with_reducible refine on_ret ?_); refine Ended_of rfl ?_; (conv => lhs; cbv); simp_all
    · have e : decide (l.drop i = r.drop i) = decide (l.drop (i + 1) = r.drop (i + 1)) := by simp_all
      rw [e]
      (with_reducible refine on_loop ?_); simp only [List.cons_append, List.nil_append]; refine W_norm [0, 1, 5] ?_ (ih (i + 1) (by omega)); (conv => lhs; cbv)
      first | (simp (disch := omega) [hI, k38, en38, an38, hes, hfs, *]; done) | ((try simp (disch := omega) [hI, k38, en38, an38, hes, hfs, *]); (repeat' split); all_goals (first | rfl | omega | (simp_all; done) | (exfalso; simp_all; omega)))
theorem ok14 (l r : List NodeV) (hl : l.length < 4611686018427387904) (hb : ∀ e ∈ l, e.cells.length < 4611686018427387904) : Ok0 Try.prog 14 [(pL tNode).enc l, (pL tNode).enc r] (.one (.pv (.sc (.bool (decide (l = r)))))) [] 0 := by
  obtain ⟨I, hI⟩ : ∃ I, I = real := ⟨_, rfl⟩; obtain ⟨K, hK⟩ : ∃ K : FuncId → En, K = fun g => (lk g [(38, en38)]).getD default := ⟨_, rfl⟩; have k38 : K 38 = en38 := (by subst hK; rfl); clear hK
  obtain ⟨es, hes⟩ : ∃ es, es = tNode.encs l := ⟨_, rfl⟩
  obtain ⟨fs, hfs⟩ : ∃ es, es = tNode.encs r := ⟨_, rfl⟩
  show Ok0 Try.prog 14 [.one (.pv (.sl false 7 (tNode.encs l))), .one (.pv (.sl false 7 (tNode.encs r)))] _ [] 0
  rw [← hes, ← hfs]
  refine Ok0_run (Y := (Y14 I K)) xok (tY14 hI k38) Try.func14 rfl rfl rfl 2000 hI fun w Xs => ?_; (conv => arg 4; cbv)
  repeat' (first | ((with_reducible refine on_eqs ?_ ?_); (focus (with_reducible rfl)); conv => arg 4; cbv) | (with_reducible refine on_both ?_ ?_ <;> (conv => arg 4; cbv)) | (with_reducible refine on_true (by assumption) ?_; conv => arg 4; cbv) | (with_reducible refine on_false (by assumption) ?_; conv => arg 4; cbv) | (with_reducible refine on_ask (fun g => ?_) (fun g => ?_) <;> (have h := g) <;> (try simp (disch := omega) [hI, k38, en38, an38, hes, hfs, -List.length_eq_zero_iff] at h) <;> (try (exfalso; omega)) <;> (conv => arg 4; cbv)) | ((with_reducible refine on_must ?_ ?_); (focus ((simp (disch := omega) [hI, k38, en38, an38, hes, hfs]) <;> (first | omega | assumption | ((repeat' (refine And.intro ?_ ?_)) <;> (first | omega | assumption))))); conv => arg 4; cbv))
  · (with_reducible refine on_ret ?_); refine Ended_of rfl ?_; (conv => lhs; cbv)
    have : l ≠ r := by intro e; subst e; simp_all
    simp [this]
  · (with_reducible refine on_loop ?_); simp only [List.cons_append, List.nil_append]; refine W_norm [0, 1, 5] ?_ (L14 l r hl hb (by omega) es fs hes hfs l.length 0 rfl); (conv => lhs; cbv)
    first | (simp (disch := omega) [hI, k38, en38, an38, hes, hfs, *]; done) | ((try simp (disch := omega) [hI, k38, en38, an38, hes, hfs, *]); (repeat' split); all_goals (first | rfl | omega | (simp_all; done) | (exfalso; simp_all; omega)))

theorem s14 {I : Ops} (hI : I = real) {e : En} (he : e = en14) : Sound Try.prog 14 (callE I e sh14) := by
  refine Sound.mkE ent14 hI (fun _ => rfl) ?_ he
  rintro ⟨l, r, ⟨⟩⟩ hp
  
  have hp : (decide (l.length < 4611686018427387904) && l.all fun e => decide (e.cells.length < 4611686018427387904)) = true := hp
  simp only [Bool.and_eq_true, List.all_eq_true, decide_eq_true_eq] at hp
  exact ok14 l r hp.1 hp.2
theorem ent34 : Enters Try.prog 34 := ⟨Try.f34, Try.func34, by kernel_rfl, by kernel_rfl⟩
noncomputable def Y34 (I : Ops) (K : FuncId → En) : CallsA := (Tab.calls [(56, false, callIce I (callE I (K 56) sh56))])
theorem tY34 {I : Ops} (hI : I = real) {K : FuncId → En} (k56 : K 56 = en56) : CallsOk Try.prog (Y34 I K) := (TabOk.calls mixed ⟨EntryOk.own (s56 hI k56) hI, notQuiet, trivial⟩)
theorem s34 {I : Ops} (hI : I = real) {K : FuncId → En} (k56 : K 56 = en56) : Sound Try.prog 34 (inl X I (Y34 I K) Try.f34) :=
  Sound.inl (Y := (Y34 I K)) xok (tY34 hI k56) ent34 Try.func34 rfl rfl hI
def an11 : An (List NodeV × Unit) where
  pre t := decide (t.1.length ≤ 1048576) && t.1.all fun e => decide (e.cells.length ≤ 1048576)
  l _ t := mapE tNode_own t.1
noncomputable def en11 : En := mkE (parsC (pL tNode) pars0) an11
def sh11 : Shp := fun I i b l s => .ok (.one (.arr 0 0 (I.len (l 0))), [(0, .row 7 (l 0))], 1)
theorem ent11 : Enters Try.prog 11 := ⟨Try.f11, Try.func11, by kernel_rfl, by kernel_rfl⟩
noncomputable def Y11 (I : Ops) (K : FuncId → En) : CallsA := (Tab.calls [(34, false, callIce I (inl X I (Y34 I K) Try.f34))])
theorem tY11 {I : Ops} (hI : I = real) {K : FuncId → En} (k56 : K 56 = en56) : CallsOk Try.prog (Y11 I K) := (TabOk.calls mixed ⟨EntryOk.own (s34 hI k56) hI, notQuiet, trivial⟩)

theorem L11 {w : World} {Xs : Nat → Prop} (l : List NodeV) (hl : l.length ≤ 1048576) (hb : ∀ e ∈ l, e.cells.length ≤ 1048576) (es : List (List PV)) (hes : es = tNode.encs l) (n : Nat) (hn : n = l.length) :
    ∀ (k i : Nat) (rs : List (List PV)), rs = pad tNode_own [.sc (.int .i64 0), .sc (.int .i64 0), .sc (.int .i64 0), .sc (.int .i64 0), .sc (.int .i64 0), .sc (.int .i64 0), .nl] l i → k + i = l.length → W Try.prog 11 Try.f11 (Ent0 w Xs) (Back (Ent0 w Xs) (.one (.arr 0 0 l.length)) [(0, .row 7 (mapE tNode_own l))] 1) (place (bodyOf Try.f11) [1,1,0,1,0,0] [])
      ⟨[(0, .one (.pv (.sl false 7 es))), (3, .one (.arr 0 0 n)), (4, .one (.pv (.sc (.int .i64 i))))], [(0, .row 7 rs)], 1⟩ := by
  obtain ⟨I, hI⟩ : ∃ I, I = real := ⟨_, rfl⟩; obtain ⟨K, hK⟩ : ∃ K : FuncId → En, K = fun g => (lk g [(56, en56)]).getD default := ⟨_, rfl⟩; have k56 : K 56 = en56 := (by subst hK; rfl); clear hK
  intro k
  induction k with
  | zero =>
    intro i rs hrs hk
    refine W_go (Y := (Y11 I K)) xok (tY11 hI k56) Try.func11 rfl 2000 _ hI ?_; (conv => arg 4; cbv)
    repeat' (first | ((with_reducible refine on_eqs ?_ ?_); (focus (with_reducible rfl)); conv => arg 4; cbv) | (with_reducible refine on_both ?_ ?_ <;> (conv => arg 4; cbv)) | (with_reducible refine on_true (by assumption) ?_; conv => arg 4; cbv) | (with_reducible refine on_false (by assumption) ?_; conv => arg 4; cbv) | (with_reducible refine on_ask (fun g => ?_) (fun g => ?_) <;> (have h := g) <;> (try simp (disch := omega) [hI, k56, en56, an56, hes, hrs, hn, -List.length_eq_zero_iff] at h) <;> (try (exfalso; omega)) <;> (conv => arg 4; cbv)) | ((with_reducible refine on_must ?_ ?_); (focus ((simp (disch := omega) [hI, k56, en56, an56, hes, hrs, hn]) <;> (first | omega | assumption | ((repeat' (refine And.intro ?_ ?_)) <;> (first | omega | assumption))))); conv => arg 4; cbv))
    (with_reducible refine on_ret ?_); refine Ended_of rfl ?_; (conv => lhs; cbv)
    rw [hrs, hn, pad_done _ _ _ _ (by omega)]
  | succ k ih =>
    intro i rs hrs hk
    refine W_go (Y := (Y11 I K)) xok (tY11 hI k56) Try.func11 rfl 2000 _ hI ?_; (conv => arg 4; cbv)
    have hp := pad_length tNode_own [.sc (.int .i64 0), .sc (.int .i64 0), .sc (.int .i64 0), .sc (.int .i64 0), .sc (.int .i64 0), .sc (.int .i64 0), .nl] l i (by omega)
    have hx := hb _ (nth_mem (l := l) (i := i) (by omega))
    repeat' (first | ((with_reducible refine on_eqs ?_ ?_); (focus (with_reducible rfl)); conv => arg 4; cbv) | (with_reducible refine on_both ?_ ?_ <;> (conv => arg 4; cbv)) | (with_reducible refine on_true (by assumption) ?_; conv => arg 4; cbv) | (with_reducible refine on_false (by assumption) ?_; conv => arg 4; cbv) | (with_reducible refine on_ask (fun g => ?_) (fun g => ?_) <;> (have h := g) <;> (try simp (disch := omega) [hI, k56, en56, an56, hes, hrs, hn, -List.length_eq_zero_iff] at h) <;> (try (exfalso; omega)) <;> (conv => arg 4; cbv)) | ((with_reducible refine on_must ?_ ?_); (focus ((simp (disch := omega) [hI, k56, en56, an56, hes, hrs, hn]) <;> (first | omega | assumption | ((repeat' (refine And.intro ?_ ?_)) <;> (first | omega | assumption))))); conv => arg 4; cbv))
    (with_reducible refine on_loop ?_); simp only [List.cons_append, List.nil_append]; refine W_norm [0, 3, 4] ?_ (ih (i + 1) _ rfl (by omega)); (conv => lhs; cbv)
    rw [← pad_set tNode_own [.sc (.int .i64 0), .sc (.int .i64 0), .sc (.int .i64 0), .sc (.int .i64 0), .sc (.int .i64 0), .sc (.int .i64 0), .nl] l i (by omega) _ rfl]
    simp (disch := omega) [hI, k56, en56, an56, hes, hrs, hn, *, tNode_own]
    try rfl
theorem ok11 (l : List NodeV) (hl : l.length ≤ 1048576) (hb : ∀ e ∈ l, e.cells.length ≤ 1048576) : Ok0 Try.prog 11 [(pL tNode).enc l] (.one (.arr 0 0 (real.len (mapE tNode_own l)))) [(0, .row 7 (mapE tNode_own l))] 1 := by
  obtain ⟨I, hI⟩ : ∃ I, I = real := ⟨_, rfl⟩; obtain ⟨K, hK⟩ : ∃ K : FuncId → En, K = fun g => (lk g [(56, en56)]).getD default := ⟨_, rfl⟩; have k56 : K 56 = en56 := (by subst hK; rfl); clear hK
  have hrs : True := trivial
  have hn : True := trivial
  obtain ⟨es, hes⟩ : ∃ es, es = tNode.encs l := ⟨_, rfl⟩
  rw [r_len, mapE_length]
  show Ok0 Try.prog 11 [.one (.pv (.sl false 7 (tNode.encs l)))] _ _ 1
  rw [← hes]
  refine Ok0_run (Y := (Y11 I K)) xok (tY11 hI k56) Try.func11 rfl rfl rfl 2000 hI fun w Xs => ?_; (conv => arg 4; cbv)
  repeat' (first | ((with_reducible refine on_eqs ?_ ?_); (focus (with_reducible rfl)); conv => arg 4; cbv) | (with_reducible refine on_both ?_ ?_ <;> (conv => arg 4; cbv)) | (with_reducible refine on_true (by assumption) ?_; conv => arg 4; cbv) | (with_reducible refine on_false (by assumption) ?_; conv => arg 4; cbv) | (with_reducible refine on_ask (fun g => ?_) (fun g => ?_) <;> (have h := g) <;> (try simp (disch := omega) [hI, k56, en56, an56, hes, hrs, hn, -List.length_eq_zero_iff] at h) <;> (try (exfalso; omega)) <;> (conv => arg 4; cbv)) | ((with_reducible refine on_must ?_ ?_); (focus ((simp (disch := omega) [hI, k56, en56, an56, hes, hrs, hn]) <;> (first | omega | assumption | ((repeat' (refine And.intro ?_ ?_)) <;> (first | omega | assumption))))); conv => arg 4; cbv))
  (with_reducible refine on_loop ?_); simp only [List.cons_append, List.nil_append]; refine W_norm [0, 3, 4] ?_ (L11 l hl hb es hes l.length rfl l.length 0 _ rfl rfl); (conv => lhs; cbv)
  rw [← pad_zero tNode_own [.sc (.int .i64 0), .sc (.int .i64 0), .sc (.int .i64 0), .sc (.int .i64 0), .sc (.int .i64 0), .sc (.int .i64 0), .nl] l l.length rfl]
  simp (disch := omega) [hI, k56, en56, an56, hes, hrs, hn, *]

theorem s11 {I : Ops} (hI : I = real) {e : En} (he : e = en11) : Sound Try.prog 11 (callE I e sh11) := by
  refine Sound.mkE ent11 hI (fun _ => rfl) ?_ he
  rintro ⟨l, ⟨⟩⟩ hp
  
  have hp : (decide (l.length ≤ 1048576) && l.all fun e => decide (e.cells.length ≤ 1048576)) = true := hp
  simp only [Bool.and_eq_true, List.all_eq_true, decide_eq_true_eq] at hp
  exact ok11 l hp.1 hp.2
def fNode (e : NodeV) (k : Int) : NodeV × Int := (⟨k, (nx1 k), (nx1 (nx1 k)), (nx1 (nx1 (nx1 k))), (nx1 (nx1 (nx1 (nx1 k)))), (nx1 (nx1 (nx1 (nx1 (nx1 k))))), (mkS fI64 e.cells (nx1 (nx1 (nx1 (nx1 (nx1 (nx1 k))))))).1⟩, (mkS fI64 e.cells (nx1 (nx1 (nx1 (nx1 (nx1 (nx1 k))))))).2)
def an15 : An (List NodeV × Int × Unit) where
  pre t := decide (t.1.length < 4611686018427387904) && t.1.all fun e => decide (e.cells.length < 4611686018427387904)
  i _ t := (mkS fNode t.1 t.2.1).2
  l _ t := mapE tNode.own (mkS fNode t.1 t.2.1).1
noncomputable def en15 : En := mkE (parsC (pO tNode) (parsC pI pars0)) an15
theorem ent15 : Enters Try.prog 15 := ⟨Try.f15, Try.func15, by kernel_rfl, by kernel_rfl⟩
noncomputable def Y15 (I : Ops) (K : FuncId → En) : CallsA := (Tab.calls [(39, false, callRef I (markT I (K 39) 1))])
theorem tY15 {I : Ops} (hI : I = real) {K : FuncId → En} (k39 : K 39 = en39) : CallsOk Try.prog (Y15 I K) := (TabOk.calls mixed ⟨EntryOk.ref (s39 hI k39) hI, notQuiet, trivial⟩)

theorem L15 {w : World} {Xs : Nat → Prop} {β0 : Nat → Nat × Nat} {O0 : Nat → List Nat} (es0 : List (List PV)) (l : List NodeV) (hl : l.length < 4611686018427387904) (hb : ∀ e ∈ l, e.cells.length < 4611686018427387904) (n : Nat) (hn : n = l.length) :
    ∀ (kk i : Nat) (m : Int) (done : List NodeV) (rs : List (List PV)), kk + i = l.length → done.length = i → rs = (mapE tNode_own (done ++ l.drop i)) → W Try.prog 15 Try.f15 (EntR w Xs β0 O0 [(0, .row 7 es0)] 1) (Back (EntR w Xs β0 O0 [(0, .row 7 es0)] 1) (.one (.pv (.sc (.int .i64 (mkS fNode (l.drop i) m).2)))) [(0, .row 7 (mapE tNode_own (done ++ (mkS fNode (l.drop i) m).1)))] 1) (place (bodyOf Try.f15) [1,0,1,0,0] [])
      ⟨[(0, .one (.arr 0 0 n)), (1, .one (.pv (.sc (.int .i64 m)))), (5, .one (.pv (.sc (.int .i64 i))))], [(0, .row 7 rs)], 1⟩ := by
  obtain ⟨I, hI⟩ : ∃ I, I = real := ⟨_, rfl⟩; obtain ⟨K, hK⟩ : ∃ K : FuncId → En, K = fun g => (lk g [(39, en39)]).getD default := ⟨_, rfl⟩; have k39 : K 39 = en39 := (by subst hK; rfl); clear hK
  intro kk
  induction kk with
  | zero =>
    intro i m done rs hk hdn hrs
    have hlen : (done ++ l.drop i).length = l.length := mid_len hdn (by omega)
    have hlen2 : rs.length = l.length := by rw [hrs]; simp only [Ty.encs_length, mapE_length]; exact hlen
    have h1 : l.drop i = [] := List.drop_of_length_le (by omega)
    have hnth : True := trivial
    refine W_go (Y := (Y15 I K)) xok (tY15 hI k39) Try.func15 rfl 2000 _ hI ?_; (conv => arg 4; cbv)
    repeat' (first | ((with_reducible refine on_eqs ?_ ?_); (focus (with_reducible rfl)); conv => arg 4; cbv) | (with_reducible refine on_both ?_ ?_ <;> (conv => arg 4; cbv)) | (with_reducible refine on_true (by assumption) ?_; conv => arg 4; cbv) | (with_reducible refine on_false (by assumption) ?_; conv => arg 4; cbv) | (with_reducible refine on_ask (fun g => ?_) (fun g => ?_) <;> (have h := g) <;> (try simp (disch := omega) [hI, k39, en39, an39, hlen, hlen2, hnth, hn, hrs, -List.length_eq_zero_iff] at h) <;> (try (exfalso; omega)) <;> (conv => arg 4; cbv)) | ((with_reducible refine on_must ?_ ?_); (focus ((simp (disch := omega) [hI, k39, en39, an39, hlen, hlen2, hnth, hn, hrs]) <;> (first | omega | assumption | ((repeat' (refine And.intro ?_ ?_)) <;> (first | omega | assumption))))); conv => arg 4; cbv))
    (with_reducible refine on_ret ?_); refine EndedN_of ?_; (conv => lhs; cbv)
    rw [hrs, h1]
    simp [mkS]
  | succ kk ih =>
    intro i m done rs hk hdn hrs
    have hlen : (done ++ l.drop i).length = l.length := mid_len hdn (by omega)
    have hlen2 : rs.length = l.length := by rw [hrs]; simp only [Ty.encs_length, mapE_length]; exact hlen
    have hnth : nth (done ++ l.drop i) i = nth l i := mid_nth hdn (by omega)
    have hset : ∀ (y : NodeV) {ps : List PV}, ps = tNode_own y → real.set rs i ps = (mapE tNode_own ((done ++ [y]) ++ l.drop (i + 1))) := by
      intro y ps hy
      rw [hrs]
      exact mid_set hdn (by omega) tNode_own y hy
    have hd : l.drop i = nth l i :: l.drop (i + 1) := nth_drop (by omega)
    have hx := hb _ (nth_mem (l := l) (i := i) (by omega))
    refine W_focus 0 i [.int .i64, .int .i64, .int .i64, .int .i64, .int .i64, .int .i64, .sl 1] hI ?_; (conv => arg 4; cbv)
    repeat' (first | ((with_reducible refine on_eqs ?_ ?_); (focus (with_reducible rfl)); conv => arg 4; cbv) | (with_reducible refine on_both ?_ ?_ <;> (conv => arg 4; cbv)) | (with_reducible refine on_true (by assumption) ?_; conv => arg 4; cbv) | (with_reducible refine on_false (by assumption) ?_; conv => arg 4; cbv) | (with_reducible refine on_ask (fun g => ?_) (fun g => ?_) <;> (have h := g) <;> (try simp (disch := omega) [hI, k39, en39, an39, hlen, hlen2, hnth, hn, hrs, -List.length_eq_zero_iff] at h) <;> (try (exfalso; omega)) <;> (conv => arg 4; cbv)) | ((with_reducible refine on_must ?_ ?_); (focus ((simp (disch := omega) [hI, k39, en39, an39, hlen, hlen2, hnth, hn, hrs]) <;> (first | omega | assumption | ((repeat' (refine And.intro ?_ ?_)) <;> (first | omega | assumption))))); conv => arg 4; cbv))
    all_goals ((with_reducible refine on_loop ?_); refine W_go (Y := (Y15 I K)) xok (tY15 hI k39) Try.func15 rfl 2000 _ hI ?_; (conv => arg 4; cbv))
    repeat' (first | ((with_reducible refine on_eqs ?_ ?_); (focus (with_reducible rfl)); conv => arg 4; cbv) | (with_reducible refine on_both ?_ ?_ <;> (conv => arg 4; cbv)) | (with_reducible refine on_true (by assumption) ?_; conv => arg 4; cbv) | (with_reducible refine on_false (by assumption) ?_; conv => arg 4; cbv) | (with_reducible refine on_ask (fun g => ?_) (fun g => ?_) <;> (have h := g) <;> (try simp (disch := omega) [hI, k39, en39, an39, hlen, hlen2, hnth, hn, hrs, -List.length_eq_zero_iff] at h) <;> (try (exfalso; omega)) <;> (conv => arg 4; cbv)) | ((with_reducible refine on_must ?_ ?_); (focus ((simp (disch := omega) [hI, k39, en39, an39, hlen, hlen2, hnth, hn, hrs]) <;> (first | omega | assumption | ((repeat' (refine And.intro ?_ ?_)) <;> (first | omega | assumption))))); conv => arg 4; cbv))
    all_goals ((with_reducible refine on_loop ?_); simp only [List.cons_append, List.nil_append])
    all_goals (apply W_unfocus 0 hI; (· (conv => lhs; cbv); try rfl))
    all_goals
      rw [show (mkS fNode (l.drop i) m).2 = (mkS fNode (l.drop (i + 1)) (fNode (nth l i) m).2).2 by rw [hd]; rfl, show done ++ (mkS fNode (l.drop i) m).1 = (done ++ [(fNode (nth l i) m).1]) ++ (mkS fNode (l.drop (i + 1)) (fNode (nth l i) m).2).1 by rw [hd]; simp [mkS]]
      refine W_norm [0, 1, 5] ?_ (ih (i + 1) _ (done ++ [(fNode (nth l i) m).1]) _ (by omega) (by simp; omega) rfl); (conv => lhs; cbv)
      rw [← hset (fNode (nth l i) m).1 rfl]
      clear hset hd ih
      try simp only [List.length_eq_zero_iff] at *
      simp (disch := omega) [hI, k39, en39, an39, hlen, hlen2, hnth, hn, hrs, *, nx1, fNode, tNode_own, mkS_take, mkS_nil, r_nthset]
      try rfl
theorem ok15 (k0 : Int) (l : List NodeV) (hl : l.length < 4611686018427387904) (hb : ∀ e ∈ l, e.cells.length < 4611686018427387904) : OkR Try.prog 15 [.one (.arr 0 0 l.length), .one (.pv (.sc (.int .i64 k0)))] [(0, .row 7 (mapE tNode_own (l)))] 1 (.one (.pv (.sc (.int .i64 (mkS fNode l k0).2)))) [(0, .row 7 (mapE tNode_own ((mkS fNode l k0).1)))] 1 := by
  obtain ⟨I, hI⟩ : ∃ I, I = real := ⟨_, rfl⟩; obtain ⟨K, hK⟩ : ∃ K : FuncId → En, K = fun g => (lk g [(39, en39)]).getD default := ⟨_, rfl⟩; have k39 : K 39 = en39 := (by subst hK; rfl); clear hK
  have hlen : True := trivial
  have hlen2 : True := trivial
  have hnth : True := trivial
  have hrs : True := trivial
  obtain ⟨n, hn⟩ : ∃ n, n = l.length := ⟨_, rfl⟩
  obtain ⟨es0, hes0⟩ : ∃ es, es = (mapE tNode_own (l)) := ⟨_, rfl⟩
  suffices hs : OkR Try.prog 15 [.one (.arr 0 0 n), .one (.pv (.sc (.int .i64 k0)))] [(0, .row 7 es0)] 1 (.one (.pv (.sc (.int .i64 (mkS fNode l k0).2)))) [(0, .row 7 (mapE tNode_own ((mkS fNode l k0).1)))] 1 by rwa [hn, hes0] at hs
  refine OkR_run (Y := (Y15 I K)) xok (tY15 hI k39) Try.func15 rfl rfl rfl 2000 hI fun w Xs β0 O0 => ?_; (conv => arg 4; cbv)
  repeat' (first | ((with_reducible refine on_eqs ?_ ?_); (focus (with_reducible rfl)); conv => arg 4; cbv) | (with_reducible refine on_both ?_ ?_ <;> (conv => arg 4; cbv)) | (with_reducible refine on_true (by assumption) ?_; conv => arg 4; cbv) | (with_reducible refine on_false (by assumption) ?_; conv => arg 4; cbv) | (with_reducible refine on_ask (fun g => ?_) (fun g => ?_) <;> (have h := g) <;> (try simp (disch := omega) [hI, k39, en39, an39, hlen, hlen2, hnth, hn, hrs, -List.length_eq_zero_iff] at h) <;> (try (exfalso; omega)) <;> (conv => arg 4; cbv)) | ((with_reducible refine on_must ?_ ?_); (focus ((simp (disch := omega) [hI, k39, en39, an39, hlen, hlen2, hnth, hn, hrs]) <;> (first | omega | assumption | ((repeat' (refine And.intro ?_ ?_)) <;> (first | omega | assumption))))); conv => arg 4; cbv))
  (with_reducible refine on_loop ?_); simp only [List.cons_append, List.nil_append]; refine W_norm [0, 1, 5] ?_ (L15 es0 l hl hb n hn l.length 0 k0 [] es0 rfl rfl hes0); (conv => lhs; cbv)
  rfl
theorem okn15 (k0 : Int) (p : PV) (hp : els p = []) (hp2 : isNo p = true) : OkR Try.prog 15 [.one (.pv p), .one (.pv (.sc (.int .i64 k0)))] [] 0 (.one (.pv (.sc (.int .i64 k0)))) [] 0 := by
  obtain ⟨I, hI⟩ : ∃ I, I = real := ⟨_, rfl⟩; obtain ⟨K, hK⟩ : ∃ K : FuncId → En, K = fun g => (lk g [(39, en39)]).getD default := ⟨_, rfl⟩; have k39 : K 39 = en39 := (by subst hK; rfl); clear hK
  have hlen : True := trivial
  have hlen2 : True := trivial
  have hnth : True := trivial
  have hrs : True := trivial
  have hn : True := trivial
  rcases PV.no_nil hp hp2 with rfl | ⟨u, s, rfl⟩
  all_goals
    refine OkR_run (Y := (Y15 I K)) xok (tY15 hI k39) Try.func15 rfl rfl rfl 2000 hI fun w Xs β0 O0 => ?_; (conv => arg 4; cbv)
    repeat' (first | ((with_reducible refine on_eqs ?_ ?_); (focus (with_reducible rfl)); conv => arg 4; cbv) | (with_reducible refine on_both ?_ ?_ <;> (conv => arg 4; cbv)) | (with_reducible refine on_true (by assumption) ?_; conv => arg 4; cbv) | (with_reducible refine on_false (by assumption) ?_; conv => arg 4; cbv) | (with_reducible refine on_ask (fun g => ?_) (fun g => ?_) <;> (have h := g) <;> (try simp (disch := omega) [hI, k39, en39, an39, hlen, hlen2, hnth, hn, hrs, -List.length_eq_zero_iff] at h) <;> (try (exfalso; omega)) <;> (conv => arg 4; cbv)) | ((with_reducible refine on_must ?_ ?_); (focus ((simp (disch := omega) [hI, k39, en39, an39, hlen, hlen2, hnth, hn, hrs]) <;> (first | omega | assumption | ((repeat' (refine And.intro ?_ ?_)) <;> (first | omega | assumption))))); conv => arg 4; cbv))
    (with_reducible refine on_loop ?_)
    simp only [List.cons_append, List.nil_append]
    refine W_go (Y := (Y15 I K)) xok (tY15 hI k39) Try.func15 rfl 2000 _ hI ?_; (conv => arg 4; cbv)
    repeat' (first | ((with_reducible refine on_eqs ?_ ?_); (focus (with_reducible rfl)); conv => arg 4; cbv) | (with_reducible refine on_both ?_ ?_ <;> (conv => arg 4; cbv)) | (with_reducible refine on_true (by assumption) ?_; conv => arg 4; cbv) | (with_reducible refine on_false (by assumption) ?_; conv => arg 4; cbv) | (with_reducible refine on_ask (fun g => ?_) (fun g => ?_) <;> (have h := g) <;> (try simp (disch := omega) [hI, k39, en39, an39, hlen, hlen2, hnth, hn, hrs, -List.length_eq_zero_iff] at h) <;> (try (exfalso; omega)) <;> (conv => arg 4; cbv)) | ((with_reducible refine on_must ?_ ?_); (focus ((simp (disch := omega) [hI, k39, en39, an39, hlen, hlen2, hnth, hn, hrs]) <;> (first | omega | assumption | ((repeat' (refine And.intro ?_ ?_)) <;> (first | omega | assumption))))); conv => arg 4; cbv))
    (with_reducible refine on_ret ?_); refine EndedN_of ?_; (conv => lhs; cbv)
theorem s15 {I : Ops} (hI : I = real) {e : En} (he : e = en15) : SoundR Try.prog 15 (markT I e 7) :=
  SoundR.markT (T := tNode) (r := fun l k => (mkS fNode l k).1) ent15 (fun _ => rfl) (fun k0 l hp => by
    have hp : (decide (l.length < 4611686018427387904) && l.all fun e => decide (e.cells.length < 4611686018427387904)) = true := hp
    simp only [Bool.and_eq_true, List.all_eq_true, decide_eq_true_eq] at hp
    exact ok15 k0 l hp.1 hp.2) okn15 hI he

def hNode (e : NodeV) (k : Int) : Option Int := if e.op = k then if e.a = (nx1 k) then if e.b = (nx1 (nx1 k)) then if e.col = (nx1 (nx1 (nx1 k))) then if e.test = (nx1 (nx1 (nx1 (nx1 k)))) then if e.value = (nx1 (nx1 (nx1 (nx1 (nx1 k))))) then if hdS hI64 e.cells (nx1 (nx1 (nx1 (nx1 (nx1 (nx1 k)))))) < 0 then none else some (hdS hI64 e.cells (nx1 (nx1 (nx1 (nx1 (nx1 (nx1 k))))))) else none else none else none else none else none else none
def an44 : An (List NodeV × Int × Unit) where
  pre t := decide (t.1.length < 4611686018427387904) && t.1.all fun e => decide (e.cells.length < 4611686018427387904)
  i _ t := hdS hNode t.1 t.2.1
noncomputable def en44 : En := mkE (parsC (pL tNode) (parsC pI pars0)) an44
def sh44 : Shp := fun I i b l s => .ok (.one (.pv (.sc (.int .i64 (i 0)))), [], 0)
theorem ent44 : Enters Try.prog 44 := ⟨Try.f44, Try.func44, by kernel_rfl, by kernel_rfl⟩
noncomputable def Y44 (I : Ops) (K : FuncId → En) : CallsA := (Tab.calls [(40, true, callRd I (callE I (K 40) sh40))])
theorem tY44 {I : Ops} (hI : I = real) {K : FuncId → En} (k40 : K 40 = en40) : CallsOk Try.prog (Y44 I K) := (TabOk.calls mixed ⟨EntryOk.rd (s40 hI k40) hI, fun _ => callRd_quiet _ _, trivial⟩)

theorem L44 {w : World} {Xs : Nat → Prop} (l : List NodeV) (hl : l.length < 4611686018427387904) (hb : ∀ e ∈ l, e.cells.length < 4611686018427387904) (es : List (List PV)) (hes : es = tNode.encs l) :
    ∀ (kk i : Nat) (m : Int), kk + i = l.length → W Try.prog 44 Try.f44 (Ent0 w Xs) (Back (Ent0 w Xs) (.one (.pv (.sc (.int .i64 (hdS hNode (l.drop i) m))))) [] 0) (place (bodyOf Try.f44) [1,0,1,0,0] [])
      ⟨[(0, .one (.pv (.sl false 7 es))), (1, .one (.pv (.sc (.int .i64 m)))), (5, .one (.pv (.sc (.int .i64 i))))], [], 0⟩ := by
  obtain ⟨I, hI⟩ : ∃ I, I = real := ⟨_, rfl⟩; obtain ⟨K, hK⟩ : ∃ K : FuncId → En, K = fun g => (lk g [(40, en40)]).getD default := ⟨_, rfl⟩; have k40 : K 40 = en40 := (by subst hK; rfl); clear hK
  intro kk
  induction kk with
  | zero =>
    intro i m hk
    refine W_go (Y := (Y44 I K)) xok (tY44 hI k40) Try.func44 rfl 2000 _ hI ?_; (conv => arg 4; cbv)
    repeat' (first | ((with_reducible refine on_eqs ?_ ?_); (focus (with_reducible rfl)); conv => arg 4; cbv) | (with_reducible refine on_both ?_ ?_ <;> (conv => arg 4; cbv)) | (with_reducible refine on_true (by assumption) ?_; conv => arg 4; cbv) | (with_reducible refine on_false (by assumption) ?_; conv => arg 4; cbv) | (with_reducible refine on_ask (fun g => ?_) (fun g => ?_) <;> (have h := g) <;> (try simp (disch := omega) [hI, k40, en40, an40, hes, -List.length_eq_zero_iff] at h) <;> (try (exfalso; omega)) <;> (conv => arg 4; cbv)) | ((with_reducible refine on_must ?_ ?_); (focus ((simp (disch := omega) [hI, k40, en40, an40, hes]) <;> (first | omega | assumption | ((repeat' (refine And.intro ?_ ?_)) <;> (first | omega | assumption))))); conv => arg 4; cbv))
    (with_reducible refine on_ret ?_); refine Ended_of rfl ?_; (conv => lhs; cbv)
    have h1 : l.drop i = [] := List.drop_of_length_le (by omega)
    simp [h1, hdS]
  | succ kk ih =>
    intro i m hk
    have hd : l.drop i = nth l i :: l.drop (i + 1) := nth_drop (by omega)
    have hx := hb _ (nth_mem (l := l) (i := i) (by omega))
    refine W_go (Y := (Y44 I K)) xok (tY44 hI k40) Try.func44 rfl 2000 _ hI ?_; (conv => arg 4; cbv)
    repeat' (first | ((with_reducible refine on_eqs ?_ ?_); (focus (with_reducible rfl)); conv => arg 4; cbv) | (with_reducible refine on_both ?_ ?_ <;> (conv => arg 4; cbv)) | (with_reducible refine on_true (by assumption) ?_; conv => arg 4; cbv) | (with_reducible refine on_false (by assumption) ?_; conv => arg 4; cbv) | (with_reducible refine on_ask (fun g => ?_) (fun g => ?_) <;> (have h := g) <;> (try simp (disch := omega) [hI, k40, en40, an40, hes, -List.length_eq_zero_iff] at h) <;> (try (exfalso; omega)) <;> (conv => arg 4; cbv)) | ((with_reducible refine on_must ?_ ?_); (focus ((simp (disch := omega) [hI, k40, en40, an40, hes]) <;> (first | omega | assumption | ((repeat' (refine And.intro ?_ ?_)) <;> (first | omega | assumption))))); conv => arg 4; cbv))
    all_goals first
      | ((with_reducible refine on_ret ?_); refine Ended_of rfl ?_; (conv => lhs; cbv); rw [hd, hdS, show hNode (nth l i) m = none from by simp only [hNode, nx1]; first | ((repeat' (first | rw [if_neg (by omega)] | rw [if_pos (by first | assumption | omega)])); done) | (simp [*]; done) | ((repeat' (refine ite_go (fun q => ?_) (fun q => ?_))) <;> first | rfl | (exfalso; first | contradiction | omega))])
      | (have e : hdS hNode (l.drop i) m = hdS hNode (l.drop (i + 1)) (hdS hI64 (nth l i).cells (nx1 (nx1 (nx1 (nx1 (nx1 (nx1 m))))))) := by rw [hd, hdS, show hNode (nth l i) m = some (hdS hI64 (nth l i).cells (nx1 (nx1 (nx1 (nx1 (nx1 (nx1 m))))))) from by simp only [hNode, nx1]; first | ((repeat' (first | rw [if_neg (by omega)] | rw [if_pos (by first | assumption | omega)])); done) | (simp [*]; done) | ((repeat' (refine ite_go (fun q => ?_) (fun q => ?_))) <;> first | rfl | (exfalso; first | contradiction | omega))]
         rw [e]
         (with_reducible refine on_loop ?_); simp only [List.cons_append, List.nil_append]; refine W_norm [0, 1, 5] ?_ (ih (i + 1) _ (by omega)); (conv => lhs; cbv)
         first | (simp (disch := omega) [hI, k40, en40, an40, hes, *, nx1]; done) | ((try simp (disch := omega) [hI, k40, en40, an40, hes, *, nx1]); (repeat' split); all_goals (first | rfl | omega | (simp_all; done) | (exfalso; simp_all; omega))))
theorem ok44 (l : List NodeV) (k : Int) (hl : l.length < 4611686018427387904) (hb : ∀ e ∈ l, e.cells.length < 4611686018427387904) : Ok0 Try.prog 44 [(pL tNode).enc l, pI.enc k] (.one (.pv (.sc (.int .i64 (hdS hNode l k))))) [] 0 := by
  obtain ⟨I, hI⟩ : ∃ I, I = real := ⟨_, rfl⟩; obtain ⟨K, hK⟩ : ∃ K : FuncId → En, K = fun g => (lk g [(40, en40)]).getD default := ⟨_, rfl⟩; have k40 : K 40 = en40 := (by subst hK; rfl); clear hK
  obtain ⟨es, hes⟩ : ∃ es, es = tNode.encs l := ⟨_, rfl⟩
  show Ok0 Try.prog 44 [.one (.pv (.sl false 7 (tNode.encs l))), .one (.pv (.sc (.int .i64 k)))] _ [] 0
  rw [← hes]
  refine Ok0_run (Y := (Y44 I K)) xok (tY44 hI k40) Try.func44 rfl rfl rfl 2000 hI fun w Xs => ?_; (conv => arg 4; cbv)
  repeat' (first | ((with_reducible refine on_eqs ?_ ?_); (focus (with_reducible rfl)); conv => arg 4; cbv) | (with_reducible refine on_both ?_ ?_ <;> (conv => arg 4; cbv)) | (with_reducible refine on_true (by assumption) ?_; conv => arg 4; cbv) | (with_reducible refine on_false (by assumption) ?_; conv => arg 4; cbv) | (with_reducible refine on_ask (fun g => ?_) (fun g => ?_) <;> (have h := g) <;> (try simp (disch := omega) [hI, k40, en40, an40, hes, -List.length_eq_zero_iff] at h) <;> (try (exfalso; omega)) <;> (conv => arg 4; cbv)) | ((with_reducible refine on_must ?_ ?_); (focus ((simp (disch := omega) [hI, k40, en40, an40, hes]) <;> (first | omega | assumption | ((repeat' (refine And.intro ?_ ?_)) <;> (first | omega | assumption))))); conv => arg 4; cbv))
  (with_reducible refine on_loop ?_); simp only [List.cons_append, List.nil_append]; refine W_norm [0, 1, 5] ?_ (L44 l hl hb es hes l.length 0 _ rfl); (conv => lhs; cbv)
  first | (simp (disch := omega) [hI, k40, en40, an40, hes, *]; done) | ((try simp (disch := omega) [hI, k40, en40, an40, hes, *]); (repeat' split); all_goals (first | rfl | omega | (simp_all; done) | (exfalso; simp_all; omega)))

theorem s44 {I : Ops} (hI : I = real) {e : En} (he : e = en44) : Sound Try.prog 44 (callE I e sh44) := by
  refine Sound.mkE ent44 hI (fun _ => rfl) ?_ he
  rintro ⟨l, k, ⟨⟩⟩ hp
  
  have hp : (decide (l.length < 4611686018427387904) && l.all fun e => decide (e.cells.length < 4611686018427387904)) = true := hp
  simp only [Bool.and_eq_true, List.all_eq_true, decide_eq_true_eq] at hp
  exact ok44 l k hp.1 hp.2
theorem ent13 : Enters Try.prog 13 := ⟨Try.f13, Try.func13, by kernel_rfl, by kernel_rfl⟩
noncomputable def Y13 (I : Ops) (K : FuncId → En) : CallsA := (Tab.calls [(37, true, callRd I (callE I (K 37) sh37))])
theorem tY13 {I : Ops} (hI : I = real) {K : FuncId → En} (k37 : K 37 = en37) : CallsOk Try.prog (Y13 I K) := (TabOk.calls mixed ⟨EntryOk.rd (s37 hI k37) hI, fun _ => callRd_quiet _ _, trivial⟩)
theorem s13 {I : Ops} (hI : I = real) {K : FuncId → En} (k37 : K 37 = en37) : Sound Try.prog 13 (inl X I (Y13 I K) Try.f13) :=
  Sound.inl (Y := (Y13 I K)) xok (tY13 hI k37) ent13 Try.func13 rfl rfl hI
theorem ent16 : Enters Try.prog 16 := ⟨Try.f16, Try.func16, by kernel_rfl, by kernel_rfl⟩
noncomputable def Y16 (I : Ops) (K : FuncId → En) : CallsA := (Tab.calls [(39, false, callRef I (markT I (K 39) 1))])
theorem tY16 {I : Ops} (hI : I = real) {K : FuncId → En} (k39 : K 39 = en39) : CallsOk Try.prog (Y16 I K) := (TabOk.calls mixed ⟨EntryOk.ref (s39 hI k39) hI, notQuiet, trivial⟩)
theorem s16 {I : Ops} (hI : I = real) {K : FuncId → En} (k39 : K 39 = en39) : SoundR Try.prog 16 (inlR X I (Y16 I K) Try.f16) :=
  SoundR.inl (Y := (Y16 I K)) xok (tY16 hI k39) ent16 Try.func16 rfl rfl hI
theorem ent17 : Enters Try.prog 17 := ⟨Try.f17, Try.func17, by kernel_rfl, by kernel_rfl⟩
noncomputable def Y17 (I : Ops) (K : FuncId → En) : CallsA := (Tab.calls [(40, true, callRd I (callE I (K 40) sh40))])
theorem tY17 {I : Ops} (hI : I = real) {K : FuncId → En} (k40 : K 40 = en40) : CallsOk Try.prog (Y17 I K) := (TabOk.calls mixed ⟨EntryOk.rd (s40 hI k40) hI, fun _ => callRd_quiet _ _, trivial⟩)
theorem s17 {I : Ops} (hI : I = real) {K : FuncId → En} (k40 : K 40 = en40) : Sound Try.prog 17 (inl X I (Y17 I K) Try.f17) :=
  Sound.inl (Y := (Y17 I K)) xok (tY17 hI k40) ent17 Try.func17 rfl rfl hI
theorem ent20 : Enters Try.prog 20 := ⟨Try.f20, Try.func20, by kernel_rfl, by kernel_rfl⟩
noncomputable def Y20 (I : Ops) (K : FuncId → En) : CallsA := (Tab.calls [(14, true, callRd I (callE I (K 14) sh14))])
theorem tY20 {I : Ops} (hI : I = real) {K : FuncId → En} (k14 : K 14 = en14) : CallsOk Try.prog (Y20 I K) := (TabOk.calls mixed ⟨EntryOk.rd (s14 hI k14) hI, fun _ => callRd_quiet _ _, trivial⟩)
theorem s20 {I : Ops} (hI : I = real) {K : FuncId → En} (k14 : K 14 = en14) : Sound Try.prog 20 (inl X I (Y20 I K) Try.f20) :=
  Sound.inl (Y := (Y20 I K)) xok (tY20 hI k14) ent20 Try.func20 rfl rfl hI
theorem ent21 : Enters Try.prog 21 := ⟨Try.f21, Try.func21, by kernel_rfl, by kernel_rfl⟩
noncomputable def Y21 (I : Ops) (K : FuncId → En) : CallsA := (Tab.calls [(15, false, callRef I (markT I (K 15) 7))])
theorem tY21 {I : Ops} (hI : I = real) {K : FuncId → En} (k15 : K 15 = en15) : CallsOk Try.prog (Y21 I K) := (TabOk.calls mixed ⟨EntryOk.ref (s15 hI k15) hI, notQuiet, trivial⟩)
theorem s21 {I : Ops} (hI : I = real) {K : FuncId → En} (k15 : K 15 = en15) : SoundR Try.prog 21 (inlR X I (Y21 I K) Try.f21) :=
  SoundR.inl (Y := (Y21 I K)) xok (tY21 hI k15) ent21 Try.func21 rfl rfl hI
theorem ent22 : Enters Try.prog 22 := ⟨Try.f22, Try.func22, by kernel_rfl, by kernel_rfl⟩
noncomputable def Y22 (I : Ops) (K : FuncId → En) : CallsA := (Tab.calls [(44, true, callRd I (callE I (K 44) sh44))])
theorem tY22 {I : Ops} (hI : I = real) {K : FuncId → En} (k44 : K 44 = en44) : CallsOk Try.prog (Y22 I K) := (TabOk.calls mixed ⟨EntryOk.rd (s44 hI k44) hI, fun _ => callRd_quiet _ _, trivial⟩)
theorem s22 {I : Ops} (hI : I = real) {K : FuncId → En} (k44 : K 44 = en44) : Sound Try.prog 22 (inl X I (Y22 I K) Try.f22) :=
  Sound.inl (Y := (Y22 I K)) xok (tY22 hI k44) ent22 Try.func22 rfl rfl hI
end Go.Proofs.Try
