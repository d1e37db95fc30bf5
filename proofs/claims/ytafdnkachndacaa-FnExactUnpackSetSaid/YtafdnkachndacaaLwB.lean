/- Contracts. -/
import Derived.Test.YtafdnkachndacaaLwA
set_option linter.unusedSimpArgs false
set_option linter.unusedVariables false
namespace Go.Proofs.Try
open Go Go.Aix
set_option maxRecDepth 100000
set_option maxHeartbeats 4000000
set_option linter.unusedSimpArgs false
set_option linter.unusedVariables false
@[simp] theorem pO_Entry (l : List EntryV) : (pO tEntry).dec (.one (.pv (.sl true 2 (mapE tEntry_own l)))) = some l := pO_dec tEntry l
theorem ent104 : Enters Try.prog 104 := ⟨Try.f104, Try.func104, by kernel_rfl, by kernel_rfl⟩
theorem s104 {I : Ops} (hI : I = real)  : Sound Try.prog 104 (inl X I (Tab.calls [(168, true, callRd I (inl X I (Tab.calls []) Try.f168))]) Try.f104) :=
  Sound.inl (Y := (Tab.calls [(168, true, callRd I (inl X I (Tab.calls []) Try.f168))])) xok (TabOk.calls mixed ⟨EntryOk.rd (s168 hI) hI, fun _ => callRd_quiet _ _, trivial⟩) ent104 Try.func104 rfl rfl hI
def szEnt (e : EntryV) (m : Int) : Int := if szL e.row.length m < 0 then -1 else szL e.row.length m
def an25 : An (List EntryV × Int × Unit) where
  pre t := decide (t.1.length ≤ 9223372036854775807) && t.1.all fun e => decide (e.row.length ≤ 9223372036854775807)
  i _ t := szA szEnt t.1 t.2.1
noncomputable def en25 : En := mkE (parsC (pL tEntry) (parsC pI pars0)) an25
def sh25 : Shp := fun I i b l s => .ok (.one (.pv (.sc (.int .i64 (i 0)))), [], 0)
theorem ent25 : Enters Try.prog 25 := ⟨Try.f25, Try.func25, by kernel_rfl, by kernel_rfl⟩

theorem L25 {w : World} {Xs : Nat → Prop} (l : List EntryV) (hl : l.length ≤ 9223372036854775807) (hb : ∀ e ∈ l, decide (e.row.length ≤ 9223372036854775807) = true) (es : List (List PV)) (hes : es = tEntry.encs l) :
    ∀ (k i : Nat) (m : Int), k + i = l.length → W Try.prog 25 Try.f25 (Ent0 w Xs) (Back (Ent0 w Xs) (.one (.pv (.sc (.int .i64 (szS szEnt (l.drop i) m))))) [] 0) (place (bodyOf Try.f25) [1,1,1,0,1,0,0] [])
      ⟨[(0, .one (.pv (.sl false 2 es))), (1, .one (.pv (.sc (.int .i64 m)))), (5, .one (.pv (.sc (.int .i64 i))))], [], 0⟩ := by
  obtain ⟨I, hI⟩ : ∃ I, I = real := ⟨_, rfl⟩
  intro k
  induction k with
  | zero =>
    intro i m hk
    have hx : True := trivial
    refine W_go (Y := (Tab.calls [(104, true, callRd I (inl X I (Tab.calls [(168, true, callRd I (inl X I (Tab.calls []) Try.f168))]) Try.f104))])) xok (TabOk.calls mixed ⟨EntryOk.rd (s104 hI) hI, fun _ => callRd_quiet _ _, trivial⟩) Try.func25 rfl 2000 _ hI ?_; (conv => arg 4; cbv)
    repeat' (first | ((with_reducible refine on_eqs ?_ ?_); (focus (with_reducible rfl)); conv => arg 4; cbv) | (with_reducible refine on_both ?_ ?_ <;> (conv => arg 4; cbv)) | (with_reducible refine on_true (by assumption) ?_; conv => arg 4; cbv) | (with_reducible refine on_false (by assumption) ?_; conv => arg 4; cbv) | (with_reducible refine on_ask (fun g => ?_) (fun g => ?_) <;> (have h := g) <;> (try simp (disch := omega) [hI, hes, hx, -List.length_eq_zero_iff] at h) <;> (try (exfalso; omega)) <;> (conv => arg 4; cbv)) | ((with_reducible refine on_must ?_ ?_); (focus (first | (simp (disch := omega) [hI, hes, hx]; done) | (simp (disch := omega) [hI, hes, hx]; omega) | (simp (disch := omega) [hI, hes, hx]; assumption) | (simp (disch := omega) [hI, hes, hx]; (refine And.intro ?_ ?_) <;> (first | omega | assumption)))); conv => arg 4; cbv))
    (with_reducible refine on_ret ?_); refine Ended_of rfl ?_; (conv => lhs; cbv)
    have : l.drop i = [] := List.drop_of_length_le (by omega)
    rw [this]; rfl
  | succ k ih =>
    intro i m hk
    have hx := hb _ (nth_mem (l := l) (i := i) (by omega))
    have hd : l.drop i = nth l i :: l.drop (i + 1) := nth_drop (by omega)
    refine W_go (Y := (Tab.calls [(104, true, callRd I (inl X I (Tab.calls [(168, true, callRd I (inl X I (Tab.calls []) Try.f168))]) Try.f104))])) xok (TabOk.calls mixed ⟨EntryOk.rd (s104 hI) hI, fun _ => callRd_quiet _ _, trivial⟩) Try.func25 rfl 2000 _ hI ?_; (conv => arg 4; cbv)
    repeat' (first | ((with_reducible refine on_eqs ?_ ?_); (focus (with_reducible rfl)); conv => arg 4; cbv) | (with_reducible refine on_both ?_ ?_ <;> (conv => arg 4; cbv)) | (with_reducible refine on_true (by assumption) ?_; conv => arg 4; cbv) | (with_reducible refine on_false (by assumption) ?_; conv => arg 4; cbv) | (with_reducible refine on_ask (fun g => ?_) (fun g => ?_) <;> (have h := g) <;> (try simp (disch := omega) [hI, hes, hx, -List.length_eq_zero_iff] at h) <;> (try (exfalso; omega)) <;> (conv => arg 4; cbv)) | ((with_reducible refine on_must ?_ ?_); (focus (first | (simp (disch := omega) [hI, hes, hx]; done) | (simp (disch := omega) [hI, hes, hx]; omega) | (simp (disch := omega) [hI, hes, hx]; assumption) | (simp (disch := omega) [hI, hes, hx]; (refine And.intro ?_ ?_) <;> (first | omega | assumption)))); conv => arg 4; cbv))
    · (with_reducible refine on_ret ?_); refine Ended_of rfl ?_; (conv => lhs; cbv); rw [hd]; first | (simp (disch := omega) [hI, hes, hx, szS, szEnt, szL, *]; done) | ((try simp (disch := omega) [hI, hes, hx, szS, szEnt, szL, *]); (repeat' split); all_goals (first | rfl | omega | (simp_all; done) | (exfalso; simp_all; omega)))
    · have q : ¬ szEnt (nth l i) m < 0 := by unfold szEnt szL; (repeat' split); all_goals omega
      have e : szS szEnt (l.drop i) m = szS szEnt (l.drop (i + 1)) (szEnt (nth l i) m) := by rw [hd, szS, if_neg q]
      rw [e]
      (with_reducible refine on_loop ?_); simp only [List.cons_append, List.nil_append]; refine W_norm [0, 1, 5] ?_ (ih (i + 1) _ (by omega)); (conv => lhs; cbv)
      first | (simp (disch := omega) [hI, hes, hx, szS, szEnt, szL, *]; done) | ((try simp (disch := omega) [hI, hes, hx, szS, szEnt, szL, *]); (repeat' split); all_goals (first | rfl | omega | (simp_all; done) | (exfalso; simp_all; omega)))
theorem ok25 (l : List EntryV) (m : Int) (hl : l.length ≤ 9223372036854775807) (hb : ∀ e ∈ l, decide (e.row.length ≤ 9223372036854775807) = true) : Ok0 Try.prog 25 [(pL tEntry).enc l, pI.enc m] (.one (.pv (.sc (.int .i64 (szA szEnt l m))))) [] 0 := by
  obtain ⟨I, hI⟩ : ∃ I, I = real := ⟨_, rfl⟩
  have hx : True := trivial
  obtain ⟨es, hes⟩ : ∃ es, es = tEntry.encs l := ⟨_, rfl⟩
  show Ok0 Try.prog 25 [.one (.pv (.sl false 2 (tEntry.encs l))), .one (.pv (.sc (.int .i64 m)))] _ [] 0
  rw [← hes]
  refine Ok0_run (Y := (Tab.calls [(104, true, callRd I (inl X I (Tab.calls [(168, true, callRd I (inl X I (Tab.calls []) Try.f168))]) Try.f104))])) xok (TabOk.calls mixed ⟨EntryOk.rd (s104 hI) hI, fun _ => callRd_quiet _ _, trivial⟩) Try.func25 rfl rfl rfl 2000 hI fun w Xs => ?_; (conv => arg 4; cbv)
  repeat' (first | ((with_reducible refine on_eqs ?_ ?_); (focus (with_reducible rfl)); conv => arg 4; cbv) | (with_reducible refine on_both ?_ ?_ <;> (conv => arg 4; cbv)) | (with_reducible refine on_true (by assumption) ?_; conv => arg 4; cbv) | (with_reducible refine on_false (by assumption) ?_; conv => arg 4; cbv) | (with_reducible refine on_ask (fun g => ?_) (fun g => ?_) <;> (have h := g) <;> (try simp (disch := omega) [hI, hes, hx, -List.length_eq_zero_iff] at h) <;> (try (exfalso; omega)) <;> (conv => arg 4; cbv)) | ((with_reducible refine on_must ?_ ?_); (focus (first | (simp (disch := omega) [hI, hes, hx]; done) | (simp (disch := omega) [hI, hes, hx]; omega) | (simp (disch := omega) [hI, hes, hx]; assumption) | (simp (disch := omega) [hI, hes, hx]; (refine And.intro ?_ ?_) <;> (first | omega | assumption)))); conv => arg 4; cbv))
  · (with_reducible refine on_ret ?_); refine Ended_of rfl ?_; (conv => lhs; cbv); first | (simp (disch := omega) [hI, hes, hx, szA, *]; done) | ((try simp (disch := omega) [hI, hes, hx, szA, *]); (repeat' split); all_goals (first | rfl | omega | (simp_all; done) | (exfalso; simp_all; omega)))
  · have e : szA szEnt l m = szS szEnt (l.drop 0) (IntKind.i64.wrap (m - l.length)) := by unfold szA; rw [if_neg (by omega)]; rfl
    rw [e]
    (with_reducible refine on_loop ?_); simp only [List.cons_append, List.nil_append]; refine W_norm [0, 1, 5] ?_ (L25 l hl hb es hes l.length 0 _ rfl); (conv => lhs; cbv)
    first | (simp (disch := omega) [hI, hes, hx, szA, *]; done) | ((try simp (disch := omega) [hI, hes, hx, szA, *]); (repeat' split); all_goals (first | rfl | omega | (simp_all; done) | (exfalso; simp_all; omega)))

theorem s25 {I : Ops} (hI : I = real) {e : En} (he : e = en25) : Sound Try.prog 25 (callE I e sh25) := by
  refine Sound.mkE ent25 hI (fun _ => rfl) ?_ he
  rintro ⟨l, m, ⟨⟩⟩ hp
  
  have hp : (decide (l.length ≤ 9223372036854775807) && l.all fun e => decide (e.row.length ≤ 9223372036854775807)) = true := hp
  simp only [Bool.and_eq_true, List.all_eq_true, decide_eq_true_eq] at hp
  exact ok25 l m hp.1 (fun e he => by simpa using hp.2 e he)
def an108 : An (EntryV × EntryV × Unit) where
  pre t := decide (t.1.row.length < 4611686018427387904)
  b _ t := decide (t.1 = t.2.1)
noncomputable def en108 : En := mkE (parsC (pS tEntry) (parsC (pS tEntry) pars0)) an108
def sh108 : Shp := fun I i b l s => .ok (.one (.pv (.sc (.bool (b 0)))), [], 0)
theorem ent108 : Enters Try.prog 108 := ⟨Try.f108, Try.func108, by kernel_rfl, by kernel_rfl⟩

theorem ok108 (x y : EntryV) (h0 : x.row.length < 4611686018427387904) : Ok0 Try.prog 108 [(pS tEntry).enc x, (pS tEntry).enc y] (.one (.pv (.sc (.bool (decide (x = y)))))) [] 0 := by
  obtain ⟨I, hI⟩ : ∃ I, I = real := ⟨_, rfl⟩; obtain ⟨K, hK⟩ : ∃ K : FuncId → En, K = fun g => (lk g [(112, en112)]).getD default := ⟨_, rfl⟩; have k112 : K 112 = en112 := (by subst hK; rfl); clear hK
  obtain ⟨x0, x1⟩ := x
  obtain ⟨y0, y1⟩ := y
  try dsimp only at *
  obtain ⟨ea0, hea0⟩ : ∃ es, es = tI64.encs x0 := ⟨_, rfl⟩
  obtain ⟨eb0, heb0⟩ : ∃ es, es = tI64.encs y0 := ⟨_, rfl⟩

  show Ok0 Try.prog 108 [.ag [.pv (.sl false 1 (tI64.encs x0)), .pv (.sc (.int .i64 x1))], .ag [.pv (.sl false 1 (tI64.encs y0)), .pv (.sc (.int .i64 y1))]] _ [] 0
  rw [← hea0, ← heb0]
  refine Ok0_run (Y := (Tab.calls [(112, true, callRd I (callE I (K 112) sh112))])) xok (TabOk.calls mixed ⟨EntryOk.rd (s112 hI k112) hI, fun _ => callRd_quiet _ _, trivial⟩) Try.func108 rfl rfl rfl 2000 hI fun w Xs => ?_; (conv => arg 4; cbv)
  repeat' (first | ((with_reducible refine on_eqs ?_ ?_); (focus (with_reducible rfl)); conv => arg 4; cbv) | (with_reducible refine on_both ?_ ?_ <;> (conv => arg 4; cbv)) | (with_reducible refine on_true (by assumption) ?_; conv => arg 4; cbv) | (with_reducible refine on_false (by assumption) ?_; conv => arg 4; cbv) | (with_reducible refine on_ask (fun g => ?_) (fun g => ?_) <;> (have h := g) <;> (try simp (disch := omega) [hI, k112, en112, an112, hea0, heb0, -List.length_eq_zero_iff] at h) <;> (try (exfalso; omega)) <;> (conv => arg 4; cbv)) | ((with_reducible refine on_must ?_ ?_); (focus (first | (simp (disch := omega) [hI, k112, en112, an112, hea0, heb0]; done) | (simp (disch := omega) [hI, k112, en112, an112, hea0, heb0]; omega) | (simp (disch := omega) [hI, k112, en112, an112, hea0, heb0]; assumption) | (simp (disch := omega) [hI, k112, en112, an112, hea0, heb0]; (refine And.intro ?_ ?_) <;> (first | omega | assumption)))); conv => arg 4; cbv))
  all_goals first
    | ((with_reducible refine on_ret ?_); refine Ended_of rfl ?_; (conv => lhs; cbv); simp (disch := omega) [hI, k112, en112, an112, hea0, heb0]; done)
    | ((with_reducible refine on_ret ?_); refine Ended_of rfl ?_; (conv => lhs; cbv); simp_all; done)
    | ((with_reducible refine on_ret ?_); refine Ended_of rfl ?_; (conv => lhs; cbv); (try simp (disch := omega) [hI, k112, en112, an112, hea0, heb0]); simp_all; done)

theorem s108 {I : Ops} (hI : I = real) {e : En} (he : e = en108) : Sound Try.prog 108 (callE I e sh108) := by
  refine Sound.mkE ent108 hI (fun _ => rfl) ?_ he
  rintro ⟨x, y, ⟨⟩⟩ hp
  exact ok108 x y (by simpa [an108] using hp)
def an30 : An (List EntryV × List EntryV × Unit) where
  pre t := decide (t.1.length < 4611686018427387904) && t.1.all fun e => decide (e.row.length < 4611686018427387904)
  b _ t := decide (t.1 = t.2.1)
noncomputable def en30 : En := mkE (parsC (pL tEntry) (parsC (pL tEntry) pars0)) an30
def sh30 : Shp := fun I i b l s => .ok (.one (.pv (.sc (.bool (b 0)))), [], 0)
theorem ent30 : Enters Try.prog 30 := ⟨Try.f30, Try.func30, by kernel_rfl, by kernel_rfl⟩

theorem L30 {w : World} {Xs : Nat → Prop} (l r : List EntryV) (hl : l.length < 4611686018427387904) (hb : ∀ e ∈ l, e.row.length < 4611686018427387904) (hlr : l.length = r.length) (es fs : List (List PV)) (hes : es = tEntry.encs l) (hfs : fs = tEntry.encs r) :
    ∀ (k i : Nat), k + i = l.length → W Try.prog 30 Try.f30 (Ent0 w Xs) (Back (Ent0 w Xs) (.one (.pv (.sc (.bool (decide (l.drop i = r.drop i)))))) [] 0) (place (bodyOf Try.f30) [1,1,0,1,0,0] [])
      ⟨[(0, .one (.pv (.sl false 2 es))), (1, .one (.pv (.sl false 2 fs))), (5, .one (.pv (.sc (.int .i64 i))))], [], 0⟩ := by
  obtain ⟨I, hI⟩ : ∃ I, I = real := ⟨_, rfl⟩; obtain ⟨K, hK⟩ : ∃ K : FuncId → En, K = fun g => (lk g [(108, en108)]).getD default := ⟨_, rfl⟩; have k108 : K 108 = en108 := (by subst hK; rfl); clear hK
  intro k
  induction k with
  | zero =>
    intro i hk
    refine W_go (Y := (Tab.calls [(108, true, callRd I (callE I (K 108) sh108))])) xok (TabOk.calls mixed ⟨EntryOk.rd (s108 hI k108) hI, fun _ => callRd_quiet _ _, trivial⟩) Try.func30 rfl 2000 _ hI ?_; (conv => arg 4; cbv)
    repeat' (first | ((with_reducible refine on_eqs ?_ ?_); (focus (with_reducible rfl)); conv => arg 4; cbv) | (with_reducible refine on_both ?_ ?_ <;> (conv => arg 4; cbv)) | (with_reducible refine on_true (by assumption) ?_; conv => arg 4; cbv) | (with_reducible refine on_false (by assumption) ?_; conv => arg 4; cbv) | (with_reducible refine on_ask (fun g => ?_) (fun g => ?_) <;> (have h := g) <;> (try simp (disch := omega) [hI, k108, en108, an108, hes, hfs, -List.length_eq_zero_iff] at h) <;> (try (exfalso; omega)) <;> (conv => arg 4; cbv)) | ((with_reducible refine on_must ?_ ?_); (focus (first | (simp (disch := omega) [hI, k108, en108, an108, hes, hfs]; done) | (simp (disch := omega) [hI, k108, en108, an108, hes, hfs]; omega) | (simp (disch := omega) [hI, k108, en108, an108, hes, hfs]; assumption) | (simp (disch := omega) [hI, k108, en108, an108, hes, hfs]; (refine And.intro ?_ ?_) <;> (first | omega | assumption)))); conv => arg 4; cbv))
    (with_reducible refine on_ret ?_); refine Ended_of rfl ?_; (conv => lhs; cbv)
    have h1 : l.drop i = [] := List.drop_of_length_le (by omega)
    have h2 : r.drop i = [] := List.drop_of_length_le (by omega)
    simp [h1, h2]
  | succ k ih =>
    intro i hk
    refine W_go (Y := (Tab.calls [(108, true, callRd I (callE I (K 108) sh108))])) xok (TabOk.calls mixed ⟨EntryOk.rd (s108 hI k108) hI, fun _ => callRd_quiet _ _, trivial⟩) Try.func30 rfl 2000 _ hI ?_; (conv => arg 4; cbv)
    have hd : l.drop i = nth l i :: l.drop (i + 1) := nth_drop (by omega)
    have hd' : r.drop i = nth r i :: r.drop (i + 1) := nth_drop (by omega)
    have hlt : i < r.length := by omega
    have hx := hb _ (nth_mem (l := l) (i := i) (by omega))
    repeat' (first | ((with_reducible refine on_eqs ?_ ?_); (focus (with_reducible rfl)); conv => arg 4; cbv) | (with_reducible refine on_both ?_ ?_ <;> (conv => arg 4; cbv)) | (with_reducible refine on_true (by assumption) ?_; conv => arg 4; cbv) | (with_reducible refine on_false (by assumption) ?_; conv => arg 4; cbv) | (with_reducible refine on_ask (fun g => ?_) (fun g => ?_) <;> (have h := g) <;> (try simp (disch := omega) [hI, k108, en108, an108, hes, hfs, -List.length_eq_zero_iff] at h) <;> (try (exfalso; omega)) <;> (conv => arg 4; cbv)) | ((with_reducible refine on_must ?_ ?_); (focus (first | (simp (disch := omega) [hI, k108, en108, an108, hes, hfs]; done) | (simp (disch := omega) [hI, k108, en108, an108, hes, hfs]; omega) | (simp (disch := omega) [hI, k108, en108, an108, hes, hfs]; assumption) | (simp (disch := omega) [hI, k108, en108, an108, hes, hfs]; (refine And.intro ?_ ?_) <;> (first | omega | assumption)))); conv => arg 4; cbv))
    · (with_reducible refine on_ret ?_); refine Ended_of rfl ?_; (conv => lhs; cbv); simp_all
    · have e : decide (l.drop i = r.drop i) = decide (l.drop (i + 1) = r.drop (i + 1)) := by simp_all
      rw [e]
      (with_reducible refine on_loop ?_); simp only [List.cons_append, List.nil_append]; refine W_norm [0, 1, 5] ?_ (ih (i + 1) (by omega)); (conv => lhs; cbv)
      first | (simp (disch := omega) [hI, k108, en108, an108, hes, hfs, *]; done) | ((try simp (disch := omega) [hI, k108, en108, an108, hes, hfs, *]); (repeat' split); all_goals (first | rfl | omega | (simp_all; done) | (exfalso; simp_all; omega)))
theorem ok30 (l r : List EntryV) (hl : l.length < 4611686018427387904) (hb : ∀ e ∈ l, e.row.length < 4611686018427387904) : Ok0 Try.prog 30 [(pL tEntry).enc l, (pL tEntry).enc r] (.one (.pv (.sc (.bool (decide (l = r)))))) [] 0 := by
  obtain ⟨I, hI⟩ : ∃ I, I = real := ⟨_, rfl⟩; obtain ⟨K, hK⟩ : ∃ K : FuncId → En, K = fun g => (lk g [(108, en108)]).getD default := ⟨_, rfl⟩; have k108 : K 108 = en108 := (by subst hK; rfl); clear hK
  obtain ⟨es, hes⟩ : ∃ es, es = tEntry.encs l := ⟨_, rfl⟩
  obtain ⟨fs, hfs⟩ : ∃ es, es = tEntry.encs r := ⟨_, rfl⟩
  show Ok0 Try.prog 30 [.one (.pv (.sl false 2 (tEntry.encs l))), .one (.pv (.sl false 2 (tEntry.encs r)))] _ [] 0
  rw [← hes, ← hfs]
  refine Ok0_run (Y := (Tab.calls [(108, true, callRd I (callE I (K 108) sh108))])) xok (TabOk.calls mixed ⟨EntryOk.rd (s108 hI k108) hI, fun _ => callRd_quiet _ _, trivial⟩) Try.func30 rfl rfl rfl 2000 hI fun w Xs => ?_; (conv => arg 4; cbv)
  repeat' (first | ((with_reducible refine on_eqs ?_ ?_); (focus (with_reducible rfl)); conv => arg 4; cbv) | (with_reducible refine on_both ?_ ?_ <;> (conv => arg 4; cbv)) | (with_reducible refine on_true (by assumption) ?_; conv => arg 4; cbv) | (with_reducible refine on_false (by assumption) ?_; conv => arg 4; cbv) | (with_reducible refine on_ask (fun g => ?_) (fun g => ?_) <;> (have h := g) <;> (try simp (disch := omega) [hI, k108, en108, an108, hes, hfs, -List.length_eq_zero_iff] at h) <;> (try (exfalso; omega)) <;> (conv => arg 4; cbv)) | ((with_reducible refine on_must ?_ ?_); (focus (first | (simp (disch := omega) [hI, k108, en108, an108, hes, hfs]; done) | (simp (disch := omega) [hI, k108, en108, an108, hes, hfs]; omega) | (simp (disch := omega) [hI, k108, en108, an108, hes, hfs]; assumption) | (simp (disch := omega) [hI, k108, en108, an108, hes, hfs]; (refine And.intro ?_ ?_) <;> (first | omega | assumption)))); conv => arg 4; cbv))
  · (with_reducible refine on_ret ?_); refine Ended_of rfl ?_; (conv => lhs; cbv)
    have : l ≠ r := by intro e; subst e; simp_all
    simp [this]
  · (with_reducible refine on_loop ?_); simp only [List.cons_append, List.nil_append]; refine W_norm [0, 1, 5] ?_ (L30 l r hl hb (by omega) es fs hes hfs l.length 0 rfl); (conv => lhs; cbv)
    first | (simp (disch := omega) [hI, k108, en108, an108, hes, hfs, *]; done) | ((try simp (disch := omega) [hI, k108, en108, an108, hes, hfs, *]); (repeat' split); all_goals (first | rfl | omega | (simp_all; done) | (exfalso; simp_all; omega)))

theorem s30 {I : Ops} (hI : I = real) {e : En} (he : e = en30) : Sound Try.prog 30 (callE I e sh30) := by
  refine Sound.mkE ent30 hI (fun _ => rfl) ?_ he
  rintro ⟨l, r, ⟨⟩⟩ hp
  
  have hp : (decide (l.length < 4611686018427387904) && l.all fun e => decide (e.row.length < 4611686018427387904)) = true := hp
  simp only [Bool.and_eq_true, List.all_eq_true, decide_eq_true_eq] at hp
  exact ok30 l r hp.1 hp.2
theorem ent106 : Enters Try.prog 106 := ⟨Try.f106, Try.func106, by kernel_rfl, by kernel_rfl⟩
theorem s106 {I : Ops} (hI : I = real) {K : FuncId → En} (k170 : K 170 = en170) : Sound Try.prog 106 (inl X I (Tab.calls [(170, false, callIce I (callE I (K 170) sh170))]) Try.f106) :=
  Sound.inl (Y := (Tab.calls [(170, false, callIce I (callE I (K 170) sh170))])) xok (TabOk.calls mixed ⟨EntryOk.own (s170 hI k170) hI, notQuiet, trivial⟩) ent106 Try.func106 rfl rfl hI
def an27 : An (List EntryV × Unit) where
  pre t := decide (t.1.length ≤ 1048576) && t.1.all fun e => decide (e.row.length ≤ 1048576)
  l _ t := mapE tEntry_own t.1
noncomputable def en27 : En := mkE (parsC (pL tEntry) pars0) an27
def sh27 : Shp := fun I i b l s => .ok (.one (.arr 0 0 (I.len (l 0))), [(0, .row 2 (l 0))], 1)
theorem ent27 : Enters Try.prog 27 := ⟨Try.f27, Try.func27, by kernel_rfl, by kernel_rfl⟩

theorem L27 {w : World} {Xs : Nat → Prop} (l : List EntryV) (hl : l.length ≤ 1048576) (hb : ∀ e ∈ l, e.row.length ≤ 1048576) (es : List (List PV)) (hes : es = tEntry.encs l) (n : Nat) (hn : n = l.length) :
    ∀ (k i : Nat) (rs : List (List PV)), rs = pad tEntry_own [.nl, .sc (.int .i64 0)] l i → k + i = l.length → W Try.prog 27 Try.f27 (Ent0 w Xs) (Back (Ent0 w Xs) (.one (.arr 0 0 l.length)) [(0, .row 2 (mapE tEntry_own l))] 1) (place (bodyOf Try.f27) [1,1,0,1,0,0] [])
      ⟨[(0, .one (.pv (.sl false 2 es))), (3, .one (.arr 0 0 n)), (4, .one (.pv (.sc (.int .i64 i))))], [(0, .row 2 rs)], 1⟩ := by
  obtain ⟨I, hI⟩ : ∃ I, I = real := ⟨_, rfl⟩; obtain ⟨K, hK⟩ : ∃ K : FuncId → En, K = fun g => (lk g [(170, en170)]).getD default := ⟨_, rfl⟩; have k170 : K 170 = en170 := (by subst hK; rfl); clear hK
  intro k
  induction k with
  | zero =>
    intro i rs hrs hk
    refine W_go (Y := (Tab.calls [(106, false, callIce I (inl X I (Tab.calls [(170, false, callIce I (callE I (K 170) sh170))]) Try.f106))])) xok (TabOk.calls mixed ⟨EntryOk.own (s106 hI k170) hI, notQuiet, trivial⟩) Try.func27 rfl 2000 _ hI ?_; (conv => arg 4; cbv)
    repeat' (first | ((with_reducible refine on_eqs ?_ ?_); (focus (with_reducible rfl)); conv => arg 4; cbv) | (with_reducible refine on_both ?_ ?_ <;> (conv => arg 4; cbv)) | (with_reducible refine on_true (by assumption) ?_; conv => arg 4; cbv) | (with_reducible refine on_false (by assumption) ?_; conv => arg 4; cbv) | (with_reducible refine on_ask (fun g => ?_) (fun g => ?_) <;> (have h := g) <;> (try simp (disch := omega) [hI, k170, en170, an170, hes, hrs, hn, -List.length_eq_zero_iff] at h) <;> (try (exfalso; omega)) <;> (conv => arg 4; cbv)) | ((with_reducible refine on_must ?_ ?_); (focus (first | (simp (disch := omega) [hI, k170, en170, an170, hes, hrs, hn]; done) | (simp (disch := omega) [hI, k170, en170, an170, hes, hrs, hn]; omega) | (simp (disch := omega) [hI, k170, en170, an170, hes, hrs, hn]; assumption) | (simp (disch := omega) [hI, k170, en170, an170, hes, hrs, hn]; (refine And.intro ?_ ?_) <;> (first | omega | assumption)))); conv => arg 4; cbv))
    (with_reducible refine on_ret ?_); refine Ended_of rfl ?_; (conv => lhs; cbv)
    rw [hrs, hn, pad_done _ _ _ _ (by omega)]
  | succ k ih =>
    intro i rs hrs hk
    refine W_go (Y := (Tab.calls [(106, false, callIce I (inl X I (Tab.calls [(170, false, callIce I (callE I (K 170) sh170))]) Try.f106))])) xok (TabOk.calls mixed ⟨EntryOk.own (s106 hI k170) hI, notQuiet, trivial⟩) Try.func27 rfl 2000 _ hI ?_; (conv => arg 4; cbv)
    have hp := pad_length tEntry_own [.nl, .sc (.int .i64 0)] l i (by omega)
    have hx := hb _ (nth_mem (l := l) (i := i) (by omega))
    repeat' (first | ((with_reducible refine on_eqs ?_ ?_); (focus (with_reducible rfl)); conv => arg 4; cbv) | (with_reducible refine on_both ?_ ?_ <;> (conv => arg 4; cbv)) | (with_reducible refine on_true (by assumption) ?_; conv => arg 4; cbv) | (with_reducible refine on_false (by assumption) ?_; conv => arg 4; cbv) | (with_reducible refine on_ask (fun g => ?_) (fun g => ?_) <;> (have h := g) <;> (try simp (disch := omega) [hI, k170, en170, an170, hes, hrs, hn, -List.length_eq_zero_iff] at h) <;> (try (exfalso; omega)) <;> (conv => arg 4; cbv)) | ((with_reducible refine on_must ?_ ?_); (focus (first | (simp (disch := omega) [hI, k170, en170, an170, hes, hrs, hn]; done) | (simp (disch := omega) [hI, k170, en170, an170, hes, hrs, hn]; omega) | (simp (disch := omega) [hI, k170, en170, an170, hes, hrs, hn]; assumption) | (simp (disch := omega) [hI, k170, en170, an170, hes, hrs, hn]; (refine And.intro ?_ ?_) <;> (first | omega | assumption)))); conv => arg 4; cbv))
    (with_reducible refine on_loop ?_); simp only [List.cons_append, List.nil_append]; refine W_norm [0, 3, 4] ?_ (ih (i + 1) _ rfl (by omega)); (conv => lhs; cbv)
    rw [← pad_set tEntry_own [.nl, .sc (.int .i64 0)] l i (by omega) _ rfl]
    simp (disch := omega) [hI, k170, en170, an170, hes, hrs, hn, *, tEntry_own]
    try rfl
theorem ok27 (l : List EntryV) (hl : l.length ≤ 1048576) (hb : ∀ e ∈ l, e.row.length ≤ 1048576) : Ok0 Try.prog 27 [(pL tEntry).enc l] (.one (.arr 0 0 (real.len (mapE tEntry_own l)))) [(0, .row 2 (mapE tEntry_own l))] 1 := by
  obtain ⟨I, hI⟩ : ∃ I, I = real := ⟨_, rfl⟩; obtain ⟨K, hK⟩ : ∃ K : FuncId → En, K = fun g => (lk g [(170, en170)]).getD default := ⟨_, rfl⟩; have k170 : K 170 = en170 := (by subst hK; rfl); clear hK
  have hrs : True := trivial
  have hn : True := trivial
  obtain ⟨es, hes⟩ : ∃ es, es = tEntry.encs l := ⟨_, rfl⟩
  rw [r_len, mapE_length]
  show Ok0 Try.prog 27 [.one (.pv (.sl false 2 (tEntry.encs l)))] _ _ 1
  rw [← hes]
  refine Ok0_run (Y := (Tab.calls [(106, false, callIce I (inl X I (Tab.calls [(170, false, callIce I (callE I (K 170) sh170))]) Try.f106))])) xok (TabOk.calls mixed ⟨EntryOk.own (s106 hI k170) hI, notQuiet, trivial⟩) Try.func27 rfl rfl rfl 2000 hI fun w Xs => ?_; (conv => arg 4; cbv)
  repeat' (first | ((with_reducible refine on_eqs ?_ ?_); (focus (with_reducible rfl)); conv => arg 4; cbv) | (with_reducible refine on_both ?_ ?_ <;> (conv => arg 4; cbv)) | (with_reducible refine on_true (by assumption) ?_; conv => arg 4; cbv) | (with_reducible refine on_false (by assumption) ?_; conv => arg 4; cbv) | (with_reducible refine on_ask (fun g => ?_) (fun g => ?_) <;> (have h := g) <;> (try simp (disch := omega) [hI, k170, en170, an170, hes, hrs, hn, -List.length_eq_zero_iff] at h) <;> (try (exfalso; omega)) <;> (conv => arg 4; cbv)) | ((with_reducible refine on_must ?_ ?_); (focus (first | (simp (disch := omega) [hI, k170, en170, an170, hes, hrs, hn]; done) | (simp (disch := omega) [hI, k170, en170, an170, hes, hrs, hn]; omega) | (simp (disch := omega) [hI, k170, en170, an170, hes, hrs, hn]; assumption) | (simp (disch := omega) [hI, k170, en170, an170, hes, hrs, hn]; (refine And.intro ?_ ?_) <;> (first | omega | assumption)))); conv => arg 4; cbv))
  (with_reducible refine on_loop ?_); simp only [List.cons_append, List.nil_append]; refine W_norm [0, 3, 4] ?_ (L27 l hl hb es hes l.length rfl l.length 0 _ rfl rfl); (conv => lhs; cbv)
  rw [← pad_zero tEntry_own [.nl, .sc (.int .i64 0)] l l.length rfl]
  simp (disch := omega) [hI, k170, en170, an170, hes, hrs, hn, *]

theorem s27 {I : Ops} (hI : I = real) {e : En} (he : e = en27) : Sound Try.prog 27 (callE I e sh27) := by
  refine Sound.mkE ent27 hI (fun _ => rfl) ?_ he
  rintro ⟨l, ⟨⟩⟩ hp
  
  have hp : (decide (l.length ≤ 1048576) && l.all fun e => decide (e.row.length ≤ 1048576)) = true := hp
  simp only [Bool.and_eq_true, List.all_eq_true, decide_eq_true_eq] at hp
  exact ok27 l hp.1 hp.2
def fEnt (e : EntryV) (k : Int) : EntryV × Int := (⟨(mkS fI64 e.row k).1, (mkS fI64 e.row k).2⟩, nx1 (mkS fI64 e.row k).2)
def an40 : An (List EntryV × Int × Unit) where
  pre t := decide (t.1.length < 4611686018427387904) && t.1.all fun e => decide (e.row.length < 4611686018427387904)
  i _ t := (mkS fEnt t.1 t.2.1).2
  l _ t := mapE tEntry.own (mkS fEnt t.1 t.2.1).1
noncomputable def en40 : En := mkE (parsC (pO tEntry) (parsC pI pars0)) an40
theorem ent40 : Enters Try.prog 40 := ⟨Try.f40, Try.func40, by kernel_rfl, by kernel_rfl⟩

theorem L40 {w : World} {Xs : Nat → Prop} {β0 : Nat → Nat × Nat} {O0 : Nat → List Nat} (es0 : List (List PV)) (l : List EntryV) (hl : l.length < 4611686018427387904) (hb : ∀ e ∈ l, e.row.length < 4611686018427387904) (n : Nat) (hn : n = l.length) :
    ∀ (kk i : Nat) (m : Int) (done : List EntryV) (rs : List (List PV)), kk + i = l.length → done.length = i → rs = (mapE tEntry_own (done ++ l.drop i)) → W Try.prog 40 Try.f40 (EntR w Xs β0 O0 [(0, .row 2 es0)] 1) (Back (EntR w Xs β0 O0 [(0, .row 2 es0)] 1) (.one (.pv (.sc (.int .i64 (mkS fEnt (l.drop i) m).2)))) [(0, .row 2 (mapE tEntry_own (done ++ (mkS fEnt (l.drop i) m).1)))] 1) (place (bodyOf Try.f40) [1,0,1,0,0] [])
      ⟨[(0, .one (.arr 0 0 n)), (1, .one (.pv (.sc (.int .i64 m)))), (5, .one (.pv (.sc (.int .i64 i))))], [(0, .row 2 rs)], 1⟩ := by
  obtain ⟨I, hI⟩ : ∃ I, I = real := ⟨_, rfl⟩; obtain ⟨K, hK⟩ : ∃ K : FuncId → En, K = fun g => (lk g [(113, en113)]).getD default := ⟨_, rfl⟩; have k113 : K 113 = en113 := (by subst hK; rfl); clear hK
  intro kk
  induction kk with
  | zero =>
    intro i m done rs hk hdn hrs
    have hlen : (done ++ l.drop i).length = l.length := mid_len hdn (by omega)
    have hlen2 : rs.length = l.length := by rw [hrs]; simp only [Ty.encs_length, mapE_length]; exact hlen
    have h1 : l.drop i = [] := List.drop_of_length_le (by omega)
    have hnth : True := trivial
    refine W_go (Y := (Tab.calls [(113, false, callRef I (markT I (K 113) 1))])) xok (TabOk.calls mixed ⟨EntryOk.ref (s113 hI k113) hI, notQuiet, trivial⟩) Try.func40 rfl 2000 _ hI ?_; (conv => arg 4; cbv)
    repeat' (first | ((with_reducible refine on_eqs ?_ ?_); (focus (with_reducible rfl)); conv => arg 4; cbv) | (with_reducible refine on_both ?_ ?_ <;> (conv => arg 4; cbv)) | (with_reducible refine on_true (by assumption) ?_; conv => arg 4; cbv) | (with_reducible refine on_false (by assumption) ?_; conv => arg 4; cbv) | (with_reducible refine on_ask (fun g => ?_) (fun g => ?_) <;> (have h := g) <;> (try simp (disch := omega) [hI, k113, en113, an113, hlen, hlen2, hnth, hn, hrs, -List.length_eq_zero_iff] at h) <;> (try (exfalso; omega)) <;> (conv => arg 4; cbv)) | ((with_reducible refine on_must ?_ ?_); (focus (first | (simp (disch := omega) [hI, k113, en113, an113, hlen, hlen2, hnth, hn, hrs]; done) | (simp (disch := omega) [hI, k113, en113, an113, hlen, hlen2, hnth, hn, hrs]; omega) | (simp (disch := omega) [hI, k113, en113, an113, hlen, hlen2, hnth, hn, hrs]; assumption) | (simp (disch := omega) [hI, k113, en113, an113, hlen, hlen2, hnth, hn, hrs]; (refine And.intro ?_ ?_) <;> (first | omega | assumption)))); conv => arg 4; cbv))
    (with_reducible refine on_ret ?_); refine EndedN_of ?_; (conv => lhs; cbv)
    rw [hrs, h1]
    simp [mkS]
  | succ kk ih =>
    intro i m done rs hk hdn hrs
    have hlen : (done ++ l.drop i).length = l.length := mid_len hdn (by omega)
    have hlen2 : rs.length = l.length := by rw [hrs]; simp only [Ty.encs_length, mapE_length]; exact hlen
    have hnth : nth (done ++ l.drop i) i = nth l i := mid_nth hdn (by omega)
    have hset : ∀ (y : EntryV) {ps : List PV}, ps = tEntry_own y → real.set rs i ps = (mapE tEntry_own ((done ++ [y]) ++ l.drop (i + 1))) := by
      intro y ps hy
      rw [hrs]
      exact mid_set hdn (by omega) tEntry_own y hy
    have hd : l.drop i = nth l i :: l.drop (i + 1) := nth_drop (by omega)
    have hx := hb _ (nth_mem (l := l) (i := i) (by omega))
    refine W_focus 0 i [.sl 1, .int .i64] hI ?_; (conv => arg 4; cbv)
    repeat' (first | ((with_reducible refine on_eqs ?_ ?_); (focus (with_reducible rfl)); conv => arg 4; cbv) | (with_reducible refine on_both ?_ ?_ <;> (conv => arg 4; cbv)) | (with_reducible refine on_true (by assumption) ?_; conv => arg 4; cbv) | (with_reducible refine on_false (by assumption) ?_; conv => arg 4; cbv) | (with_reducible refine on_ask (fun g => ?_) (fun g => ?_) <;> (have h := g) <;> (try simp (disch := omega) [hI, k113, en113, an113, hlen, hlen2, hnth, hn, hrs, -List.length_eq_zero_iff] at h) <;> (try (exfalso; omega)) <;> (conv => arg 4; cbv)) | ((with_reducible refine on_must ?_ ?_); (focus (first | (simp (disch := omega) [hI, k113, en113, an113, hlen, hlen2, hnth, hn, hrs]; done) | (simp (disch := omega) [hI, k113, en113, an113, hlen, hlen2, hnth, hn, hrs]; omega) | (simp (disch := omega) [hI, k113, en113, an113, hlen, hlen2, hnth, hn, hrs]; assumption) | (simp (disch := omega) [hI, k113, en113, an113, hlen, hlen2, hnth, hn, hrs]; (refine And.intro ?_ ?_) <;> (first | omega | assumption)))); conv => arg 4; cbv))
    all_goals ((with_reducible refine on_loop ?_); refine W_go (Y := (Tab.calls [(113, false, callRef I (markT I (K 113) 1))])) xok (TabOk.calls mixed ⟨EntryOk.ref (s113 hI k113) hI, notQuiet, trivial⟩) Try.func40 rfl 2000 _ hI ?_; (conv => arg 4; cbv))
    repeat' (first | ((with_reducible refine on_eqs ?_ ?_); (focus (with_reducible rfl)); conv => arg 4; cbv) | (with_reducible refine on_both ?_ ?_ <;> (conv => arg 4; cbv)) | (with_reducible refine on_true (by assumption) ?_; conv => arg 4; cbv) | (with_reducible refine on_false (by assumption) ?_; conv => arg 4; cbv) | (with_reducible refine on_ask (fun g => ?_) (fun g => ?_) <;> (have h := g) <;> (try simp (disch := omega) [hI, k113, en113, an113, hlen, hlen2, hnth, hn, hrs, -List.length_eq_zero_iff] at h) <;> (try (exfalso; omega)) <;> (conv => arg 4; cbv)) | ((with_reducible refine on_must ?_ ?_); (focus (first | (simp (disch := omega) [hI, k113, en113, an113, hlen, hlen2, hnth, hn, hrs]; done) | (simp (disch := omega) [hI, k113, en113, an113, hlen, hlen2, hnth, hn, hrs]; omega) | (simp (disch := omega) [hI, k113, en113, an113, hlen, hlen2, hnth, hn, hrs]; assumption) | (simp (disch := omega) [hI, k113, en113, an113, hlen, hlen2, hnth, hn, hrs]; (refine And.intro ?_ ?_) <;> (first | omega | assumption)))); conv => arg 4; cbv))
    all_goals ((with_reducible refine on_loop ?_); simp only [List.cons_append, List.nil_append])
    all_goals (apply W_unfocus 0 hI; (· (conv => lhs; cbv); try rfl))
    all_goals
      rw [show (mkS fEnt (l.drop i) m).2 = (mkS fEnt (l.drop (i + 1)) (fEnt (nth l i) m).2).2 by rw [hd]; rfl, show done ++ (mkS fEnt (l.drop i) m).1 = (done ++ [(fEnt (nth l i) m).1]) ++ (mkS fEnt (l.drop (i + 1)) (fEnt (nth l i) m).2).1 by rw [hd]; simp [mkS]]
      refine W_norm [0, 1, 5] ?_ (ih (i + 1) _ (done ++ [(fEnt (nth l i) m).1]) _ (by omega) (by simp; omega) rfl); (conv => lhs; cbv)
      rw [← hset (fEnt (nth l i) m).1 rfl]
      clear hset hd ih
      try simp only [List.length_eq_zero_iff] at *
      simp (disch := omega) [hI, k113, en113, an113, hlen, hlen2, hnth, hn, hrs, *, nx1, fEnt, tEntry_own, mkS_take, mkS_nil, r_nthset]
      try rfl
theorem ok40 (k0 : Int) (l : List EntryV) (hl : l.length < 4611686018427387904) (hb : ∀ e ∈ l, e.row.length < 4611686018427387904) : OkR Try.prog 40 [.one (.arr 0 0 l.length), .one (.pv (.sc (.int .i64 k0)))] [(0, .row 2 (mapE tEntry_own (l)))] 1 (.one (.pv (.sc (.int .i64 (mkS fEnt l k0).2)))) [(0, .row 2 (mapE tEntry_own ((mkS fEnt l k0).1)))] 1 := by
  obtain ⟨I, hI⟩ : ∃ I, I = real := ⟨_, rfl⟩; obtain ⟨K, hK⟩ : ∃ K : FuncId → En, K = fun g => (lk g [(113, en113)]).getD default := ⟨_, rfl⟩; have k113 : K 113 = en113 := (by subst hK; rfl); clear hK
  have hlen : True := trivial
  have hlen2 : True := trivial
  have hnth : True := trivial
  have hrs : True := trivial
  obtain ⟨n, hn⟩ : ∃ n, n = l.length := ⟨_, rfl⟩
  obtain ⟨es0, hes0⟩ : ∃ es, es = (mapE tEntry_own (l)) := ⟨_, rfl⟩
  suffices hs : OkR Try.prog 40 [.one (.arr 0 0 n), .one (.pv (.sc (.int .i64 k0)))] [(0, .row 2 es0)] 1 (.one (.pv (.sc (.int .i64 (mkS fEnt l k0).2)))) [(0, .row 2 (mapE tEntry_own ((mkS fEnt l k0).1)))] 1 by rwa [hn, hes0] at hs
  refine OkR_run (Y := (Tab.calls [(113, false, callRef I (markT I (K 113) 1))])) xok (TabOk.calls mixed ⟨EntryOk.ref (s113 hI k113) hI, notQuiet, trivial⟩) Try.func40 rfl rfl rfl 2000 hI fun w Xs β0 O0 => ?_; (conv => arg 4; cbv)
  repeat' (first | ((with_reducible refine on_eqs ?_ ?_); (focus (with_reducible rfl)); conv => arg 4; cbv) | (with_reducible refine on_both ?_ ?_ <;> (conv => arg 4; cbv)) | (with_reducible refine on_true (by assumption) ?_; conv => arg 4; cbv) | (with_reducible refine on_false (by assumption) ?_; conv => arg 4; cbv) | (with_reducible refine on_ask (fun g => ?_) (fun g => ?_) <;> (have h := g) <;> (try simp (disch := omega) [hI, k113, en113, an113, hlen, hlen2, hnth, hn, hrs, -List.length_eq_zero_iff] at h) <;> (try (exfalso; omega)) <;> (conv => arg 4; cbv)) | ((with_reducible refine on_must ?_ ?_); (focus (first | (simp (disch := omega) [hI, k113, en113, an113, hlen, hlen2, hnth, hn, hrs]; done) | (simp (disch := omega) [hI, k113, en113, an113, hlen, hlen2, hnth, hn, hrs]; omega) | (simp (disch := omega) [hI, k113, en113, an113, hlen, hlen2, hnth, hn, hrs]; assumption) | (simp (disch := omega) [hI, k113, en113, an113, hlen, hlen2, hnth, hn, hrs]; (refine And.intro ?_ ?_) <;> (first | omega | assumption)))); conv => arg 4; cbv))
  (with_reducible refine on_loop ?_); simp only [List.cons_append, List.nil_append]; refine W_norm [0, 1, 5] ?_ (L40 es0 l hl hb n hn l.length 0 k0 [] es0 rfl rfl hes0); (conv => lhs; cbv)
  rfl
theorem okn40 (k0 : Int) (p : PV) (hp : els p = []) (hp2 : isNo p = true) : OkR Try.prog 40 [.one (.pv p), .one (.pv (.sc (.int .i64 k0)))] [] 0 (.one (.pv (.sc (.int .i64 k0)))) [] 0 := by
  obtain ⟨I, hI⟩ : ∃ I, I = real := ⟨_, rfl⟩; obtain ⟨K, hK⟩ : ∃ K : FuncId → En, K = fun g => (lk g [(113, en113)]).getD default := ⟨_, rfl⟩; have k113 : K 113 = en113 := (by subst hK; rfl); clear hK
  have hlen : True := trivial
  have hlen2 : True := trivial
  have hnth : True := trivial
  have hrs : True := trivial
  have hn : True := trivial
  rcases PV.no_nil hp hp2 with rfl | ⟨u, s, rfl⟩
  all_goals
    refine OkR_run (Y := (Tab.calls [(113, false, callRef I (markT I (K 113) 1))])) xok (TabOk.calls mixed ⟨EntryOk.ref (s113 hI k113) hI, notQuiet, trivial⟩) Try.func40 rfl rfl rfl 2000 hI fun w Xs β0 O0 => ?_; (conv => arg 4; cbv)
    repeat' (first | ((with_reducible refine on_eqs ?_ ?_); (focus (with_reducible rfl)); conv => arg 4; cbv) | (with_reducible refine on_both ?_ ?_ <;> (conv => arg 4; cbv)) | (with_reducible refine on_true (by assumption) ?_; conv => arg 4; cbv) | (with_reducible refine on_false (by assumption) ?_; conv => arg 4; cbv) | (with_reducible refine on_ask (fun g => ?_) (fun g => ?_) <;> (have h := g) <;> (try simp (disch := omega) [hI, k113, en113, an113, hlen, hlen2, hnth, hn, hrs, -List.length_eq_zero_iff] at h) <;> (try (exfalso; omega)) <;> (conv => arg 4; cbv)) | ((with_reducible refine on_must ?_ ?_); (focus (first | (simp (disch := omega) [hI, k113, en113, an113, hlen, hlen2, hnth, hn, hrs]; done) | (simp (disch := omega) [hI, k113, en113, an113, hlen, hlen2, hnth, hn, hrs]; omega) | (simp (disch := omega) [hI, k113, en113, an113, hlen, hlen2, hnth, hn, hrs]; assumption) | (simp (disch := omega) [hI, k113, en113, an113, hlen, hlen2, hnth, hn, hrs]; (refine And.intro ?_ ?_) <;> (first | omega | assumption)))); conv => arg 4; cbv))
    (with_reducible refine on_loop ?_)
    simp only [List.cons_append, List.nil_append]
    refine W_go (Y := (Tab.calls [(113, false, callRef I (markT I (K 113) 1))])) xok (TabOk.calls mixed ⟨EntryOk.ref (s113 hI k113) hI, notQuiet, trivial⟩) Try.func40 rfl 2000 _ hI ?_; (conv => arg 4; cbv)
    repeat' (first | ((with_reducible refine on_eqs ?_ ?_); (focus (with_reducible rfl)); conv => arg 4; cbv) | (with_reducible refine on_both ?_ ?_ <;> (conv => arg 4; cbv)) | (with_reducible refine on_true (by assumption) ?_; conv => arg 4; cbv) | (with_reducible refine on_false (by assumption) ?_; conv => arg 4; cbv) | (with_reducible refine on_ask (fun g => ?_) (fun g => ?_) <;> (have h := g) <;> (try simp (disch := omega) [hI, k113, en113, an113, hlen, hlen2, hnth, hn, hrs, -List.length_eq_zero_iff] at h) <;> (try (exfalso; omega)) <;> (conv => arg 4; cbv)) | ((with_reducible refine on_must ?_ ?_); (focus (first | (simp (disch := omega) [hI, k113, en113, an113, hlen, hlen2, hnth, hn, hrs]; done) | (simp (disch := omega) [hI, k113, en113, an113, hlen, hlen2, hnth, hn, hrs]; omega) | (simp (disch := omega) [hI, k113, en113, an113, hlen, hlen2, hnth, hn, hrs]; assumption) | (simp (disch := omega) [hI, k113, en113, an113, hlen, hlen2, hnth, hn, hrs]; (refine And.intro ?_ ?_) <;> (first | omega | assumption)))); conv => arg 4; cbv))
    (with_reducible refine on_ret ?_); refine EndedN_of ?_; (conv => lhs; cbv)
theorem s40 {I : Ops} (hI : I = real) {e : En} (he : e = en40) : SoundR Try.prog 40 (markT I e 2) :=
  SoundR.markT (T := tEntry) (r := fun l k => (mkS fEnt l k).1) ent40 (fun _ => rfl) (fun k0 l hp => by
    have hp : (decide (l.length < 4611686018427387904) && l.all fun e => decide (e.row.length < 4611686018427387904)) = true := hp
    simp only [Bool.and_eq_true, List.all_eq_true, decide_eq_true_eq] at hp
    exact ok40 k0 l hp.1 hp.2) okn40 hI he

def hEnt (e : EntryV) (k : Int) : Option Int := if hdS hI64 e.row k < 0 then none else if e.weight = hdS hI64 e.row k then some (nx1 (hdS hI64 e.row k)) else none
def an141 : An (List EntryV × Int × Unit) where
  pre t := decide (t.1.length < 4611686018427387904) && t.1.all fun e => decide (e.row.length < 4611686018427387904)
  i _ t := hdS hEnt t.1 t.2.1
noncomputable def en141 : En := mkE (parsC (pL tEntry) (parsC pI pars0)) an141
def sh141 : Shp := fun I i b l s => .ok (.one (.pv (.sc (.int .i64 (i 0)))), [], 0)
theorem ent141 : Enters Try.prog 141 := ⟨Try.f141, Try.func141, by kernel_rfl, by kernel_rfl⟩

theorem L141 {w : World} {Xs : Nat → Prop} (l : List EntryV) (hl : l.length < 4611686018427387904) (hb : ∀ e ∈ l, e.row.length < 4611686018427387904) (es : List (List PV)) (hes : es = tEntry.encs l) :
    ∀ (kk i : Nat) (m : Int), kk + i = l.length → W Try.prog 141 Try.f141 (Ent0 w Xs) (Back (Ent0 w Xs) (.one (.pv (.sc (.int .i64 (hdS hEnt (l.drop i) m))))) [] 0) (place (bodyOf Try.f141) [1,0,1,0,0] [])
      ⟨[(0, .one (.pv (.sl false 2 es))), (1, .one (.pv (.sc (.int .i64 m)))), (5, .one (.pv (.sc (.int .i64 i))))], [], 0⟩ := by
  obtain ⟨I, hI⟩ : ∃ I, I = real := ⟨_, rfl⟩; obtain ⟨K, hK⟩ : ∃ K : FuncId → En, K = fun g => (lk g [(114, en114)]).getD default := ⟨_, rfl⟩; have k114 : K 114 = en114 := (by subst hK; rfl); clear hK
  intro kk
  induction kk with
  | zero =>
    intro i m hk
    refine W_go (Y := (Tab.calls [(114, true, callRd I (callE I (K 114) sh114))])) xok (TabOk.calls mixed ⟨EntryOk.rd (s114 hI k114) hI, fun _ => callRd_quiet _ _, trivial⟩) Try.func141 rfl 2000 _ hI ?_; (conv => arg 4; cbv)
    repeat' (first | ((with_reducible refine on_eqs ?_ ?_); (focus (with_reducible rfl)); conv => arg 4; cbv) | (with_reducible refine on_both ?_ ?_ <;> (conv => arg 4; cbv)) | (with_reducible refine on_true (by assumption) ?_; conv => arg 4; cbv) | (with_reducible refine on_false (by assumption) ?_; conv => arg 4; cbv) | (with_reducible refine on_ask (fun g => ?_) (fun g => ?_) <;> (have h := g) <;> (try simp (disch := omega) [hI, k114, en114, an114, hes, -List.length_eq_zero_iff] at h) <;> (try (exfalso; omega)) <;> (conv => arg 4; cbv)) | ((with_reducible refine on_must ?_ ?_); (focus (first | (simp (disch := omega) [hI, k114, en114, an114, hes]; done) | (simp (disch := omega) [hI, k114, en114, an114, hes]; omega) | (simp (disch := omega) [hI, k114, en114, an114, hes]; assumption) | (simp (disch := omega) [hI, k114, en114, an114, hes]; (refine And.intro ?_ ?_) <;> (first | omega | assumption)))); conv => arg 4; cbv))
    (with_reducible refine on_ret ?_); refine Ended_of rfl ?_; (conv => lhs; cbv)
    have h1 : l.drop i = [] := List.drop_of_length_le (by omega)
    simp [h1, hdS]
  | succ kk ih =>
    intro i m hk
    have hd : l.drop i = nth l i :: l.drop (i + 1) := nth_drop (by omega)
    have hx := hb _ (nth_mem (l := l) (i := i) (by omega))
    refine W_go (Y := (Tab.calls [(114, true, callRd I (callE I (K 114) sh114))])) xok (TabOk.calls mixed ⟨EntryOk.rd (s114 hI k114) hI, fun _ => callRd_quiet _ _, trivial⟩) Try.func141 rfl 2000 _ hI ?_; (conv => arg 4; cbv)
    repeat' (first | ((with_reducible refine on_eqs ?_ ?_); (focus (with_reducible rfl)); conv => arg 4; cbv) | (with_reducible refine on_both ?_ ?_ <;> (conv => arg 4; cbv)) | (with_reducible refine on_true (by assumption) ?_; conv => arg 4; cbv) | (with_reducible refine on_false (by assumption) ?_; conv => arg 4; cbv) | (with_reducible refine on_ask (fun g => ?_) (fun g => ?_) <;> (have h := g) <;> (try simp (disch := omega) [hI, k114, en114, an114, hes, -List.length_eq_zero_iff] at h) <;> (try (exfalso; omega)) <;> (conv => arg 4; cbv)) | ((with_reducible refine on_must ?_ ?_); (focus (first | (simp (disch := omega) [hI, k114, en114, an114, hes]; done) | (simp (disch := omega) [hI, k114, en114, an114, hes]; omega) | (simp (disch := omega) [hI, k114, en114, an114, hes]; assumption) | (simp (disch := omega) [hI, k114, en114, an114, hes]; (refine And.intro ?_ ?_) <;> (first | omega | assumption)))); conv => arg 4; cbv))
    all_goals first
      | ((with_reducible refine on_ret ?_); refine Ended_of rfl ?_; (conv => lhs; cbv); rw [hd, hdS, show hEnt (nth l i) m = none from by simp only [hEnt]; first | ((repeat' (first | rw [if_neg (by omega)] | rw [if_pos (by first | assumption | omega)])); done) | (simp [*]; done)])
      | (have e : hdS hEnt (l.drop i) m = hdS hEnt (l.drop (i + 1)) (nx1 (hdS hI64 (nth l i).row m)) := by rw [hd, hdS, show hEnt (nth l i) m = some (nx1 (hdS hI64 (nth l i).row m)) from by simp only [hEnt]; first | ((repeat' (first | rw [if_neg (by omega)] | rw [if_pos (by first | assumption | omega)])); done) | (simp [*]; done)]
         rw [e]
         (with_reducible refine on_loop ?_); simp only [List.cons_append, List.nil_append]; refine W_norm [0, 1, 5] ?_ (ih (i + 1) _ (by omega)); (conv => lhs; cbv)
         first | (simp (disch := omega) [hI, k114, en114, an114, hes, *, nx1]; done) | ((try simp (disch := omega) [hI, k114, en114, an114, hes, *, nx1]); (repeat' split); all_goals (first | rfl | omega | (simp_all; done) | (exfalso; simp_all; omega))))
theorem ok141 (l : List EntryV) (k : Int) (hl : l.length < 4611686018427387904) (hb : ∀ e ∈ l, e.row.length < 4611686018427387904) : Ok0 Try.prog 141 [(pL tEntry).enc l, pI.enc k] (.one (.pv (.sc (.int .i64 (hdS hEnt l k))))) [] 0 := by
  obtain ⟨I, hI⟩ : ∃ I, I = real := ⟨_, rfl⟩; obtain ⟨K, hK⟩ : ∃ K : FuncId → En, K = fun g => (lk g [(114, en114)]).getD default := ⟨_, rfl⟩; have k114 : K 114 = en114 := (by subst hK; rfl); clear hK
  obtain ⟨es, hes⟩ : ∃ es, es = tEntry.encs l := ⟨_, rfl⟩
  show Ok0 Try.prog 141 [.one (.pv (.sl false 2 (tEntry.encs l))), .one (.pv (.sc (.int .i64 k)))] _ [] 0
  rw [← hes]
  refine Ok0_run (Y := (Tab.calls [(114, true, callRd I (callE I (K 114) sh114))])) xok (TabOk.calls mixed ⟨EntryOk.rd (s114 hI k114) hI, fun _ => callRd_quiet _ _, trivial⟩) Try.func141 rfl rfl rfl 2000 hI fun w Xs => ?_; (conv => arg 4; cbv)
  repeat' (first | ((with_reducible refine on_eqs ?_ ?_); (focus (with_reducible rfl)); conv => arg 4; cbv) | (with_reducible refine on_both ?_ ?_ <;> (conv => arg 4; cbv)) | (with_reducible refine on_true (by assumption) ?_; conv => arg 4; cbv) | (with_reducible refine on_false (by assumption) ?_; conv => arg 4; cbv) | (with_reducible refine on_ask (fun g => ?_) (fun g => ?_) <;> (have h := g) <;> (try simp (disch := omega) [hI, k114, en114, an114, hes, -List.length_eq_zero_iff] at h) <;> (try (exfalso; omega)) <;> (conv => arg 4; cbv)) | ((with_reducible refine on_must ?_ ?_); (focus (first | (simp (disch := omega) [hI, k114, en114, an114, hes]; done) | (simp (disch := omega) [hI, k114, en114, an114, hes]; omega) | (simp (disch := omega) [hI, k114, en114, an114, hes]; assumption) | (simp (disch := omega) [hI, k114, en114, an114, hes]; (refine And.intro ?_ ?_) <;> (first | omega | assumption)))); conv => arg 4; cbv))
  (with_reducible refine on_loop ?_); simp only [List.cons_append, List.nil_append]; refine W_norm [0, 1, 5] ?_ (L141 l hl hb es hes l.length 0 _ rfl); (conv => lhs; cbv)
  first | (simp (disch := omega) [hI, k114, en114, an114, hes, *]; done) | ((try simp (disch := omega) [hI, k114, en114, an114, hes, *]); (repeat' split); all_goals (first | rfl | omega | (simp_all; done) | (exfalso; simp_all; omega)))

theorem s141 {I : Ops} (hI : I = real) {e : En} (he : e = en141) : Sound Try.prog 141 (callE I e sh141) := by
  refine Sound.mkE ent141 hI (fun _ => rfl) ?_ he
  rintro ⟨l, k, ⟨⟩⟩ hp
  
  have hp : (decide (l.length < 4611686018427387904) && l.all fun e => decide (e.row.length < 4611686018427387904)) = true := hp
  simp only [Bool.and_eq_true, List.all_eq_true, decide_eq_true_eq] at hp
  exact ok141 l k hp.1 hp.2
end Go.Proofs.Try
