/- Contracts. -/
import Derived.Test.YtafdnkachndacaaLwK
set_option linter.unusedSimpArgs false
set_option linter.unusedVariables false
namespace Go.Proofs.Try
open Go Go.Aix
set_option maxRecDepth 100000
set_option maxHeartbeats 4000000
set_option linter.unusedSimpArgs false
set_option linter.unusedVariables false
def rowLp : List Int → Int
  | [] => 0
  | c :: r => if -1000000000 ≤ c ∧ c ≤ 1000000000 then rowLp r else 3
def rowFault (l : List Int) : Int := if 4 < l.length then 2 else rowLp l
theorem rowFault_len {l : List Int} (h : rowFault l = 0) : l.length ≤ 4 := by
  unfold rowFault at h
  split at h <;> omega
/-- The order of rows. -/
def cmpR : List Int → List Int → Int
  | [], [] => 0
  | [], _ :: _ => -1
  | _ :: _, [] => 1
  | a :: r, b :: s => if a < b then -1 else if b < a then 1 else cmpR r s
theorem cmpR_end : ∀ {l r : List Int} {i : Nat}, i ≤ l.length → i ≤ r.length → (i = l.length ∨ i = r.length) → cmpR (l.drop i) (r.drop i) = if l.length < r.length then -1 else if r.length < l.length then 1 else 0
  | [], [], 0, _, _, _ => rfl
  | [], _ :: _, 0, _, _, _ => by simp [cmpR]
  | _ :: _, [], 0, _, _, _ => by simp [cmpR]
  | a :: l, b :: r, 0, _, _, h => by simp at h
  | a :: l, b :: r, i + 1, h1, h2, h3 => by
    simp only [List.drop_succ_cons, List.length_cons]
    rw [cmpR_end (by simpa using h1) (by simpa using h2) (by simpa using h3)]
    simp only [Nat.add_lt_add_iff_right]
  | [], _, i + 1, h1, _, _ => by simp at h1
  | _ :: _, [], i + 1, _, h2, _ => by simp at h2
theorem cmpR_anti : ∀ (l r : List Int), cmpR r l = - cmpR l r
  | [], [] => rfl
  | [], _ :: _ => rfl
  | _ :: _, [] => rfl
  | a :: l, b :: r => by
    rw [cmpR, cmpR]
    (repeat' split) <;> first | omega | exact cmpR_anti l r
theorem cmpI_len (l r : Nat) : cmpI (l : Int) r = if l < r then -1 else if r < l then 1 else 0 := by
  unfold cmpI
  (repeat' split) <;> first | rfl | omega
theorem cmpI_ne {a b x : Int} (h : ¬ cmpI a b = 0) : (if a < b then -1 else if b < a then 1 else x) = cmpI a b := by
  unfold cmpI at *
  (repeat' split) <;> simp_all
theorem cmpI_eq {a b x : Int} (h : cmpI a b = 0) : (if a < b then -1 else if b < a then 1 else x) = x := by
  unfold cmpI at h
  (repeat' split) <;> simp_all
theorem cmpR_step {l r : List Int} {i : Nat} (h1 : i < l.length) (h2 : i < r.length) : cmpR (l.drop i) (r.drop i) = if nth l i < nth r i then -1 else if nth r i < nth l i then 1 else cmpR (l.drop (i + 1)) (r.drop (i + 1)) := by
  rw [nth_drop h1, nth_drop h2, cmpR]

def an92 : An (List Int × Unit) where
  i _ t := rowFault t.1
noncomputable def en92 : En := mkE (parsC (pL tI64) pars0) an92
def sh92 : Shp := fun I i b l s => .ok (.one (.pv (.sc (.int .i64 (i 0)))), [], 0)
theorem ent92 : Enters Try.prog 92 := ⟨Try.f92, Try.func92, by kernel_rfl, by kernel_rfl⟩

theorem L92 {w : World} {Xs : Nat → Prop} (l : List Int) (hl : l.length ≤ 4) (es : List (List PV)) (hes : es = tI64.encs l) (nl : Nat) (hnl : nl = l.length) :
    ∀ (k i : Nat), k + i = l.length → W Try.prog 92 Try.f92 (Ent0 w Xs) (Back (Ent0 w Xs) (.one (.pv (.sc (.int .i64 (rowLp (l.drop i)))))) [] 0) (place (bodyOf Try.f92) [1,1,0,1,0,0] [])
      ⟨[(0, .one (.pv (.sl false 1 es))), (3, .one (.pv (.sc (.int .i64 i))))], [], 0⟩ := by
  obtain ⟨I, hI⟩ : ∃ I, I = real := ⟨_, rfl⟩
  intro k
  induction k with
  | zero =>
    intro i hk
    refine W_go (Y := (Tab.calls [(91, true, callRd I (inl X I (Tab.calls []) Try.f91))])) xok (TabOk.calls mixed ⟨EntryOk.rd (s91 hI) hI, fun _ => callRd_quiet _ _, trivial⟩) Try.func92 rfl 2000 _ hI ?_; (conv => arg 4; cbv)
    repeat' (first | ((with_reducible refine on_eqs ?_ ?_); (focus (with_reducible rfl)); conv => arg 4; cbv) | (with_reducible refine on_both ?_ ?_ <;> (conv => arg 4; cbv)) | (with_reducible refine on_true (by assumption) ?_; conv => arg 4; cbv) | (with_reducible refine on_false (by assumption) ?_; conv => arg 4; cbv) | (with_reducible refine on_ask (fun g => ?_) (fun g => ?_) <;> (have h := g) <;> (try simp (disch := omega) [hI, hes, hnl, -List.length_eq_zero_iff] at h) <;> (try (exfalso; omega)) <;> (conv => arg 4; cbv)) | ((with_reducible refine on_must ?_ ?_); (focus (first | (simp (disch := omega) [hI, hes, hnl]; done) | (simp (disch := omega) [hI, hes, hnl]; omega) | (simp (disch := omega) [hI, hes, hnl]; assumption) | (simp (disch := omega) [hI, hes, hnl]; (refine And.intro ?_ ?_) <;> (first | omega | assumption)))); conv => arg 4; cbv))
    (with_reducible refine on_ret ?_); refine Ended_of rfl ?_; (conv => lhs; cbv)
    have h1 : l.drop i = [] := List.drop_of_length_le (by omega)
    simp [h1, rowLp]
  | succ k ih =>
    intro i hk
    refine W_go (Y := (Tab.calls [(91, true, callRd I (inl X I (Tab.calls []) Try.f91))])) xok (TabOk.calls mixed ⟨EntryOk.rd (s91 hI) hI, fun _ => callRd_quiet _ _, trivial⟩) Try.func92 rfl 2000 _ hI ?_; (conv => arg 4; cbv)
    have hd : l.drop i = nth l i :: l.drop (i + 1) := nth_drop (by omega)
    repeat' (first | ((with_reducible refine on_eqs ?_ ?_); (focus (with_reducible rfl)); conv => arg 4; cbv) | (with_reducible refine on_both ?_ ?_ <;> (conv => arg 4; cbv)) | (with_reducible refine on_true (by assumption) ?_; conv => arg 4; cbv) | (with_reducible refine on_false (by assumption) ?_; conv => arg 4; cbv) | (with_reducible refine on_ask (fun g => ?_) (fun g => ?_) <;> (have h := g) <;> (try simp (disch := omega) [hI, hes, hnl, -List.length_eq_zero_iff] at h) <;> (try (exfalso; omega)) <;> (conv => arg 4; cbv)) | ((with_reducible refine on_must ?_ ?_); (focus (first | (simp (disch := omega) [hI, hes, hnl]; done) | (simp (disch := omega) [hI, hes, hnl]; omega) | (simp (disch := omega) [hI, hes, hnl]; assumption) | (simp (disch := omega) [hI, hes, hnl]; (refine And.intro ?_ ?_) <;> (first | omega | assumption)))); conv => arg 4; cbv))
    all_goals first
      | ((with_reducible refine on_ret ?_); refine Ended_of rfl ?_; (conv => lhs; cbv); rw [hd, rowLp, if_neg (by omega)]; done)
      | (have e : rowLp (l.drop i) = rowLp (l.drop (i + 1)) := by rw [hd, rowLp, if_pos (by omega)]
         rw [e]
         (with_reducible refine on_loop ?_); simp only [List.cons_append, List.nil_append]; refine W_norm [0, 3] ?_ (ih (i + 1) (by omega)); (conv => lhs; cbv)
         first | (simp (disch := omega) [hI, hes, hnl, *]; done) | ((try simp (disch := omega) [hI, hes, hnl, *]); (repeat' split); all_goals (first | rfl | omega | (simp_all; done) | (exfalso; simp_all; omega))))
theorem ok92 (l : List Int) : Ok0 Try.prog 92 [(pL tI64).enc l] (.one (.pv (.sc (.int .i64 (rowFault l))))) [] 0 := by
  obtain ⟨I, hI⟩ : ∃ I, I = real := ⟨_, rfl⟩
  have hnl : True := trivial
  obtain ⟨es, hes⟩ : ∃ es, es = tI64.encs l := ⟨_, rfl⟩
  show Ok0 Try.prog 92 [.one (.pv (.sl false 1 (tI64.encs l)))] _ [] 0
  rw [← hes]
  refine Ok0_run (Y := (Tab.calls [(91, true, callRd I (inl X I (Tab.calls []) Try.f91))])) xok (TabOk.calls mixed ⟨EntryOk.rd (s91 hI) hI, fun _ => callRd_quiet _ _, trivial⟩) Try.func92 rfl rfl rfl 2000 hI fun w Xs => ?_; (conv => arg 4; cbv)
  repeat' (first | ((with_reducible refine on_eqs ?_ ?_); (focus (with_reducible rfl)); conv => arg 4; cbv) | (with_reducible refine on_both ?_ ?_ <;> (conv => arg 4; cbv)) | (with_reducible refine on_true (by assumption) ?_; conv => arg 4; cbv) | (with_reducible refine on_false (by assumption) ?_; conv => arg 4; cbv) | (with_reducible refine on_ask (fun g => ?_) (fun g => ?_) <;> (have h := g) <;> (try simp (disch := omega) [hI, hes, hnl, -List.length_eq_zero_iff] at h) <;> (try (exfalso; omega)) <;> (conv => arg 4; cbv)) | ((with_reducible refine on_must ?_ ?_); (focus (first | (simp (disch := omega) [hI, hes, hnl]; done) | (simp (disch := omega) [hI, hes, hnl]; omega) | (simp (disch := omega) [hI, hes, hnl]; assumption) | (simp (disch := omega) [hI, hes, hnl]; (refine And.intro ?_ ?_) <;> (first | omega | assumption)))); conv => arg 4; cbv))
  · (with_reducible refine on_ret ?_); refine Ended_of rfl ?_; (conv => lhs; cbv); rw [rowFault, if_pos (by omega)]
  · have e : rowFault l = rowLp (l.drop 0) := by rw [rowFault, if_neg (by omega)]; rfl
    rw [e]
    (with_reducible refine on_loop ?_); simp only [List.cons_append, List.nil_append]; refine W_norm [0, 3] ?_ (L92 l (by omega) es hes _ rfl l.length 0 rfl); (conv => lhs; cbv)
    first | (simp (disch := omega) [hI, hes, hnl, *]; done) | ((try simp (disch := omega) [hI, hes, hnl, *]); (repeat' split); all_goals (first | rfl | omega | (simp_all; done) | (exfalso; simp_all; omega)))

theorem s92 {I : Ops} (hI : I = real) {e : En} (he : e = en92) : Sound Try.prog 92 (callE I e sh92) := by
  refine Sound.mkE ent92 hI (fun _ => rfl) ?_ he
  rintro ⟨l, ⟨⟩⟩ hp
  exact ok92 l
def an100 : An (List Int × Unit) where
  i _ t := rowFault t.1
noncomputable def en100 : En := mkE (parsC (pL tI64) pars0) an100
def sh100 : Shp := fun I i b l s => .ok (.one (.pv (.sc (.int .i64 (i 0)))), [], 0)
theorem ent100 : Enters Try.prog 100 := ⟨Try.f100, Try.func100, by kernel_rfl, by kernel_rfl⟩

theorem L100 {w : World} {Xs : Nat → Prop} (l : List Int) (hl : l.length ≤ 4) (es : List (List PV)) (hes : es = tI64.encs l) (nl : Nat) (hnl : nl = l.length) :
    ∀ (k i : Nat), k + i = l.length → W Try.prog 100 Try.f100 (Ent0 w Xs) (Back (Ent0 w Xs) (.one (.pv (.sc (.int .i64 (rowLp (l.drop i)))))) [] 0) (place (bodyOf Try.f100) [1,1,0,1,0,0] [])
      ⟨[(8, .one (.pv (.sl false 1 es))), (9, .one (.pv (.sc (.int .i64 nl)))), (10, .one (.pv (.sc (.int .i64 i))))], [], 0⟩ := by
  obtain ⟨I, hI⟩ : ∃ I, I = real := ⟨_, rfl⟩
  intro k
  induction k with
  | zero =>
    intro i hk
    refine W_go (Y := (Tab.calls [(98, true, callRd I (inl X I (Tab.calls []) Try.f98))])) xok (TabOk.calls mixed ⟨EntryOk.rd (s98 hI) hI, fun _ => callRd_quiet _ _, trivial⟩) Try.func100 rfl 2000 _ hI ?_; (conv => arg 4; cbv)
    repeat' (first | ((with_reducible refine on_eqs ?_ ?_); (focus (with_reducible rfl)); conv => arg 4; cbv) | (with_reducible refine on_both ?_ ?_ <;> (conv => arg 4; cbv)) | (with_reducible refine on_true (by assumption) ?_; conv => arg 4; cbv) | (with_reducible refine on_false (by assumption) ?_; conv => arg 4; cbv) | (with_reducible refine on_ask (fun g => ?_) (fun g => ?_) <;> (have h := g) <;> (try simp (disch := omega) [hI, hes, hnl, -List.length_eq_zero_iff] at h) <;> (try (exfalso; omega)) <;> (conv => arg 4; cbv)) | ((with_reducible refine on_must ?_ ?_); (focus (first | (simp (disch := omega) [hI, hes, hnl]; done) | (simp (disch := omega) [hI, hes, hnl]; omega) | (simp (disch := omega) [hI, hes, hnl]; assumption) | (simp (disch := omega) [hI, hes, hnl]; (refine And.intro ?_ ?_) <;> (first | omega | assumption)))); conv => arg 4; cbv))
    (with_reducible refine on_ret ?_); refine Ended_of rfl ?_; (conv => lhs; cbv)
    have h1 : l.drop i = [] := List.drop_of_length_le (by omega)
    simp [h1, rowLp]
  | succ k ih =>
    intro i hk
    refine W_go (Y := (Tab.calls [(98, true, callRd I (inl X I (Tab.calls []) Try.f98))])) xok (TabOk.calls mixed ⟨EntryOk.rd (s98 hI) hI, fun _ => callRd_quiet _ _, trivial⟩) Try.func100 rfl 2000 _ hI ?_; (conv => arg 4; cbv)
    have hd : l.drop i = nth l i :: l.drop (i + 1) := nth_drop (by omega)
    repeat' (first | ((with_reducible refine on_eqs ?_ ?_); (focus (with_reducible rfl)); conv => arg 4; cbv) | (with_reducible refine on_both ?_ ?_ <;> (conv => arg 4; cbv)) | (with_reducible refine on_true (by assumption) ?_; conv => arg 4; cbv) | (with_reducible refine on_false (by assumption) ?_; conv => arg 4; cbv) | (with_reducible refine on_ask (fun g => ?_) (fun g => ?_) <;> (have h := g) <;> (try simp (disch := omega) [hI, hes, hnl, -List.length_eq_zero_iff] at h) <;> (try (exfalso; omega)) <;> (conv => arg 4; cbv)) | ((with_reducible refine on_must ?_ ?_); (focus (first | (simp (disch := omega) [hI, hes, hnl]; done) | (simp (disch := omega) [hI, hes, hnl]; omega) | (simp (disch := omega) [hI, hes, hnl]; assumption) | (simp (disch := omega) [hI, hes, hnl]; (refine And.intro ?_ ?_) <;> (first | omega | assumption)))); conv => arg 4; cbv))
    all_goals first
      | ((with_reducible refine on_ret ?_); refine Ended_of rfl ?_; (conv => lhs; cbv); rw [hd, rowLp, if_neg (by omega)]; done)
      | (have e : rowLp (l.drop i) = rowLp (l.drop (i + 1)) := by rw [hd, rowLp, if_pos (by omega)]
         rw [e]
         (with_reducible refine on_loop ?_); simp only [List.cons_append, List.nil_append]; refine W_norm [8, 9, 10] ?_ (ih (i + 1) (by omega)); (conv => lhs; cbv)
         first | (simp (disch := omega) [hI, hes, hnl, *]; done) | ((try simp (disch := omega) [hI, hes, hnl, *]); (repeat' split); all_goals (first | rfl | omega | (simp_all; done) | (exfalso; simp_all; omega))))
theorem ok100 (l : List Int) : Ok0 Try.prog 100 [(pL tI64).enc l] (.one (.pv (.sc (.int .i64 (rowFault l))))) [] 0 := by
  obtain ⟨I, hI⟩ : ∃ I, I = real := ⟨_, rfl⟩
  have hnl : True := trivial
  obtain ⟨es, hes⟩ : ∃ es, es = tI64.encs l := ⟨_, rfl⟩
  show Ok0 Try.prog 100 [.one (.pv (.sl false 1 (tI64.encs l)))] _ [] 0
  rw [← hes]
  refine Ok0_run (Y := (Tab.calls [(98, true, callRd I (inl X I (Tab.calls []) Try.f98))])) xok (TabOk.calls mixed ⟨EntryOk.rd (s98 hI) hI, fun _ => callRd_quiet _ _, trivial⟩) Try.func100 rfl rfl rfl 2000 hI fun w Xs => ?_; (conv => arg 4; cbv)
  repeat' (first | ((with_reducible refine on_eqs ?_ ?_); (focus (with_reducible rfl)); conv => arg 4; cbv) | (with_reducible refine on_both ?_ ?_ <;> (conv => arg 4; cbv)) | (with_reducible refine on_true (by assumption) ?_; conv => arg 4; cbv) | (with_reducible refine on_false (by assumption) ?_; conv => arg 4; cbv) | (with_reducible refine on_ask (fun g => ?_) (fun g => ?_) <;> (have h := g) <;> (try simp (disch := omega) [hI, hes, hnl, -List.length_eq_zero_iff] at h) <;> (try (exfalso; omega)) <;> (conv => arg 4; cbv)) | ((with_reducible refine on_must ?_ ?_); (focus (first | (simp (disch := omega) [hI, hes, hnl]; done) | (simp (disch := omega) [hI, hes, hnl]; omega) | (simp (disch := omega) [hI, hes, hnl]; assumption) | (simp (disch := omega) [hI, hes, hnl]; (refine And.intro ?_ ?_) <;> (first | omega | assumption)))); conv => arg 4; cbv))
  · (with_reducible refine on_ret ?_); refine Ended_of rfl ?_; (conv => lhs; cbv); rw [rowFault, if_pos (by omega)]
  · have e : rowFault l = rowLp (l.drop 0) := by rw [rowFault, if_neg (by omega)]; rfl
    rw [e]
    (with_reducible refine on_loop ?_); simp only [List.cons_append, List.nil_append]; refine W_norm [8, 9, 10] ?_ (L100 l (by omega) es hes _ rfl l.length 0 rfl); (conv => lhs; cbv)
    first | (simp (disch := omega) [hI, hes, hnl, *]; done) | ((try simp (disch := omega) [hI, hes, hnl, *]); (repeat' split); all_goals (first | rfl | omega | (simp_all; done) | (exfalso; simp_all; omega)))

theorem s100 {I : Ops} (hI : I = real) {e : En} (he : e = en100) : Sound Try.prog 100 (callE I e sh100) := by
  refine Sound.mkE ent100 hI (fun _ => rfl) ?_ he
  rintro ⟨l, ⟨⟩⟩ hp
  exact ok100 l
theorem ent241 : Enters Try.prog 241 := ⟨Try.f241, Try.func241, by kernel_rfl, by kernel_rfl⟩
theorem s241 {I : Ops} (hI : I = real)  : Sound Try.prog 241 (inl X I (Tab.calls []) Try.f241) :=
  Sound.inl (Y := (Tab.calls [])) xok (TabOk.calls mixed trivial) ent241 Try.func241 rfl rfl hI
def an229 : An (Int × Int × Unit) where
  i _ t := cmpI t.1 t.2.1
noncomputable def en229 : En := mkE (parsC pI (parsC pI pars0)) an229
def sh229 : Shp := fun I i b l s => .ok (.one (.pv (.sc (.int .i64 (i 0)))), [], 0)
theorem ent229 : Enters Try.prog 229 := ⟨Try.f229, Try.func229, by kernel_rfl, by kernel_rfl⟩

theorem ok229 (a b : Int) : Ok0 Try.prog 229 [pI.enc a, pI.enc b] (.one (.pv (.sc (.int .i64 (cmpI a b))))) [] 0 := by
  obtain ⟨I, hI⟩ : ∃ I, I = real := ⟨_, rfl⟩
  show Ok0 Try.prog 229 [.one (.pv (.sc (.int .i64 a))), .one (.pv (.sc (.int .i64 b)))] _ [] 0
  refine Ok0_run (Y := (Tab.calls [(241, true, callRd I (inl X I (Tab.calls []) Try.f241))])) xok (TabOk.calls mixed ⟨EntryOk.rd (s241 hI) hI, fun _ => callRd_quiet _ _, trivial⟩) Try.func229 rfl rfl rfl 2000 hI fun w Xs => ?_; (conv => arg 4; cbv)
  repeat' (first | ((with_reducible refine on_eqs ?_ ?_); (focus (with_reducible rfl)); conv => arg 4; cbv) | (with_reducible refine on_both ?_ ?_ <;> (conv => arg 4; cbv)) | (with_reducible refine on_true (by assumption) ?_; conv => arg 4; cbv) | (with_reducible refine on_false (by assumption) ?_; conv => arg 4; cbv) | (with_reducible refine on_ask (fun g => ?_) (fun g => ?_) <;> (have h := g) <;> (try simp (disch := omega) [hI, -List.length_eq_zero_iff] at h) <;> (try (exfalso; omega)) <;> (conv => arg 4; cbv)) | ((with_reducible refine on_must ?_ ?_); (focus (first | (simp (disch := omega) [hI]; done) | (simp (disch := omega) [hI]; omega) | (simp (disch := omega) [hI]; assumption) | (simp (disch := omega) [hI]; (refine And.intro ?_ ?_) <;> (first | omega | assumption)))); conv => arg 4; cbv))
  · have e : cmpI a b = -1 := by unfold cmpI; rw [if_pos (by omega)]
    rw [e]; (with_reducible refine on_ret ?_); refine Ended_of rfl ?_; (conv => lhs; cbv)
  · have e : cmpI a b = 1 := by unfold cmpI; rw [if_neg (by omega), if_pos (by omega)]
    rw [e]; (with_reducible refine on_ret ?_); refine Ended_of rfl ?_; (conv => lhs; cbv)
  · have e : cmpI a b = 0 := by unfold cmpI; rw [if_neg (by omega), if_neg (by omega)]
    rw [e]; (with_reducible refine on_ret ?_); refine Ended_of rfl ?_; (conv => lhs; cbv)

theorem s229 {I : Ops} (hI : I = real) {e : En} (he : e = en229) : Sound Try.prog 229 (callE I e sh229) := by
  refine Sound.mkE ent229 hI (fun _ => rfl) ?_ he
  rintro ⟨a, b, ⟨⟩⟩ hp
  exact ok229 a b
def an117 : An (List Int × List Int × Unit) where
  pre t := decide (t.1.length < 4611686018427387904) && decide (t.2.1.length < 4611686018427387904)
  i _ t := cmpR t.1 t.2.1
noncomputable def en117 : En := mkE (parsC (pL tI64) (parsC (pL tI64) pars0)) an117
def sh117 : Shp := fun I i b l s => .ok (.one (.pv (.sc (.int .i64 (i 0)))), [], 0)
theorem ent117 : Enters Try.prog 117 := ⟨Try.f117, Try.func117, by kernel_rfl, by kernel_rfl⟩

theorem L117 {w : World} {Xs : Nat → Prop} (l r : List Int) (hl : l.length < 4611686018427387904) (hr : r.length < 4611686018427387904) (es fs : List (List PV)) (hes : es = tI64.encs l) (hfs : fs = tI64.encs r) :
    ∀ (k i : Nat), k + i = min l.length r.length → W Try.prog 117 Try.f117 (Ent0 w Xs) (Back (Ent0 w Xs) (.one (.pv (.sc (.int .i64 (cmpR (l.drop i) (r.drop i)))))) [] 0) (place (bodyOf Try.f117) [1,0,1,0,0] [])
      ⟨[(0, .one (.pv (.sl false 1 es))), (1, .one (.pv (.sl false 1 fs))), (5, .one (.pv (.sc (.int .i64 i))))], [], 0⟩ := by
  obtain ⟨I, hI⟩ : ∃ I, I = real := ⟨_, rfl⟩
  intro k
  induction k with
  | zero =>
    intro i hk
    refine W_go (Y := (Tab.calls [])) xok (TabOk.calls mixed trivial) Try.func117 rfl 2000 _ hI ?_; (conv => arg 4; cbv)
    repeat' (first | ((with_reducible refine on_eqs ?_ ?_); (focus (with_reducible rfl)); conv => arg 4; cbv) | (with_reducible refine on_both ?_ ?_ <;> (conv => arg 4; cbv)) | (with_reducible refine on_true (by assumption) ?_; conv => arg 4; cbv) | (with_reducible refine on_false (by assumption) ?_; conv => arg 4; cbv) | (with_reducible refine on_ask (fun g => ?_) (fun g => ?_) <;> (have h := g) <;> (try simp (disch := omega) [hI, hes, hfs, -List.length_eq_zero_iff] at h) <;> (try (exfalso; omega)) <;> (conv => arg 4; cbv)) | ((with_reducible refine on_must ?_ ?_); (focus (first | (simp (disch := omega) [hI, hes, hfs]; done) | (simp (disch := omega) [hI, hes, hfs]; omega) | (simp (disch := omega) [hI, hes, hfs]; assumption) | (simp (disch := omega) [hI, hes, hfs]; (refine And.intro ?_ ?_) <;> (first | omega | assumption)))); conv => arg 4; cbv))
    all_goals
      ((with_reducible refine on_ret ?_); refine Ended_of rfl ?_; (conv => lhs; cbv); rw [cmpR_end (by omega) (by omega) (by omega)]; first | (rw [← cmpI_len]; simp (disch := omega) [hI, hes, hfs]; done) | ((repeat' split) <;> first | rfl | (exfalso; omega)))
  | succ k ih =>
    intro i hk
    refine W_go (Y := (Tab.calls [])) xok (TabOk.calls mixed trivial) Try.func117 rfl 2000 _ hI ?_; (conv => arg 4; cbv)
    repeat' (first | ((with_reducible refine on_eqs ?_ ?_); (focus (with_reducible rfl)); conv => arg 4; cbv) | (with_reducible refine on_both ?_ ?_ <;> (conv => arg 4; cbv)) | (with_reducible refine on_true (by assumption) ?_; conv => arg 4; cbv) | (with_reducible refine on_false (by assumption) ?_; conv => arg 4; cbv) | (with_reducible refine on_ask (fun g => ?_) (fun g => ?_) <;> (have h := g) <;> (try simp (disch := omega) [hI, hes, hfs, -List.length_eq_zero_iff] at h) <;> (try (exfalso; omega)) <;> (conv => arg 4; cbv)) | ((with_reducible refine on_must ?_ ?_); (focus (first | (simp (disch := omega) [hI, hes, hfs]; done) | (simp (disch := omega) [hI, hes, hfs]; omega) | (simp (disch := omega) [hI, hes, hfs]; assumption) | (simp (disch := omega) [hI, hes, hfs]; (refine And.intro ?_ ?_) <;> (first | omega | assumption)))); conv => arg 4; cbv))
    all_goals first
      | ((with_reducible refine on_ret ?_); refine Ended_of rfl ?_; (conv => lhs; cbv); rw [cmpR_step (by omega) (by omega)]; first | (rw [cmpI_ne (by assumption)]; simp (disch := omega) [hI, hes, hfs]; done) | ((repeat' split) <;> first | rfl | (exfalso; omega)))
      | (have e : cmpR (l.drop i) (r.drop i) = cmpR (l.drop (i + 1)) (r.drop (i + 1)) := by
           rw [cmpR_step (by omega) (by omega)]; first | exact cmpI_eq (by assumption) | ((repeat' split) <;> first | rfl | (exfalso; omega))
         rw [e]
         (with_reducible refine on_loop ?_); simp only [List.cons_append, List.nil_append]; refine W_norm [0, 1, 5] ?_ (ih (i + 1) (by omega)); (conv => lhs; cbv)
         first | (simp (disch := omega) [hI, hes, hfs, *]; done) | ((try simp (disch := omega) [hI, hes, hfs, *]); (repeat' split); all_goals (first | rfl | omega | (simp_all; done) | (exfalso; simp_all; omega))))
theorem ok117 (l r : List Int) (hl : l.length < 4611686018427387904) (hr : r.length < 4611686018427387904) : Ok0 Try.prog 117 [(pL tI64).enc l, (pL tI64).enc r] (.one (.pv (.sc (.int .i64 (cmpR l r))))) [] 0 := by
  obtain ⟨I, hI⟩ : ∃ I, I = real := ⟨_, rfl⟩
  have hm : True := trivial
  obtain ⟨es, hes⟩ : ∃ es, es = tI64.encs l := ⟨_, rfl⟩
  obtain ⟨fs, hfs⟩ : ∃ es, es = tI64.encs r := ⟨_, rfl⟩
  show Ok0 Try.prog 117 [.one (.pv (.sl false 1 (tI64.encs l))), .one (.pv (.sl false 1 (tI64.encs r)))] _ [] 0
  rw [← hes, ← hfs]
  refine Ok0_run (Y := (Tab.calls [])) xok (TabOk.calls mixed trivial) Try.func117 rfl rfl rfl 2000 hI fun w Xs => ?_; (conv => arg 4; cbv)
  repeat' (first | ((with_reducible refine on_eqs ?_ ?_); (focus (with_reducible rfl)); conv => arg 4; cbv) | (with_reducible refine on_both ?_ ?_ <;> (conv => arg 4; cbv)) | (with_reducible refine on_true (by assumption) ?_; conv => arg 4; cbv) | (with_reducible refine on_false (by assumption) ?_; conv => arg 4; cbv) | (with_reducible refine on_ask (fun g => ?_) (fun g => ?_) <;> (have h := g) <;> (try simp (disch := omega) [hI, hes, hfs, -List.length_eq_zero_iff] at h) <;> (try (exfalso; omega)) <;> (conv => arg 4; cbv)) | ((with_reducible refine on_must ?_ ?_); (focus (first | (simp (disch := omega) [hI, hes, hfs]; done) | (simp (disch := omega) [hI, hes, hfs]; omega) | (simp (disch := omega) [hI, hes, hfs]; assumption) | (simp (disch := omega) [hI, hes, hfs]; (refine And.intro ?_ ?_) <;> (first | omega | assumption)))); conv => arg 4; cbv))
  (with_reducible refine on_loop ?_); simp only [List.cons_append, List.nil_append]; refine W_norm [0, 1, 5] ?_ (L117 l r hl hr es fs hes hfs _ 0 rfl); (conv => lhs; cbv)
  first | (simp (disch := omega) [hI, hes, hfs, *]; done) | ((try simp (disch := omega) [hI, hes, hfs, *]); (repeat' split); all_goals (first | rfl | omega | (simp_all; done) | (exfalso; simp_all; omega)))

theorem s117 {I : Ops} (hI : I = real) {e : En} (he : e = en117) : Sound Try.prog 117 (callE I e sh117) := by
  refine Sound.mkE ent117 hI (fun _ => rfl) ?_ he
  rintro ⟨l, r, ⟨⟩⟩ hp
  
  have hp : (decide (l.length < 4611686018427387904) && decide (r.length < 4611686018427387904)) = true := hp
  simp only [Bool.and_eq_true, decide_eq_true_eq] at hp
  exact ok117 l r hp.1 hp.2
def an185 : An (List Int × List Int × Unit) where
  pre t := decide (t.1.length < 4611686018427387904) && decide (t.2.1.length < 4611686018427387904)
  i _ t := cmpR t.1 t.2.1
noncomputable def en185 : En := mkE (parsC (pL tI64) (parsC (pL tI64) pars0)) an185
def sh185 : Shp := fun I i b l s => .ok (.one (.pv (.sc (.int .i64 (i 0)))), [], 0)
theorem ent185 : Enters Try.prog 185 := ⟨Try.f185, Try.func185, by kernel_rfl, by kernel_rfl⟩

theorem L185 {w : World} {Xs : Nat → Prop} (l r : List Int) (hl : l.length < 4611686018427387904) (hr : r.length < 4611686018427387904) (es fs : List (List PV)) (hes : es = tI64.encs l) (hfs : fs = tI64.encs r) (m : Int) (hm : m = min (l.length : Int) r.length) :
    ∀ (k i : Nat), k + i = min l.length r.length → W Try.prog 185 Try.f185 (Ent0 w Xs) (Back (Ent0 w Xs) (.one (.pv (.sc (.int .i64 (cmpR (l.drop i) (r.drop i)))))) [] 0) (place (bodyOf Try.f185) [1,0,1,0,0] [])
      ⟨[(0, .one (.pv (.sl false 1 es))), (1, .one (.pv (.sl false 1 fs))), (11, .one (.pv (.sc (.int .i64 m)))), (12, .one (.pv (.sc (.int .i64 i))))], [], 0⟩ := by
  obtain ⟨I, hI⟩ : ∃ I, I = real := ⟨_, rfl⟩; obtain ⟨K, hK⟩ : ∃ K : FuncId → En, K = fun g => (lk g [(228, en228), (229, en229)]).getD default := ⟨_, rfl⟩; have k228 : K 228 = en228 := (by subst hK; rfl); have k229 : K 229 = en229 := (by subst hK; rfl); clear hK
  intro k
  induction k with
  | zero =>
    intro i hk
    refine W_go (Y := (Tab.calls [(228, true, callRd I (callE I (K 228) sh228)), (229, true, callRd I (callE I (K 229) sh229))])) xok (TabOk.calls mixed ⟨EntryOk.rd (s228 hI k228) hI, fun _ => callRd_quiet _ _, ⟨EntryOk.rd (s229 hI k229) hI, fun _ => callRd_quiet _ _, trivial⟩⟩) Try.func185 rfl 2000 _ hI ?_; (conv => arg 4; cbv)
    repeat' (first | ((with_reducible refine on_eqs ?_ ?_); (focus (with_reducible rfl)); conv => arg 4; cbv) | (with_reducible refine on_both ?_ ?_ <;> (conv => arg 4; cbv)) | (with_reducible refine on_true (by assumption) ?_; conv => arg 4; cbv) | (with_reducible refine on_false (by assumption) ?_; conv => arg 4; cbv) | (with_reducible refine on_ask (fun g => ?_) (fun g => ?_) <;> (have h := g) <;> (try simp (disch := omega) [hI, k228, en228, an228, k229, en229, an229, hes, hfs, hm, -List.length_eq_zero_iff] at h) <;> (try (exfalso; omega)) <;> (conv => arg 4; cbv)) | ((with_reducible refine on_must ?_ ?_); (focus (first | (simp (disch := omega) [hI, k228, en228, an228, k229, en229, an229, hes, hfs, hm]; done) | (simp (disch := omega) [hI, k228, en228, an228, k229, en229, an229, hes, hfs, hm]; omega) | (simp (disch := omega) [hI, k228, en228, an228, k229, en229, an229, hes, hfs, hm]; assumption) | (simp (disch := omega) [hI, k228, en228, an228, k229, en229, an229, hes, hfs, hm]; (refine And.intro ?_ ?_) <;> (first | omega | assumption)))); conv => arg 4; cbv))
    all_goals
      ((with_reducible refine on_ret ?_); refine Ended_of rfl ?_; (conv => lhs; cbv); rw [cmpR_end (by omega) (by omega) (by omega)]; first | (rw [← cmpI_len]; simp (disch := omega) [hI, k228, en228, an228, k229, en229, an229, hes, hfs, hm]; done) | ((repeat' split) <;> first | rfl | (exfalso; omega)))
  | succ k ih =>
    intro i hk
    refine W_go (Y := (Tab.calls [(228, true, callRd I (callE I (K 228) sh228)), (229, true, callRd I (callE I (K 229) sh229))])) xok (TabOk.calls mixed ⟨EntryOk.rd (s228 hI k228) hI, fun _ => callRd_quiet _ _, ⟨EntryOk.rd (s229 hI k229) hI, fun _ => callRd_quiet _ _, trivial⟩⟩) Try.func185 rfl 2000 _ hI ?_; (conv => arg 4; cbv)
    repeat' (first | ((with_reducible refine on_eqs ?_ ?_); (focus (with_reducible rfl)); conv => arg 4; cbv) | (with_reducible refine on_both ?_ ?_ <;> (conv => arg 4; cbv)) | (with_reducible refine on_true (by assumption) ?_; conv => arg 4; cbv) | (with_reducible refine on_false (by assumption) ?_; conv => arg 4; cbv) | (with_reducible refine on_ask (fun g => ?_) (fun g => ?_) <;> (have h := g) <;> (try simp (disch := omega) [hI, k228, en228, an228, k229, en229, an229, hes, hfs, hm, -List.length_eq_zero_iff] at h) <;> (try (exfalso; omega)) <;> (conv => arg 4; cbv)) | ((with_reducible refine on_must ?_ ?_); (focus (first | (simp (disch := omega) [hI, k228, en228, an228, k229, en229, an229, hes, hfs, hm]; done) | (simp (disch := omega) [hI, k228, en228, an228, k229, en229, an229, hes, hfs, hm]; omega) | (simp (disch := omega) [hI, k228, en228, an228, k229, en229, an229, hes, hfs, hm]; assumption) | (simp (disch := omega) [hI, k228, en228, an228, k229, en229, an229, hes, hfs, hm]; (refine And.intro ?_ ?_) <;> (first | omega | assumption)))); conv => arg 4; cbv))
    all_goals first
      | ((with_reducible refine on_ret ?_); refine Ended_of rfl ?_; (conv => lhs; cbv); rw [cmpR_step (by omega) (by omega)]; first | (rw [cmpI_ne (by assumption)]; simp (disch := omega) [hI, k228, en228, an228, k229, en229, an229, hes, hfs, hm]; done) | ((repeat' split) <;> first | rfl | (exfalso; omega)))
      | (have e : cmpR (l.drop i) (r.drop i) = cmpR (l.drop (i + 1)) (r.drop (i + 1)) := by
           rw [cmpR_step (by omega) (by omega)]; first | exact cmpI_eq (by assumption) | ((repeat' split) <;> first | rfl | (exfalso; omega))
         rw [e]
         (with_reducible refine on_loop ?_); simp only [List.cons_append, List.nil_append]; refine W_norm [0, 1, 11, 12] ?_ (ih (i + 1) (by omega)); (conv => lhs; cbv)
         first | (simp (disch := omega) [hI, k228, en228, an228, k229, en229, an229, hes, hfs, hm, *]; done) | ((try simp (disch := omega) [hI, k228, en228, an228, k229, en229, an229, hes, hfs, hm, *]); (repeat' split); all_goals (first | rfl | omega | (simp_all; done) | (exfalso; simp_all; omega))))
theorem ok185 (l r : List Int) (hl : l.length < 4611686018427387904) (hr : r.length < 4611686018427387904) : Ok0 Try.prog 185 [(pL tI64).enc l, (pL tI64).enc r] (.one (.pv (.sc (.int .i64 (cmpR l r))))) [] 0 := by
  obtain ⟨I, hI⟩ : ∃ I, I = real := ⟨_, rfl⟩; obtain ⟨K, hK⟩ : ∃ K : FuncId → En, K = fun g => (lk g [(228, en228), (229, en229)]).getD default := ⟨_, rfl⟩; have k228 : K 228 = en228 := (by subst hK; rfl); have k229 : K 229 = en229 := (by subst hK; rfl); clear hK
  have hm : True := trivial
  obtain ⟨es, hes⟩ : ∃ es, es = tI64.encs l := ⟨_, rfl⟩
  obtain ⟨fs, hfs⟩ : ∃ es, es = tI64.encs r := ⟨_, rfl⟩
  show Ok0 Try.prog 185 [.one (.pv (.sl false 1 (tI64.encs l))), .one (.pv (.sl false 1 (tI64.encs r)))] _ [] 0
  rw [← hes, ← hfs]
  refine Ok0_run (Y := (Tab.calls [(228, true, callRd I (callE I (K 228) sh228)), (229, true, callRd I (callE I (K 229) sh229))])) xok (TabOk.calls mixed ⟨EntryOk.rd (s228 hI k228) hI, fun _ => callRd_quiet _ _, ⟨EntryOk.rd (s229 hI k229) hI, fun _ => callRd_quiet _ _, trivial⟩⟩) Try.func185 rfl rfl rfl 2000 hI fun w Xs => ?_; (conv => arg 4; cbv)
  repeat' (first | ((with_reducible refine on_eqs ?_ ?_); (focus (with_reducible rfl)); conv => arg 4; cbv) | (with_reducible refine on_both ?_ ?_ <;> (conv => arg 4; cbv)) | (with_reducible refine on_true (by assumption) ?_; conv => arg 4; cbv) | (with_reducible refine on_false (by assumption) ?_; conv => arg 4; cbv) | (with_reducible refine on_ask (fun g => ?_) (fun g => ?_) <;> (have h := g) <;> (try simp (disch := omega) [hI, k228, en228, an228, k229, en229, an229, hes, hfs, hm, -List.length_eq_zero_iff] at h) <;> (try (exfalso; omega)) <;> (conv => arg 4; cbv)) | ((with_reducible refine on_must ?_ ?_); (focus (first | (simp (disch := omega) [hI, k228, en228, an228, k229, en229, an229, hes, hfs, hm]; done) | (simp (disch := omega) [hI, k228, en228, an228, k229, en229, an229, hes, hfs, hm]; omega) | (simp (disch := omega) [hI, k228, en228, an228, k229, en229, an229, hes, hfs, hm]; assumption) | (simp (disch := omega) [hI, k228, en228, an228, k229, en229, an229, hes, hfs, hm]; (refine And.intro ?_ ?_) <;> (first | omega | assumption)))); conv => arg 4; cbv))
  (with_reducible refine on_loop ?_); simp only [List.cons_append, List.nil_append]; refine W_norm [0, 1, 11, 12] ?_ (L185 l r hl hr es fs hes hfs _ rfl _ 0 rfl); (conv => lhs; cbv)
  first | (simp (disch := omega) [hI, k228, en228, an228, k229, en229, an229, hes, hfs, hm, *]; done) | ((try simp (disch := omega) [hI, k228, en228, an228, k229, en229, an229, hes, hfs, hm, *]); (repeat' split); all_goals (first | rfl | omega | (simp_all; done) | (exfalso; simp_all; omega)))

theorem s185 {I : Ops} (hI : I = real) {e : En} (he : e = en185) : Sound Try.prog 185 (callE I e sh185) := by
  refine Sound.mkE ent185 hI (fun _ => rfl) ?_ he
  rintro ⟨l, r, ⟨⟩⟩ hp
  
  have hp : (decide (l.length < 4611686018427387904) && decide (r.length < 4611686018427387904)) = true := hp
  simp only [Bool.and_eq_true, decide_eq_true_eq] at hp
  exact ok185 l r hp.1 hp.2
end Go.Proofs.Try
