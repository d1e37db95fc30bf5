/- Contracts. -/
import Derived.Test.YtafdnkachndacaaLwE
set_option linter.unusedSimpArgs false
set_option linter.unusedVariables false
namespace Go.Proofs.Try
open Go Go.Aix
set_option maxRecDepth 100000
set_option maxHeartbeats 4000000
set_option linter.unusedSimpArgs false
set_option linter.unusedVariables false
theorem ent91 : Enters Try.prog 91 := ⟨Try.f91, Try.func91, by kernel_rfl, by kernel_rfl⟩
theorem s91 {I : Ops} (hI : I = real)  : Sound Try.prog 91 (inl X I (Tab.calls []) Try.f91) :=
  Sound.inl (Y := (Tab.calls [])) xok (TabOk.calls mixed trivial) ent91 Try.func91 rfl rfl hI
theorem ent93 : Enters Try.prog 93 := ⟨Try.f93, Try.func93, by kernel_rfl, by kernel_rfl⟩
theorem s93 {I : Ops} (hI : I = real)  : Sound Try.prog 93 (inl X I (Tab.calls [(91, true, callRd I (inl X I (Tab.calls []) Try.f91))]) Try.f93) :=
  Sound.inl (Y := (Tab.calls [(91, true, callRd I (inl X I (Tab.calls []) Try.f91))])) xok (TabOk.calls mixed ⟨EntryOk.rd (s91 hI) hI, fun _ => callRd_quiet _ _, trivial⟩) ent93 Try.func93 rfl rfl hI
theorem ent189 : Enters Try.prog 189 := ⟨Try.f189, Try.func189, by kernel_rfl, by kernel_rfl⟩
theorem s189 {I : Ops} (hI : I = real)  : Sound Try.prog 189 (inl X I (Tab.calls []) Try.f189) :=
  Sound.inl (Y := (Tab.calls [])) xok (TabOk.calls mixed trivial) ent189 Try.func189 rfl rfl hI
def ahead (a b : CountV) : Prop := if a.place = b.place then a.epoch < b.epoch else a.place < b.place
instance (a b : CountV) : Decidable (ahead a b) := by unfold ahead; infer_instance
def newsLp (l : List CountV) : Nat → Nat → Int
  | 0, _ => 0
  | k + 1, i => if ¬ (0 ≤ (nth l i).place ∧ (nth l i).place ≤ 15) ∨ ¬ (0 ≤ (nth l i).epoch ∧ (nth l i).epoch ≤ 1000) ∨ ¬ (-1000000000000 ≤ (nth l i).n ∧ (nth l i).n ≤ 1000000000000) ∨ (nth l i).n = 0 then 3
    else if 0 < i ∧ ¬ ahead (nth l (i - 1)) (nth l i) then 1
    else newsLp l k (i + 1)
def newsF (l : List CountV) : Int := if 200 < l.length then 2 else newsLp l l.length 0

def an125 : An (List CountV × Unit) where
  i _ t := newsF t.1
noncomputable def en125 : En := mkE (parsC (pL tCount) pars0) an125
def sh125 : Shp := fun I i b l s => .ok (.one (.pv (.sc (.int .i64 (i 0)))), [], 0)
theorem ent125 : Enters Try.prog 125 := ⟨Try.f125, Try.func125, by kernel_rfl, by kernel_rfl⟩

theorem L125 {w : World} {Xs : Nat → Prop} (l : List CountV) (hl : l.length ≤ 200) (es : List (List PV)) (hes : es = tCount.encs l) :
    ∀ (k i : Nat), k + i = l.length → W Try.prog 125 Try.f125 (Ent0 w Xs) (Back (Ent0 w Xs) (.one (.pv (.sc (.int .i64 (newsLp l k i))))) [] 0) (place (bodyOf Try.f125) [1,1,0,1,0,0] [])
      ⟨[(0, .one (.pv (.sl false 3 es))), (3, .one (.pv (.sc (.int .i64 i))))], [], 0⟩ := by
  obtain ⟨I, hI⟩ : ∃ I, I = real := ⟨_, rfl⟩
  intro k
  induction k with
  | zero =>
    intro i hk
    have hi1 : ((i : Int) - 1).toNat = i - 1 := by omega
    refine W_go (Y := (Tab.calls [(91, true, callRd I (inl X I (Tab.calls []) Try.f91)), (93, true, callRd I (inl X I (Tab.calls [(91, true, callRd I (inl X I (Tab.calls []) Try.f91))]) Try.f93)), (189, true, callRd I (inl X I (Tab.calls []) Try.f189))])) xok (TabOk.calls mixed ⟨EntryOk.rd (s91 hI) hI, fun _ => callRd_quiet _ _, ⟨EntryOk.rd (s93 hI) hI, fun _ => callRd_quiet _ _, ⟨EntryOk.rd (s189 hI) hI, fun _ => callRd_quiet _ _, trivial⟩⟩⟩) Try.func125 rfl 2000 _ hI ?_; (conv => arg 4; cbv)
    repeat' (first | ((with_reducible refine on_eqs ?_ ?_); (focus (with_reducible rfl)); conv => arg 4; cbv) | (with_reducible refine on_both ?_ ?_ <;> (conv => arg 4; cbv)) | (with_reducible refine on_true (by assumption) ?_; conv => arg 4; cbv) | (with_reducible refine on_false (by assumption) ?_; conv => arg 4; cbv) | (with_reducible refine on_ask (fun g => ?_) (fun g => ?_) <;> (have h := g) <;> (try simp (disch := omega) [hI, hes, hi1, -List.length_eq_zero_iff] at h) <;> (try (exfalso; omega)) <;> (conv => arg 4; cbv)) | ((with_reducible refine on_must ?_ ?_); (focus (first | (simp (disch := omega) [hI, hes, hi1]; done) | (simp (disch := omega) [hI, hes, hi1]; omega) | (simp (disch := omega) [hI, hes, hi1]; assumption) | (simp (disch := omega) [hI, hes, hi1]; (refine And.intro ?_ ?_) <;> (first | omega | assumption)))); conv => arg 4; cbv))
    (with_reducible refine on_ret ?_); refine Ended_of rfl ?_; (conv => lhs; cbv)
    rfl
  | succ k ih =>
    intro i hk
    have hi1 : ((i : Int) - 1).toNat = i - 1 := by omega
    refine W_go (Y := (Tab.calls [(91, true, callRd I (inl X I (Tab.calls []) Try.f91)), (93, true, callRd I (inl X I (Tab.calls [(91, true, callRd I (inl X I (Tab.calls []) Try.f91))]) Try.f93)), (189, true, callRd I (inl X I (Tab.calls []) Try.f189))])) xok (TabOk.calls mixed ⟨EntryOk.rd (s91 hI) hI, fun _ => callRd_quiet _ _, ⟨EntryOk.rd (s93 hI) hI, fun _ => callRd_quiet _ _, ⟨EntryOk.rd (s189 hI) hI, fun _ => callRd_quiet _ _, trivial⟩⟩⟩) Try.func125 rfl 2000 _ hI ?_; (conv => arg 4; cbv)
    repeat' (first | ((with_reducible refine on_eqs ?_ ?_); (focus (with_reducible rfl)); conv => arg 4; cbv) | (with_reducible refine on_both ?_ ?_ <;> (conv => arg 4; cbv)) | (with_reducible refine on_true (by assumption) ?_; conv => arg 4; cbv) | (with_reducible refine on_false (by assumption) ?_; conv => arg 4; cbv) | (with_reducible refine on_ask (fun g => ?_) (fun g => ?_) <;> (have h := g) <;> (try simp (disch := omega) [hI, hes, hi1, -List.length_eq_zero_iff] at h) <;> (try (exfalso; omega)) <;> (conv => arg 4; cbv)) | ((with_reducible refine on_must ?_ ?_); (focus (first | (simp (disch := omega) [hI, hes, hi1]; done) | (simp (disch := omega) [hI, hes, hi1]; omega) | (simp (disch := omega) [hI, hes, hi1]; assumption) | (simp (disch := omega) [hI, hes, hi1]; (refine And.intro ?_ ?_) <;> (first | omega | assumption)))); conv => arg 4; cbv))
    all_goals first
      | ((with_reducible refine on_ret ?_); refine Ended_of rfl ?_; (conv => lhs; cbv); rw [newsLp, if_pos (by omega)]; done)
      | (have hc : 0 < i ∧ ¬ ahead (nth l (i - 1)) (nth l i) := ⟨by omega, by unfold ahead; split <;> omega⟩
         have e : newsLp l (k + 1) i = 1 := by rw [newsLp, if_neg (by omega), if_pos hc]
         rw [e]
         (with_reducible refine on_ret ?_); refine Ended_of rfl ?_; (conv => lhs; cbv))
      | (have e : newsLp l (k + 1) i = newsLp l k (i + 1) := by
           rw [newsLp, if_neg (by omega), if_neg]
           rintro ⟨h0, h1⟩
           unfold ahead at h1
           split at h1 <;> omega
         rw [e]
         (with_reducible refine on_loop ?_); simp only [List.cons_append, List.nil_append]; refine W_norm [0, 3] ?_ (ih (i + 1) (by omega)); (conv => lhs; cbv)
         first | (simp (disch := omega) [hI, hes, hi1, *]; done) | ((try simp (disch := omega) [hI, hes, hi1, *]); (repeat' split); all_goals (first | rfl | omega | (simp_all; done) | (exfalso; simp_all; omega))))
theorem ok125 (l : List CountV) : Ok0 Try.prog 125 [(pL tCount).enc l] (.one (.pv (.sc (.int .i64 (newsF l))))) [] 0 := by
  obtain ⟨I, hI⟩ : ∃ I, I = real := ⟨_, rfl⟩
  have hi1 : True := trivial
  obtain ⟨es, hes⟩ : ∃ es, es = tCount.encs l := ⟨_, rfl⟩
  show Ok0 Try.prog 125 [.one (.pv (.sl false 3 (tCount.encs l)))] _ [] 0
  rw [← hes]
  refine Ok0_run (Y := (Tab.calls [(91, true, callRd I (inl X I (Tab.calls []) Try.f91)), (93, true, callRd I (inl X I (Tab.calls [(91, true, callRd I (inl X I (Tab.calls []) Try.f91))]) Try.f93)), (189, true, callRd I (inl X I (Tab.calls []) Try.f189))])) xok (TabOk.calls mixed ⟨EntryOk.rd (s91 hI) hI, fun _ => callRd_quiet _ _, ⟨EntryOk.rd (s93 hI) hI, fun _ => callRd_quiet _ _, ⟨EntryOk.rd (s189 hI) hI, fun _ => callRd_quiet _ _, trivial⟩⟩⟩) Try.func125 rfl rfl rfl 2000 hI fun w Xs => ?_; (conv => arg 4; cbv)
  repeat' (first | ((with_reducible refine on_eqs ?_ ?_); (focus (with_reducible rfl)); conv => arg 4; cbv) | (with_reducible refine on_both ?_ ?_ <;> (conv => arg 4; cbv)) | (with_reducible refine on_true (by assumption) ?_; conv => arg 4; cbv) | (with_reducible refine on_false (by assumption) ?_; conv => arg 4; cbv) | (with_reducible refine on_ask (fun g => ?_) (fun g => ?_) <;> (have h := g) <;> (try simp (disch := omega) [hI, hes, hi1, -List.length_eq_zero_iff] at h) <;> (try (exfalso; omega)) <;> (conv => arg 4; cbv)) | ((with_reducible refine on_must ?_ ?_); (focus (first | (simp (disch := omega) [hI, hes, hi1]; done) | (simp (disch := omega) [hI, hes, hi1]; omega) | (simp (disch := omega) [hI, hes, hi1]; assumption) | (simp (disch := omega) [hI, hes, hi1]; (refine And.intro ?_ ?_) <;> (first | omega | assumption)))); conv => arg 4; cbv))
  · (with_reducible refine on_ret ?_); refine Ended_of rfl ?_; (conv => lhs; cbv); rw [newsF, if_pos (by omega)]
  · rw [newsF, if_neg (by omega)]
    (with_reducible refine on_loop ?_); simp only [List.cons_append, List.nil_append]; refine W_norm [0, 3] ?_ (L125 l (by omega) es hes l.length 0 rfl); (conv => lhs; cbv)
    first | (simp (disch := omega) [hI, hes, hi1, *]; done) | ((try simp (disch := omega) [hI, hes, hi1, *]); (repeat' split); all_goals (first | rfl | omega | (simp_all; done) | (exfalso; simp_all; omega)))

theorem s125 {I : Ops} (hI : I = real) {e : En} (he : e = en125) : Sound Try.prog 125 (callE I e sh125) := by
  refine Sound.mkE ent125 hI (fun _ => rfl) ?_ he
  rintro ⟨l, ⟨⟩⟩ hp
  exact ok125 l
theorem ent240 : Enters Try.prog 240 := ⟨Try.f240, Try.func240, by kernel_rfl, by kernel_rfl⟩
theorem s240 {I : Ops} (hI : I = real)  : Sound Try.prog 240 (inl X I (Tab.calls []) Try.f240) :=
  Sound.inl (Y := (Tab.calls [])) xok (TabOk.calls mixed trivial) ent240 Try.func240 rfl rfl hI
def cmpI (a b : Int) : Int := if a < b then -1 else if b < a then 1 else 0
def orL : List Int → Int
  | [] => 0
  | c :: r => if c = 0 then orL r else c

def an228 : An (Int × Int × Unit) where
  i _ t := cmpI t.1 t.2.1
noncomputable def en228 : En := mkE (parsC pI (parsC pI pars0)) an228
def sh228 : Shp := fun I i b l s => .ok (.one (.pv (.sc (.int .i64 (i 0)))), [], 0)
theorem ent228 : Enters Try.prog 228 := ⟨Try.f228, Try.func228, by kernel_rfl, by kernel_rfl⟩

theorem ok228 (a b : Int) : Ok0 Try.prog 228 [pI.enc a, pI.enc b] (.one (.pv (.sc (.int .i64 (cmpI a b))))) [] 0 := by
  obtain ⟨I, hI⟩ : ∃ I, I = real := ⟨_, rfl⟩
  show Ok0 Try.prog 228 [.one (.pv (.sc (.int .i64 a))), .one (.pv (.sc (.int .i64 b)))] _ [] 0
  refine Ok0_run (Y := (Tab.calls [(240, true, callRd I (inl X I (Tab.calls []) Try.f240))])) xok (TabOk.calls mixed ⟨EntryOk.rd (s240 hI) hI, fun _ => callRd_quiet _ _, trivial⟩) Try.func228 rfl rfl rfl 2000 hI fun w Xs => ?_; (conv => arg 4; cbv)
  repeat' (first | ((with_reducible refine on_eqs ?_ ?_); (focus (with_reducible rfl)); conv => arg 4; cbv) | (with_reducible refine on_both ?_ ?_ <;> (conv => arg 4; cbv)) | (with_reducible refine on_true (by assumption) ?_; conv => arg 4; cbv) | (with_reducible refine on_false (by assumption) ?_; conv => arg 4; cbv) | (with_reducible refine on_ask (fun g => ?_) (fun g => ?_) <;> (have h := g) <;> (try simp (disch := omega) [hI, -List.length_eq_zero_iff] at h) <;> (try (exfalso; omega)) <;> (conv => arg 4; cbv)) | ((with_reducible refine on_must ?_ ?_); (focus (first | (simp (disch := omega) [hI]; done) | (simp (disch := omega) [hI]; omega) | (simp (disch := omega) [hI]; assumption) | (simp (disch := omega) [hI]; (refine And.intro ?_ ?_) <;> (first | omega | assumption)))); conv => arg 4; cbv))
  · have e : cmpI a b = -1 := by unfold cmpI; rw [if_pos (by omega)]
    rw [e]; (with_reducible refine on_ret ?_); refine Ended_of rfl ?_; (conv => lhs; cbv)
  · have e : cmpI a b = 1 := by unfold cmpI; rw [if_neg (by omega), if_pos (by omega)]
    rw [e]; (with_reducible refine on_ret ?_); refine Ended_of rfl ?_; (conv => lhs; cbv)
  · have e : cmpI a b = 0 := by unfold cmpI; rw [if_neg (by omega), if_neg (by omega)]
    rw [e]; (with_reducible refine on_ret ?_); refine Ended_of rfl ?_; (conv => lhs; cbv)

theorem s228 {I : Ops} (hI : I = real) {e : En} (he : e = en228) : Sound Try.prog 228 (callE I e sh228) := by
  refine Sound.mkE ent228 hI (fun _ => rfl) ?_ he
  rintro ⟨a, b, ⟨⟩⟩ hp
  exact ok228 a b
def an231 : An (List Int × Unit) where
  pre t := decide (t.1.length ≤ 1000)
  i _ t := orL t.1
noncomputable def en231 : En := mkE (parsC (pL tI64) pars0) an231
def sh231 : Shp := fun I i b l s => .ok (.one (.pv (.sc (.int .i64 (i 0)))), [], 0)
theorem ent231 : Enters Try.prog 231 := ⟨Try.f231, Try.func231, by kernel_rfl, by kernel_rfl⟩

theorem L231 {w : World} {Xs : Nat → Prop} (l : List Int) (hl : l.length ≤ 1000) (es : List (List PV)) (hes : es = tI64.encs l) (nl : Nat) (hnl : nl = l.length) :
    ∀ (k i : Nat), k + i = l.length → W Try.prog 231 Try.f231 (Ent0 w Xs) (Back (Ent0 w Xs) (.one (.pv (.sc (.int .i64 (orL (l.drop i)))))) [] 0) (place (bodyOf Try.f231) [1,1,0,1,0,0] [])
      ⟨[(3, .one (.pv (.sc (.int .i64 0)))), (6, .one (.pv (.sl false 1 es))), (7, .one (.pv (.sc (.int .i64 nl)))), (8, .one (.pv (.sc (.int .i64 i))))], [], 0⟩ := by
  obtain ⟨I, hI⟩ : ∃ I, I = real := ⟨_, rfl⟩
  intro k
  induction k with
  | zero =>
    intro i hk
    have h1 : l.drop i = [] := List.drop_of_length_le (by omega)
    rw [h1, orL]
    refine W_go (Y := (Tab.calls [])) xok (TabOk.calls mixed trivial) Try.func231 rfl 2000 _ hI ?_; (conv => arg 4; cbv)
    repeat' (first | ((with_reducible refine on_eqs ?_ ?_); (focus (with_reducible rfl)); conv => arg 4; cbv) | (with_reducible refine on_both ?_ ?_ <;> (conv => arg 4; cbv)) | (with_reducible refine on_true (by assumption) ?_; conv => arg 4; cbv) | (with_reducible refine on_false (by assumption) ?_; conv => arg 4; cbv) | (with_reducible refine on_ask (fun g => ?_) (fun g => ?_) <;> (have h := g) <;> (try simp (disch := omega) [hI, hes, hnl, -List.length_eq_zero_iff] at h) <;> (try (exfalso; omega)) <;> (conv => arg 4; cbv)) | ((with_reducible refine on_must ?_ ?_); (focus (first | (simp (disch := omega) [hI, hes, hnl]; done) | (simp (disch := omega) [hI, hes, hnl]; omega) | (simp (disch := omega) [hI, hes, hnl]; assumption) | (simp (disch := omega) [hI, hes, hnl]; (refine And.intro ?_ ?_) <;> (first | omega | assumption)))); conv => arg 4; cbv))
    (with_reducible refine on_ret ?_); refine Ended_of rfl ?_; (conv => lhs; cbv)
  | succ k ih =>
    intro i hk
    have hd : l.drop i = nth l i :: l.drop (i + 1) := nth_drop (by omega)
    refine W_go (Y := (Tab.calls [])) xok (TabOk.calls mixed trivial) Try.func231 rfl 2000 _ hI ?_; (conv => arg 4; cbv)
    repeat' (first | ((with_reducible refine on_eqs ?_ ?_); (focus (with_reducible rfl)); conv => arg 4; cbv) | (with_reducible refine on_both ?_ ?_ <;> (conv => arg 4; cbv)) | (with_reducible refine on_true (by assumption) ?_; conv => arg 4; cbv) | (with_reducible refine on_false (by assumption) ?_; conv => arg 4; cbv) | (with_reducible refine on_ask (fun g => ?_) (fun g => ?_) <;> (have h := g) <;> (try simp (disch := omega) [hI, hes, hnl, -List.length_eq_zero_iff] at h) <;> (try (exfalso; omega)) <;> (conv => arg 4; cbv)) | ((with_reducible refine on_must ?_ ?_); (focus (first | (simp (disch := omega) [hI, hes, hnl]; done) | (simp (disch := omega) [hI, hes, hnl]; omega) | (simp (disch := omega) [hI, hes, hnl]; assumption) | (simp (disch := omega) [hI, hes, hnl]; (refine And.intro ?_ ?_) <;> (first | omega | assumption)))); conv => arg 4; cbv))
    · (with_reducible refine on_ret ?_); refine Ended_of rfl ?_; (conv => lhs; cbv); rw [hd, orL, if_neg (by assumption)]; simp (disch := omega) [hI, hes, hnl]
    · have e : orL (l.drop i) = orL (l.drop (i + 1)) := by rw [hd, orL, if_pos (by assumption)]
      rw [e]
      (with_reducible refine on_loop ?_); simp only [List.cons_append, List.nil_append]; refine W_norm [3, 6, 7, 8] ?_ (ih (i + 1) (by omega)); (conv => lhs; cbv)
      first | (simp (disch := omega) [hI, hes, hnl, *]; done) | ((try simp (disch := omega) [hI, hes, hnl, *]); (repeat' split); all_goals (first | rfl | omega | (simp_all; done) | (exfalso; simp_all; omega)))
theorem ok231 (l : List Int) (hl : l.length ≤ 1000) : Ok0 Try.prog 231 [(pL tI64).enc l] (.one (.pv (.sc (.int .i64 (orL l))))) [] 0 := by
  obtain ⟨I, hI⟩ : ∃ I, I = real := ⟨_, rfl⟩
  have hnl : True := trivial
  obtain ⟨es, hes⟩ : ∃ es, es = tI64.encs l := ⟨_, rfl⟩
  show Ok0 Try.prog 231 [.one (.pv (.sl false 1 (tI64.encs l)))] _ [] 0
  rw [← hes]
  refine Ok0_run (Y := (Tab.calls [])) xok (TabOk.calls mixed trivial) Try.func231 rfl rfl rfl 2000 hI fun w Xs => ?_; (conv => arg 4; cbv)
  repeat' (first | ((with_reducible refine on_eqs ?_ ?_); (focus (with_reducible rfl)); conv => arg 4; cbv) | (with_reducible refine on_both ?_ ?_ <;> (conv => arg 4; cbv)) | (with_reducible refine on_true (by assumption) ?_; conv => arg 4; cbv) | (with_reducible refine on_false (by assumption) ?_; conv => arg 4; cbv) | (with_reducible refine on_ask (fun g => ?_) (fun g => ?_) <;> (have h := g) <;> (try simp (disch := omega) [hI, hes, hnl, -List.length_eq_zero_iff] at h) <;> (try (exfalso; omega)) <;> (conv => arg 4; cbv)) | ((with_reducible refine on_must ?_ ?_); (focus (first | (simp (disch := omega) [hI, hes, hnl]; done) | (simp (disch := omega) [hI, hes, hnl]; omega) | (simp (disch := omega) [hI, hes, hnl]; assumption) | (simp (disch := omega) [hI, hes, hnl]; (refine And.intro ?_ ?_) <;> (first | omega | assumption)))); conv => arg 4; cbv))
  (with_reducible refine on_loop ?_); simp only [List.cons_append, List.nil_append]; refine W_norm [3, 6, 7, 8] ?_ (L231 l hl es hes _ rfl l.length 0 rfl); (conv => lhs; cbv)
  first | (simp (disch := omega) [hI, hes, hnl, *]; done) | ((try simp (disch := omega) [hI, hes, hnl, *]); (repeat' split); all_goals (first | rfl | omega | (simp_all; done) | (exfalso; simp_all; omega)))

theorem s231 {I : Ops} (hI : I = real) {e : En} (he : e = en231) : Sound Try.prog 231 (callE I e sh231) := by
  refine Sound.mkE ent231 hI (fun _ => rfl) ?_ he
  rintro ⟨l, ⟨⟩⟩ hp
  exact ok231 l (of_decide_eq_true hp)
end Go.Proofs.Try
