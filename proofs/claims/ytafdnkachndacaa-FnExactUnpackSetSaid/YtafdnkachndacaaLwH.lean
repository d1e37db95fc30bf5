/- Contracts. -/
import Derived.Test.YtafdnkachndacaaLwG
set_option linter.unusedSimpArgs false
set_option linter.unusedVariables false
namespace Go.Proofs.Try
open Go Go.Aix
set_option maxRecDepth 100000
set_option maxHeartbeats 4000000
set_option linter.unusedSimpArgs false
set_option linter.unusedVariables false
theorem ent98 : Enters Try.prog 98 := ⟨Try.f98, Try.func98, by kernel_rfl, by kernel_rfl⟩
theorem s98 {I : Ops} (hI : I = real)  : Sound Try.prog 98 (inl X I (Tab.calls []) Try.f98) :=
  Sound.inl (Y := (Tab.calls [])) xok (TabOk.calls mixed trivial) ent98 Try.func98 rfl rfl hI
theorem ent101 : Enters Try.prog 101 := ⟨Try.f101, Try.func101, by kernel_rfl, by kernel_rfl⟩
theorem s101 {I : Ops} (hI : I = real)  : Sound Try.prog 101 (inl X I (Tab.calls [(98, true, callRd I (inl X I (Tab.calls []) Try.f98))]) Try.f101) :=
  Sound.inl (Y := (Tab.calls [(98, true, callRd I (inl X I (Tab.calls []) Try.f98))])) xok (TabOk.calls mixed ⟨EntryOk.rd (s98 hI) hI, fun _ => callRd_quiet _ _, trivial⟩) ent101 Try.func101 rfl rfl hI
def an128 : An (List CountV × Unit) where
  i _ t := newsF t.1
noncomputable def en128 : En := mkE (parsC (pL tCount) pars0) an128
def sh128 : Shp := fun I i b l s => .ok (.one (.pv (.sc (.int .i64 (i 0)))), [], 0)
theorem ent128 : Enters Try.prog 128 := ⟨Try.f128, Try.func128, by kernel_rfl, by kernel_rfl⟩

theorem L128 {w : World} {Xs : Nat → Prop} (l : List CountV) (hl : l.length ≤ 200) (es : List (List PV)) (hes : es = tCount.encs l) (nl : Nat) (hnl : nl = l.length) :
    ∀ (k i : Nat), k + i = l.length → W Try.prog 128 Try.f128 (Ent0 w Xs) (Back (Ent0 w Xs) (.one (.pv (.sc (.int .i64 (newsLp l k i))))) [] 0) (place (bodyOf Try.f128) [1,1,0,1,0,0] [])
      ⟨[(0, .one (.pv (.sl false 3 es))), (8, .one (.pv (.sl false 3 es))), (9, .one (.pv (.sc (.int .i64 nl)))), (10, .one (.pv (.sc (.int .i64 i))))], [], 0⟩ := by
  obtain ⟨I, hI⟩ : ∃ I, I = real := ⟨_, rfl⟩; obtain ⟨K, hK⟩ : ∃ K : FuncId → En, K = fun g => (lk g [(191, en191)]).getD default := ⟨_, rfl⟩; have k191 : K 191 = en191 := (by subst hK; rfl); clear hK
  intro k
  induction k with
  | zero =>
    intro i hk
    have hi1 : ((i : Int) - 1).toNat = i - 1 := by omega
    refine W_go (Y := (Tab.calls [(98, true, callRd I (inl X I (Tab.calls []) Try.f98)), (101, true, callRd I (inl X I (Tab.calls [(98, true, callRd I (inl X I (Tab.calls []) Try.f98))]) Try.f101)), (191, true, callRd I (callE I (K 191) sh191))])) xok (TabOk.calls mixed ⟨EntryOk.rd (s98 hI) hI, fun _ => callRd_quiet _ _, ⟨EntryOk.rd (s101 hI) hI, fun _ => callRd_quiet _ _, ⟨EntryOk.rd (s191 hI k191) hI, fun _ => callRd_quiet _ _, trivial⟩⟩⟩) Try.func128 rfl 2000 _ hI ?_; (conv => arg 4; cbv)
    repeat' (first | ((with_reducible refine on_eqs ?_ ?_); (focus (with_reducible rfl)); conv => arg 4; cbv) | (with_reducible refine on_both ?_ ?_ <;> (conv => arg 4; cbv)) | (with_reducible refine on_true (by assumption) ?_; conv => arg 4; cbv) | (with_reducible refine on_false (by assumption) ?_; conv => arg 4; cbv) | (with_reducible refine on_ask (fun g => ?_) (fun g => ?_) <;> (have h := g) <;> (try simp (disch := omega) [hI, k191, en191, an191, hes, hi1, hnl, -List.length_eq_zero_iff] at h) <;> (try (exfalso; omega)) <;> (conv => arg 4; cbv)) | ((with_reducible refine on_must ?_ ?_); (focus (first | (simp (disch := omega) [hI, k191, en191, an191, hes, hi1, hnl]; done) | (simp (disch := omega) [hI, k191, en191, an191, hes, hi1, hnl]; omega) | (simp (disch := omega) [hI, k191, en191, an191, hes, hi1, hnl]; assumption) | (simp (disch := omega) [hI, k191, en191, an191, hes, hi1, hnl]; (refine And.intro ?_ ?_) <;> (first | omega | assumption)))); conv => arg 4; cbv))
    (with_reducible refine on_ret ?_); refine Ended_of rfl ?_; (conv => lhs; cbv)
    rfl
  | succ k ih =>
    intro i hk
    have hi1 : ((i : Int) - 1).toNat = i - 1 := by omega
    refine W_go (Y := (Tab.calls [(98, true, callRd I (inl X I (Tab.calls []) Try.f98)), (101, true, callRd I (inl X I (Tab.calls [(98, true, callRd I (inl X I (Tab.calls []) Try.f98))]) Try.f101)), (191, true, callRd I (callE I (K 191) sh191))])) xok (TabOk.calls mixed ⟨EntryOk.rd (s98 hI) hI, fun _ => callRd_quiet _ _, ⟨EntryOk.rd (s101 hI) hI, fun _ => callRd_quiet _ _, ⟨EntryOk.rd (s191 hI k191) hI, fun _ => callRd_quiet _ _, trivial⟩⟩⟩) Try.func128 rfl 2000 _ hI ?_; (conv => arg 4; cbv)
    repeat' (first | ((with_reducible refine on_eqs ?_ ?_); (focus (with_reducible rfl)); conv => arg 4; cbv) | (with_reducible refine on_both ?_ ?_ <;> (conv => arg 4; cbv)) | (with_reducible refine on_true (by assumption) ?_; conv => arg 4; cbv) | (with_reducible refine on_false (by assumption) ?_; conv => arg 4; cbv) | (with_reducible refine on_ask (fun g => ?_) (fun g => ?_) <;> (have h := g) <;> (try simp (disch := omega) [hI, k191, en191, an191, hes, hi1, hnl, -List.length_eq_zero_iff] at h) <;> (try (exfalso; omega)) <;> (conv => arg 4; cbv)) | ((with_reducible refine on_must ?_ ?_); (focus (first | (simp (disch := omega) [hI, k191, en191, an191, hes, hi1, hnl]; done) | (simp (disch := omega) [hI, k191, en191, an191, hes, hi1, hnl]; omega) | (simp (disch := omega) [hI, k191, en191, an191, hes, hi1, hnl]; assumption) | (simp (disch := omega) [hI, k191, en191, an191, hes, hi1, hnl]; (refine And.intro ?_ ?_) <;> (first | omega | assumption)))); conv => arg 4; cbv))
    all_goals first
      | ((with_reducible refine on_ret ?_); refine Ended_of rfl ?_; (conv => lhs; cbv); rw [newsLp, if_pos (by omega)]; done)
      | (have hc : 0 < i ∧ ¬ ahead (nth l (i - 1)) (nth l i) := ⟨by omega, (plc_ge _ _).1 (by assumption)⟩
         have e : newsLp l (k + 1) i = 1 := by rw [newsLp, if_neg (by omega), if_pos hc]
         rw [e]
         (with_reducible refine on_ret ?_); refine Ended_of rfl ?_; (conv => lhs; cbv))
      | (have e : newsLp l (k + 1) i = newsLp l k (i + 1) := by
           rw [newsLp, if_neg (by omega), if_neg]
           rintro ⟨h0, h1⟩
           have := (plc_ge _ _).2 h1
           omega
         rw [e]
         (with_reducible refine on_loop ?_); simp only [List.cons_append, List.nil_append]; refine W_norm [0, 8, 9, 10] ?_ (ih (i + 1) (by omega)); (conv => lhs; cbv)
         first | (simp (disch := omega) [hI, k191, en191, an191, hes, hi1, hnl, *]; done) | ((try simp (disch := omega) [hI, k191, en191, an191, hes, hi1, hnl, *]); (repeat' split); all_goals (first | rfl | omega | (simp_all; done) | (exfalso; simp_all; omega))))
theorem ok128 (l : List CountV) : Ok0 Try.prog 128 [(pL tCount).enc l] (.one (.pv (.sc (.int .i64 (newsF l))))) [] 0 := by
  obtain ⟨I, hI⟩ : ∃ I, I = real := ⟨_, rfl⟩; obtain ⟨K, hK⟩ : ∃ K : FuncId → En, K = fun g => (lk g [(191, en191)]).getD default := ⟨_, rfl⟩; have k191 : K 191 = en191 := (by subst hK; rfl); clear hK
  have hi1 : True := trivial
  have hnl : True := trivial
  obtain ⟨es, hes⟩ : ∃ es, es = tCount.encs l := ⟨_, rfl⟩
  show Ok0 Try.prog 128 [.one (.pv (.sl false 3 (tCount.encs l)))] _ [] 0
  rw [← hes]
  refine Ok0_run (Y := (Tab.calls [(98, true, callRd I (inl X I (Tab.calls []) Try.f98)), (101, true, callRd I (inl X I (Tab.calls [(98, true, callRd I (inl X I (Tab.calls []) Try.f98))]) Try.f101)), (191, true, callRd I (callE I (K 191) sh191))])) xok (TabOk.calls mixed ⟨EntryOk.rd (s98 hI) hI, fun _ => callRd_quiet _ _, ⟨EntryOk.rd (s101 hI) hI, fun _ => callRd_quiet _ _, ⟨EntryOk.rd (s191 hI k191) hI, fun _ => callRd_quiet _ _, trivial⟩⟩⟩) Try.func128 rfl rfl rfl 2000 hI fun w Xs => ?_; (conv => arg 4; cbv)
  repeat' (first | ((with_reducible refine on_eqs ?_ ?_); (focus (with_reducible rfl)); conv => arg 4; cbv) | (with_reducible refine on_both ?_ ?_ <;> (conv => arg 4; cbv)) | (with_reducible refine on_true (by assumption) ?_; conv => arg 4; cbv) | (with_reducible refine on_false (by assumption) ?_; conv => arg 4; cbv) | (with_reducible refine on_ask (fun g => ?_) (fun g => ?_) <;> (have h := g) <;> (try simp (disch := omega) [hI, k191, en191, an191, hes, hi1, hnl, -List.length_eq_zero_iff] at h) <;> (try (exfalso; omega)) <;> (conv => arg 4; cbv)) | ((with_reducible refine on_must ?_ ?_); (focus (first | (simp (disch := omega) [hI, k191, en191, an191, hes, hi1, hnl]; done) | (simp (disch := omega) [hI, k191, en191, an191, hes, hi1, hnl]; omega) | (simp (disch := omega) [hI, k191, en191, an191, hes, hi1, hnl]; assumption) | (simp (disch := omega) [hI, k191, en191, an191, hes, hi1, hnl]; (refine And.intro ?_ ?_) <;> (first | omega | assumption)))); conv => arg 4; cbv))
  · (with_reducible refine on_ret ?_); refine Ended_of rfl ?_; (conv => lhs; cbv); rw [newsF, if_pos (by omega)]
  · rw [newsF, if_neg (by omega)]
    (with_reducible refine on_loop ?_); simp only [List.cons_append, List.nil_append]; refine W_norm [0, 8, 9, 10] ?_ (L128 l (by omega) es hes _ rfl l.length 0 rfl); (conv => lhs; cbv)
    first | (simp (disch := omega) [hI, k191, en191, an191, hes, hi1, hnl, *]; done) | ((try simp (disch := omega) [hI, k191, en191, an191, hes, hi1, hnl, *]); (repeat' split); all_goals (first | rfl | omega | (simp_all; done) | (exfalso; simp_all; omega)))

theorem s128 {I : Ops} (hI : I = real) {e : En} (he : e = en128) : Sound Try.prog 128 (callE I e sh128) := by
  refine Sound.mkE ent128 hI (fun _ => rfl) ?_ he
  rintro ⟨l, ⟨⟩⟩ hp
  exact ok128 l
end Go.Proofs.Try
