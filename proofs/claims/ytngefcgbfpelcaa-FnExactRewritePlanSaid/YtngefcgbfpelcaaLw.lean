/- Contracts. -/
import Derived.Test.YtngefcgbfpelcaaLv
set_option linter.unusedSimpArgs false
set_option linter.unusedVariables false
namespace Go.Proofs.Try
open Go Go.Aix
set_option maxRecDepth 100000
set_option maxHeartbeats 4000000
set_option linter.unusedSimpArgs false
set_option linter.unusedVariables false
theorem ent58 : Enters Try.prog 58 := ⟨Try.f58, Try.func58, by kernel_rfl, by kernel_rfl⟩
theorem s58 {bd : Nat} (s61 : ∀ {I : Ops}, I = real → ∀ {e : En}, e = en61 bd → Sound Try.prog 61 (callE I e sh61)) {I : Ops} (hI : I = real) {K : FuncId → En} (k88 : K 88 = (en88 bd)) : SoundR Try.prog 58 (inlR X I (Tab.calls [(88, false, callRef I (exV I (K 88) vl88))]) Try.f58) :=
  SoundR.inl (Y := (Tab.calls [(88, false, callRef I (exV I (K 88) vl88))])) xok (TabOk.calls mixed ⟨EntryOk.ref (s88 s61 hI k88) hI, notQuiet, trivial⟩) ent58 Try.func58 rfl rfl hI
theorem go61 {bd : Nat} (s61 : ∀ {I : Ops}, I = real → ∀ {e : En}, e = en61 bd → Sound Try.prog 61 (callE I e sh61)) (plan : List NodeV) (a : Int) (b : Int) {r : RES} (h : ∀ (w : World) (Xs : Nat → Prop), ((0 ≤ b ∧ b < (plan.length : Int)) ∧ (((readsL (nth plan b.toNat)).length ≤ 1048576) ∧ ((plan.length ≤ 100) ∧ (((planI plan) = true) ∧ (((allIn (readsL (nth plan b.toNat)) plan.length bd) = true) ∧ r = (.one (.pv (.sc (.bool (decide (0 ≤ fstI (fun k => decide (k = a) || feedB plan a k) (readsL (nth plan b.toNat)) 0))))), [], 0))))))) : Ok0 Try.prog 61 [(pL tNode).enc plan, pI.enc a, pI.enc b] r.1 r.2.1 r.2.2 := by
  obtain ⟨I, hI⟩ : ∃ I, I = real := ⟨_, rfl⟩; obtain ⟨K, hK⟩ : ∃ K : FuncId → En, K = fun g => (lk g [(85, en85), (88, (en88 bd))]).getD default := ⟨_, rfl⟩; have k85 : K 85 = en85 := (by subst hK; rfl); have k88 : K 88 = (en88 bd) := (by subst hK; rfl); clear hK
  show Ok0 Try.prog 61 [.one (.pv (.sl false 7 (tNode.encs plan))), .one (.pv (.sc (.int .i64 a))), .one (.pv (.sc (.int .i64 b)))] _ _ _
  obtain ⟨q0, hq0⟩ : ∃ q, q = (tNode.encs plan) := ⟨_, rfl⟩
  try rw [← hq0]
  refine Ok0_run (Y := (Tab.calls [(85, true, callPv (callE I (K 85) sh85)), (58, false, callRef I (inlR X I (Tab.calls [(88, false, callRef I (exV I (K 88) vl88))]) Try.f58))])) xok (TabOk.calls mixed ⟨EntryOk.pv (s85 hI k85), fun _ => callPv_quiet _, ⟨EntryOk.ref (s58 s61 hI k88) hI, notQuiet, trivial⟩⟩) Try.func61 rfl rfl rfl 2000 hI fun w Xs => ?_; (conv => arg 4; cbv)
  replace h := h w Xs
  repeat' (first | (have hd := And.left h; replace h := And.right h) | ((with_reducible refine on_eqs ?_ ?_); (focus (with_reducible rfl)); conv => arg 4; cbv) | (with_reducible refine on_both ?_ ?_ <;> (conv => arg 4; cbv)) | (with_reducible refine on_true (by assumption) ?_; conv => arg 4; cbv) | (with_reducible refine on_false (by assumption) ?_; conv => arg 4; cbv) | (with_reducible refine on_ask (fun g => ?_) (fun g => ?_) <;> (have hc := g) <;> (try simp (disch := omega) [hI, k85, en85, an85, k88, en88, an88, dec88, hq0, -List.length_eq_zero_iff] at hc) <;> (try (exfalso; omega)) <;> (try (first | (revert h; (refine imp_l ?_ (fun h => ?_)); focus (first | exact hc | assumption | omega | (simpa using hc; done))) | (revert h; (refine imp_r ?_ (fun h => ?_)); focus (first | exact hc | assumption | omega | (simpa using hc; done))))) <;> (conv => arg 4; cbv)) | ((with_reducible refine on_must ?_ ?_); (focus ((simp (disch := omega) [hI, k85, en85, an85, k88, en88, an88, dec88, hq0]) <;> (first | omega | assumption | ((repeat' (refine And.intro ?_ ?_)) <;> (first | omega | assumption))))); conv => arg 4; cbv))
  all_goals (first | ((subst h); (with_reducible refine on_ret ?_); refine Ended_of rfl ?_))
  all_goals ((conv => lhs; cbv); (try (first | rfl | ((try simp (disch := omega) [hI, k85, en85, an85, k88, en88, an88, dec88, hq0, mapE_append, Ty.encs_append, encs1_I64, encs1_U8, encs1, mapE1]) <;> (first | rfl | omega | (simp; done))))))
end Go.Proofs.Try
