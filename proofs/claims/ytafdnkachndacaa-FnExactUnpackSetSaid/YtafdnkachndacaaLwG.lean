/- Contracts. -/
import Derived.Test.YtafdnkachndacaaLwF
set_option linter.unusedSimpArgs false
set_option linter.unusedVariables false
namespace Go.Proofs.Try
open Go Go.Aix
set_option maxRecDepth 100000
set_option maxHeartbeats 4000000
set_option linter.unusedSimpArgs false
set_option linter.unusedVariables false
theorem tI64_two (a b : Int) : [[PV.sc (.int .i64 a)], [PV.sc (.int .i64 b)]] = tI64.encs [a, b] := rfl
def plc (a b : CountV) : Int := orL [cmpI a.place b.place, cmpI a.epoch b.epoch]
theorem plc_ge (a b : CountV) : 0 ≤ plc a b ↔ ¬ ahead a b := by
  unfold plc ahead orL orL orL cmpI
  (repeat' split) <;> omega

def an191 : An (CountV × CountV × Unit) where
  i _ t := plc t.1 t.2.1
noncomputable def en191 : En := mkE (parsC (pS tCount) (parsC (pS tCount) pars0)) an191
def sh191 : Shp := fun I i b l s => .ok (.one (.pv (.sc (.int .i64 (i 0)))), [], 0)
theorem ent191 : Enters Try.prog 191 := ⟨Try.f191, Try.func191, by kernel_rfl, by kernel_rfl⟩

theorem ok191 (x y : CountV) : Ok0 Try.prog 191 [(pS tCount).enc x, (pS tCount).enc y] (.one (.pv (.sc (.int .i64 (plc x y))))) [] 0 := by
  obtain ⟨I, hI⟩ : ∃ I, I = real := ⟨_, rfl⟩; obtain ⟨K, hK⟩ : ∃ K : FuncId → En, K = fun g => (lk g [(228, en228), (231, en231)]).getD default := ⟨_, rfl⟩; have k228 : K 228 = en228 := (by subst hK; rfl); have k231 : K 231 = en231 := (by subst hK; rfl); clear hK
  obtain ⟨x0, x1, x2⟩ := x
  obtain ⟨y0, y1, y2⟩ := y
  show Ok0 Try.prog 191 [.ag [.pv (.sc (.int .i64 x0)), .pv (.sc (.int .i64 x1)), .pv (.sc (.int .i64 x2))], .ag [.pv (.sc (.int .i64 y0)), .pv (.sc (.int .i64 y1)), .pv (.sc (.int .i64 y2))]] _ [] 0
  refine Ok0_run (Y := (Tab.calls [(228, true, callRd I (callE I (K 228) sh228)), (231, true, callRd I (callE I (K 231) sh231))])) xok (TabOk.calls mixed ⟨EntryOk.rd (s228 hI k228) hI, fun _ => callRd_quiet _ _, ⟨EntryOk.rd (s231 hI k231) hI, fun _ => callRd_quiet _ _, trivial⟩⟩) Try.func191 rfl rfl rfl 2000 hI fun w Xs => ?_; (conv => arg 4; cbv)
  (with_reducible refine on_any ?_); refine W_early (Y := (Tab.calls [(228, true, callRd I (callE I (K 228) sh228)), (231, true, callRd I (callE I (K 231) sh231))])) xok (TabOk.calls mixed ⟨EntryOk.rd (s228 hI k228) hI, fun _ => callRd_quiet _ _, ⟨EntryOk.rd (s231 hI k231) hI, fun _ => callRd_quiet _ _, trivial⟩⟩) mixed hI rfl (by kernel_rfl) rfl rfl ?_; (conv => arg 4; cbv)
  repeat' (first | ((with_reducible refine on_eqs ?_ ?_); (focus (with_reducible rfl)); conv => arg 4; cbv) | (with_reducible refine on_both ?_ ?_ <;> (conv => arg 4; cbv)) | (with_reducible refine on_true (by assumption) ?_; conv => arg 4; cbv) | (with_reducible refine on_false (by assumption) ?_; conv => arg 4; cbv) | (with_reducible refine on_ask (fun g => ?_) (fun g => ?_) <;> (have h := g) <;> (try simp (disch := omega) [hI, k228, en228, an228, k231, en231, an231, tI64_two, -List.length_eq_zero_iff] at h) <;> (try (exfalso; omega)) <;> (conv => arg 4; cbv)) | ((with_reducible refine on_must ?_ ?_); (focus (first | (simp (disch := omega) [hI, k228, en228, an228, k231, en231, an231, tI64_two]; done) | (simp (disch := omega) [hI, k228, en228, an228, k231, en231, an231, tI64_two]; omega) | (simp (disch := omega) [hI, k228, en228, an228, k231, en231, an231, tI64_two]; assumption) | (simp (disch := omega) [hI, k228, en228, an228, k231, en231, an231, tI64_two]; (refine And.intro ?_ ?_) <;> (first | omega | assumption)))); conv => arg 4; cbv))
  all_goals try ((with_reducible refine on_any ?_); refine W_behind (Y := (Tab.calls [(228, true, callRd I (callE I (K 228) sh228)), (231, true, callRd I (callE I (K 231) sh231))])) xok (TabOk.calls mixed ⟨EntryOk.rd (s228 hI k228) hI, fun _ => callRd_quiet _ _, ⟨EntryOk.rd (s231 hI k231) hI, fun _ => callRd_quiet _ _, trivial⟩⟩) Try.func191 rfl 2000 _ hI ?_; (conv => arg 4; cbv))
  repeat' (first | ((with_reducible refine on_eqs ?_ ?_); (focus (with_reducible rfl)); conv => arg 4; cbv) | (with_reducible refine on_both ?_ ?_ <;> (conv => arg 4; cbv)) | (with_reducible refine on_true (by assumption) ?_; conv => arg 4; cbv) | (with_reducible refine on_false (by assumption) ?_; conv => arg 4; cbv) | (with_reducible refine on_ask (fun g => ?_) (fun g => ?_) <;> (have h := g) <;> (try simp (disch := omega) [hI, k228, en228, an228, k231, en231, an231, tI64_two, -List.length_eq_zero_iff] at h) <;> (try (exfalso; omega)) <;> (conv => arg 4; cbv)) | ((with_reducible refine on_must ?_ ?_); (focus (first | (simp (disch := omega) [hI, k228, en228, an228, k231, en231, an231, tI64_two]; done) | (simp (disch := omega) [hI, k228, en228, an228, k231, en231, an231, tI64_two]; omega) | (simp (disch := omega) [hI, k228, en228, an228, k231, en231, an231, tI64_two]; assumption) | (simp (disch := omega) [hI, k228, en228, an228, k231, en231, an231, tI64_two]; (refine And.intro ?_ ?_) <;> (first | omega | assumption)))); conv => arg 4; cbv))
  all_goals ((with_reducible refine on_ret ?_); refine Ended_of rfl ?_; (conv => lhs; cbv); simp (disch := omega) [hI, k228, en228, an228, k231, en231, an231, tI64_two, plc])

theorem s191 {I : Ops} (hI : I = real) {e : En} (he : e = en191) : Sound Try.prog 191 (callE I e sh191) := by
  refine Sound.mkE ent191 hI (fun _ => rfl) ?_ he
  rintro ⟨x, y, ⟨⟩⟩ hp
  exact ok191 x y
end Go.Proofs.Try
