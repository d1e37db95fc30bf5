/- Contracts. -/
import Derived.Test.YtafdnkachndacaaLwI
set_option linter.unusedSimpArgs false
set_option linter.unusedVariables false
namespace Go.Proofs.Try
open Go Go.Aix
set_option maxRecDepth 100000
set_option maxHeartbeats 4000000
set_option linter.unusedSimpArgs false
set_option linter.unusedVariables false
theorem byte_eq (v : Int) (m : Nat) (hm : m < 8) : byteU (IntKind.u64.wrap v) (8 * m) = byteAt v (8 * m) := by
  unfold byteU byteAt
  have h8 : ∀ n, IntKind.u8.wrap n = n % 256 := fun n => by simp [IntKind.wrap, IntKind.bits, IntKind.signed]
  rw [h8, h8, IntKind.wrap_u64]
  have e : ∀ N : Int, 0 < N → N ∣ 72057594037927936 → ((v % 18446744073709551616).fdiv N) % 256 = (v.fdiv N) % 256 := by
    intro N h0 hd
    obtain ⟨c, hc⟩ := hd
    have h1 : v % 18446744073709551616 = v - N * (c * 256 * (v / 18446744073709551616)) := by
      have := Int.emod_add_mul_ediv v 18446744073709551616
      have h2 : N * (c * 256 * (v / 18446744073709551616)) = (N * c) * 256 * (v / 18446744073709551616) := by simp only [Int.mul_assoc]
      rw [h2, ← hc]
      omega
    rw [Int.fdiv_eq_ediv_of_nonneg _ (Int.le_of_lt h0), Int.fdiv_eq_ediv_of_nonneg _ (Int.le_of_lt h0), h1]
    have h3 : (v - N * (c * 256 * (v / 18446744073709551616))) / N = v / N - c * 256 * (v / 18446744073709551616) := by
      rw [Int.sub_eq_add_neg, ← Int.mul_neg, Int.add_mul_ediv_left _ _ (by omega)]
      omega
    rw [h3]
    have h4 : c * 256 * (v / 18446744073709551616) = 256 * (c * (v / 18446744073709551616)) := by rw [Int.mul_comm c 256, Int.mul_assoc]
    rw [h4]
    omega
  match m, hm with
  | 0, _ => exact e 1 (by decide) (by decide)
  | 1, _ => exact e 256 (by decide) (by decide)
  | 2, _ => exact e 65536 (by decide) (by decide)
  | 3, _ => exact e 16777216 (by decide) (by decide)
  | 4, _ => exact e 4294967296 (by decide) (by decide)
  | 5, _ => exact e 1099511627776 (by decide) (by decide)
  | 6, _ => exact e 281474976710656 (by decide) (by decide)
  | 7, _ => exact e 72057594037927936 (by decide) (by decide)
theorem long_eq (v : Int) : ∀ m : Nat, m ≤ 8 → longU (IntKind.u64.wrap v) m = long8 v m
  | 0, _ => rfl
  | m + 1, h => by rw [longU, long8, byte_eq v m (by omega), long_eq v m (by omega)]
theorem lu_lg (n : Int) : lu n = lg n := long_eq _ 8 (by omega)
theorem newsB_C : ∀ l, newsB l = newsC l
  | [] => rfl
  | c :: r => by rw [newsB, newsC, lu_lg, lu_lg, newsB_C r]
def newsY (l : List CountV) : List Int := [IntKind.u8.wrap l.length] ++ newsC l

def an44 : An (List CountV × Unit) where
  b _ t := decide (newsF t.1 ≠ 0)
  i _ t := newsF t.1
  l _ t := tU8.encs (newsY t.1)
noncomputable def en44 : En := mkE (parsC (pL tCount) pars0) an44
def sh44 : Shp := fun I i b l s => .ask (b 0) fun t => match t with | true => .ok (.ag [.pv (.sc (.int .i64 (i 0))), .pv .nl], [], 0) | false => .ok (.ag [.pv (.sc (.int .i64 0)), .arr 0 0 (I.len (l 0))], [(0, .row 1 (l 0))], 1)
theorem ent44 : Enters Try.prog 44 := ⟨Try.f44, Try.func44, by kernel_rfl, by kernel_rfl⟩

theorem newsF_len44 {l : List CountV} (h : newsF l = 0) : l.length ≤ 200 := by
  unfold newsF at h
  split at h <;> omega
theorem okA44 (l : List CountV) (hz : newsF l ≠ 0) : Ok0 Try.prog 44 [(pL tCount).enc l] (.ag [.pv (.sc (.int .i64 (newsF l))), .pv .nl]) [] 0 := by
  obtain ⟨I, hI⟩ : ∃ I, I = real := ⟨_, rfl⟩; obtain ⟨K, hK⟩ : ∃ K : FuncId → En, K = fun g => (lk g [(125, en125), (126, en126)]).getD default := ⟨_, rfl⟩; have k125 : K 125 = en125 := (by subst hK; rfl); have k126 : K 126 = en126 := (by subst hK; rfl); clear hK
  obtain ⟨es, hes⟩ : ∃ es, es = tCount.encs l := ⟨_, rfl⟩
  show Ok0 Try.prog 44 [.one (.pv (.sl false 3 (tCount.encs l)))] _ [] 0
  rw [← hes]
  refine Ok0_run (Y := (Tab.calls [(125, true, callRd I (callE I (K 125) sh125)), (126, false, callIce I (callE I (K 126) sh126))])) xok (TabOk.calls mixed ⟨EntryOk.rd (s125 hI k125) hI, fun _ => callRd_quiet _ _, ⟨EntryOk.own (s126 hI k126) hI, notQuiet, trivial⟩⟩) Try.func44 rfl rfl rfl 2000 hI fun w Xs => ?_; (conv => arg 4; cbv)
  repeat' (first | ((with_reducible refine on_eqs ?_ ?_); (focus (with_reducible rfl)); conv => arg 4; cbv) | (with_reducible refine on_both ?_ ?_ <;> (conv => arg 4; cbv)) | (with_reducible refine on_true (by assumption) ?_; conv => arg 4; cbv) | (with_reducible refine on_false (by assumption) ?_; conv => arg 4; cbv) | (with_reducible refine on_ask (fun g => ?_) (fun g => ?_) <;> (have h := g) <;> (try simp (disch := omega) [hI, k125, en125, an125, k126, en126, an126, hes, -List.length_eq_zero_iff] at h) <;> (try (exfalso; omega)) <;> (conv => arg 4; cbv)) | ((with_reducible refine on_must ?_ ?_); (focus (first | (simp (disch := omega) [hI, k125, en125, an125, k126, en126, an126, hes]; done) | (simp (disch := omega) [hI, k125, en125, an125, k126, en126, an126, hes]; omega) | (simp (disch := omega) [hI, k125, en125, an125, k126, en126, an126, hes]; assumption) | (simp (disch := omega) [hI, k125, en125, an125, k126, en126, an126, hes]; (refine And.intro ?_ ?_) <;> (first | omega | assumption)))); conv => arg 4; cbv))
  · (with_reducible refine on_ret ?_); refine Ended_of rfl ?_; (conv => lhs; cbv); simp (disch := omega) [hI, k125, en125, an125, k126, en126, an126, hes]
theorem okB44 (l : List CountV) (hz : newsF l = 0) : Ok0 Try.prog 44 [(pL tCount).enc l] (.ag [.pv (.sc (.int .i64 0)), .arr 0 0 (real.len (tU8.encs (newsY l)))]) [(0, .row 1 (tU8.encs (newsY l)))] 1 := by
  have hlen := newsF_len44 hz
  obtain ⟨I, hI⟩ : ∃ I, I = real := ⟨_, rfl⟩; obtain ⟨K, hK⟩ : ∃ K : FuncId → En, K = fun g => (lk g [(125, en125), (126, en126)]).getD default := ⟨_, rfl⟩; have k125 : K 125 = en125 := (by subst hK; rfl); have k126 : K 126 = en126 := (by subst hK; rfl); clear hK
  obtain ⟨es, hes⟩ : ∃ es, es = tCount.encs l := ⟨_, rfl⟩
  show Ok0 Try.prog 44 [.one (.pv (.sl false 3 (tCount.encs l)))] _ _ 1
  rw [← hes]
  refine Ok0_run (Y := (Tab.calls [(125, true, callRd I (callE I (K 125) sh125)), (126, false, callIce I (callE I (K 126) sh126))])) xok (TabOk.calls mixed ⟨EntryOk.rd (s125 hI k125) hI, fun _ => callRd_quiet _ _, ⟨EntryOk.own (s126 hI k126) hI, notQuiet, trivial⟩⟩) Try.func44 rfl rfl rfl 2000 hI fun w Xs => ?_; (conv => arg 4; cbv)
  repeat' (first | ((with_reducible refine on_eqs ?_ ?_); (focus (with_reducible rfl)); conv => arg 4; cbv) | (with_reducible refine on_both ?_ ?_ <;> (conv => arg 4; cbv)) | (with_reducible refine on_true (by assumption) ?_; conv => arg 4; cbv) | (with_reducible refine on_false (by assumption) ?_; conv => arg 4; cbv) | (with_reducible refine on_ask (fun g => ?_) (fun g => ?_) <;> (have h := g) <;> (try simp (disch := omega) [hI, k125, en125, an125, k126, en126, an126, hes, -List.length_eq_zero_iff] at h) <;> (try (exfalso; omega)) <;> (conv => arg 4; cbv)) | ((with_reducible refine on_must ?_ ?_); (focus (first | (simp (disch := omega) [hI, k125, en125, an125, k126, en126, an126, hes]; done) | (simp (disch := omega) [hI, k125, en125, an125, k126, en126, an126, hes]; omega) | (simp (disch := omega) [hI, k125, en125, an125, k126, en126, an126, hes]; assumption) | (simp (disch := omega) [hI, k125, en125, an125, k126, en126, an126, hes]; (refine And.intro ?_ ?_) <;> (first | omega | assumption)))); conv => arg 4; cbv))
  · (with_reducible refine on_ret ?_); refine Ended_of rfl ?_; (conv => lhs; cbv); simp (disch := omega) [hI, k125, en125, an125, k126, en126, an126, hes, newsY, newsB_C]

theorem s44 {I : Ops} (hI : I = real) {e : En} (he : e = en44) : Sound Try.prog 44 (callE I e sh44) := by
  refine Sound.mkR ent44 hI ?_ he
  rintro ⟨l, ⟨⟩⟩ hp r σ n e
  
  have e : ((if newsF l ≠ 0 then R.ok (.ag [.pv (.sc (.int .i64 (newsF l))), .pv .nl], [], 0) else R.ok (.ag [.pv (.sc (.int .i64 0)), .arr 0 0 (real.len (tU8.encs (newsY l)))], [(0, .row 1 (tU8.encs (newsY l)))], 1)) : R (AV × Store × Nat)).val = some (r, σ, n) := by
    rw [← e]
    by_cases hz : newsF l = 0 <;> simp [sh44, an44, hz, val_ask]
  by_cases hz : newsF l = 0
  · rw [if_neg (by simpa using hz)] at e
    cases e
    exact okB44 l hz
  · rw [if_pos hz] at e
    cases e
    exact okA44 l hz
def an46 : An (List CountV × Unit) where
  b _ t := decide (newsF t.1 ≠ 0)
  i _ t := newsF t.1
  l _ t := tU8.encs (newsY t.1)
noncomputable def en46 : En := mkE (parsC (pL tCount) pars0) an46
def sh46 : Shp := fun I i b l s => .ask (b 0) fun t => match t with | true => .ok (.ag [.pv (.sc (.int .i64 (i 0))), .pv .nl], [], 0) | false => .ok (.ag [.pv (.sc (.int .i64 0)), .arr 0 0 (I.len (l 0))], [(0, .row 1 (l 0))], 1)
theorem ent46 : Enters Try.prog 46 := ⟨Try.f46, Try.func46, by kernel_rfl, by kernel_rfl⟩

theorem newsF_len46 {l : List CountV} (h : newsF l = 0) : l.length ≤ 200 := by
  unfold newsF at h
  split at h <;> omega
theorem okA46 (l : List CountV) (hz : newsF l ≠ 0) : Ok0 Try.prog 46 [(pL tCount).enc l] (.ag [.pv (.sc (.int .i64 (newsF l))), .pv .nl]) [] 0 := by
  obtain ⟨I, hI⟩ : ∃ I, I = real := ⟨_, rfl⟩; obtain ⟨K, hK⟩ : ∃ K : FuncId → En, K = fun g => (lk g [(128, en128), (129, en129)]).getD default := ⟨_, rfl⟩; have k128 : K 128 = en128 := (by subst hK; rfl); have k129 : K 129 = en129 := (by subst hK; rfl); clear hK
  obtain ⟨es, hes⟩ : ∃ es, es = tCount.encs l := ⟨_, rfl⟩
  show Ok0 Try.prog 46 [.one (.pv (.sl false 3 (tCount.encs l)))] _ [] 0
  rw [← hes]
  refine Ok0_run (Y := (Tab.calls [(128, true, callRd I (callE I (K 128) sh128)), (129, false, callIce I (callE I (K 129) sh129))])) xok (TabOk.calls mixed ⟨EntryOk.rd (s128 hI k128) hI, fun _ => callRd_quiet _ _, ⟨EntryOk.own (s129 hI k129) hI, notQuiet, trivial⟩⟩) Try.func46 rfl rfl rfl 2000 hI fun w Xs => ?_; (conv => arg 4; cbv)
  repeat' (first | ((with_reducible refine on_eqs ?_ ?_); (focus (with_reducible rfl)); conv => arg 4; cbv) | (with_reducible refine on_both ?_ ?_ <;> (conv => arg 4; cbv)) | (with_reducible refine on_true (by assumption) ?_; conv => arg 4; cbv) | (with_reducible refine on_false (by assumption) ?_; conv => arg 4; cbv) | (with_reducible refine on_ask (fun g => ?_) (fun g => ?_) <;> (have h := g) <;> (try simp (disch := omega) [hI, k128, en128, an128, k129, en129, an129, hes, -List.length_eq_zero_iff] at h) <;> (try (exfalso; omega)) <;> (conv => arg 4; cbv)) | ((with_reducible refine on_must ?_ ?_); (focus (first | (simp (disch := omega) [hI, k128, en128, an128, k129, en129, an129, hes]; done) | (simp (disch := omega) [hI, k128, en128, an128, k129, en129, an129, hes]; omega) | (simp (disch := omega) [hI, k128, en128, an128, k129, en129, an129, hes]; assumption) | (simp (disch := omega) [hI, k128, en128, an128, k129, en129, an129, hes]; (refine And.intro ?_ ?_) <;> (first | omega | assumption)))); conv => arg 4; cbv))
  · (with_reducible refine on_ret ?_); refine Ended_of rfl ?_; (conv => lhs; cbv); simp (disch := omega) [hI, k128, en128, an128, k129, en129, an129, hes]
theorem okB46 (l : List CountV) (hz : newsF l = 0) : Ok0 Try.prog 46 [(pL tCount).enc l] (.ag [.pv (.sc (.int .i64 0)), .arr 0 0 (real.len (tU8.encs (newsY l)))]) [(0, .row 1 (tU8.encs (newsY l)))] 1 := by
  have hlen := newsF_len46 hz
  obtain ⟨I, hI⟩ : ∃ I, I = real := ⟨_, rfl⟩; obtain ⟨K, hK⟩ : ∃ K : FuncId → En, K = fun g => (lk g [(128, en128), (129, en129)]).getD default := ⟨_, rfl⟩; have k128 : K 128 = en128 := (by subst hK; rfl); have k129 : K 129 = en129 := (by subst hK; rfl); clear hK
  obtain ⟨es, hes⟩ : ∃ es, es = tCount.encs l := ⟨_, rfl⟩
  show Ok0 Try.prog 46 [.one (.pv (.sl false 3 (tCount.encs l)))] _ _ 1
  rw [← hes]
  refine Ok0_run (Y := (Tab.calls [(128, true, callRd I (callE I (K 128) sh128)), (129, false, callIce I (callE I (K 129) sh129))])) xok (TabOk.calls mixed ⟨EntryOk.rd (s128 hI k128) hI, fun _ => callRd_quiet _ _, ⟨EntryOk.own (s129 hI k129) hI, notQuiet, trivial⟩⟩) Try.func46 rfl rfl rfl 2000 hI fun w Xs => ?_; (conv => arg 4; cbv)
  repeat' (first | ((with_reducible refine on_eqs ?_ ?_); (focus (with_reducible rfl)); conv => arg 4; cbv) | (with_reducible refine on_both ?_ ?_ <;> (conv => arg 4; cbv)) | (with_reducible refine on_true (by assumption) ?_; conv => arg 4; cbv) | (with_reducible refine on_false (by assumption) ?_; conv => arg 4; cbv) | (with_reducible refine on_ask (fun g => ?_) (fun g => ?_) <;> (have h := g) <;> (try simp (disch := omega) [hI, k128, en128, an128, k129, en129, an129, hes, -List.length_eq_zero_iff] at h) <;> (try (exfalso; omega)) <;> (conv => arg 4; cbv)) | ((with_reducible refine on_must ?_ ?_); (focus (first | (simp (disch := omega) [hI, k128, en128, an128, k129, en129, an129, hes]; done) | (simp (disch := omega) [hI, k128, en128, an128, k129, en129, an129, hes]; omega) | (simp (disch := omega) [hI, k128, en128, an128, k129, en129, an129, hes]; assumption) | (simp (disch := omega) [hI, k128, en128, an128, k129, en129, an129, hes]; (refine And.intro ?_ ?_) <;> (first | omega | assumption)))); conv => arg 4; cbv))
  · (with_reducible refine on_ret ?_); refine Ended_of rfl ?_; (conv => lhs; cbv); simp (disch := omega) [hI, k128, en128, an128, k129, en129, an129, hes, newsY, newsB_C]

theorem s46 {I : Ops} (hI : I = real) {e : En} (he : e = en46) : Sound Try.prog 46 (callE I e sh46) := by
  refine Sound.mkR ent46 hI ?_ he
  rintro ⟨l, ⟨⟩⟩ hp r σ n e
  
  have e : ((if newsF l ≠ 0 then R.ok (.ag [.pv (.sc (.int .i64 (newsF l))), .pv .nl], [], 0) else R.ok (.ag [.pv (.sc (.int .i64 0)), .arr 0 0 (real.len (tU8.encs (newsY l)))], [(0, .row 1 (tU8.encs (newsY l)))], 1)) : R (AV × Store × Nat)).val = some (r, σ, n) := by
    rw [← e]
    by_cases hz : newsF l = 0 <;> simp [sh46, an46, hz, val_ask]
  by_cases hz : newsF l = 0
  · rw [if_neg (by simpa using hz)] at e
    cases e
    exact okB46 l hz
  · rw [if_pos hz] at e
    cases e
    exact okA46 l hz
end Go.Proofs.Try
