/- Contracts. -/
import Derived.Test.YtafdnkachndacaaLwQ
set_option linter.unusedSimpArgs false
set_option linter.unusedVariables false
namespace Go.Proofs.Try
open Go Go.Aix
set_option maxRecDepth 100000
set_option maxHeartbeats 4000000
set_option linter.unusedSimpArgs false
set_option linter.unusedVariables false
/-- Eight bytes as a number. -/
def rdF : Int → List Int → Int
  | n, [] => n
  | n, b :: r => rdF (IntKind.u64.wrap (IntKind.u64.wrap (n * 256) + b)) r
def rd8 (d : List Int) : Int := rdF 0 (d.take 8)
def rdOk (d : List Int) : Bool := decide (rd8 d ≤ 9223372036854775807)
def rdV (d : List Int) : Int := if rd8 d ≤ 9223372036854775807 then IntKind.i64.wrap (IntKind.i64.wrap (rd8 d) - 4611686018427387904) else 0
theorem u64_id {n : Int} (h : 0 ≤ n ∧ n ≤ 18446744073709551615) : IntKind.u64.wrap n = n := by rw [IntKind.wrap_u64]; omega

def an193 : An (List Int × Unit) where
  pre t := decide (8 ≤ t.1.length) && t.1.all fun b => decide (0 ≤ b ∧ b ≤ 255)
  i _ t := rdV t.1
  b _ t := rdOk t.1
noncomputable def en193 : En := mkE (parsC (pL tU8) pars0) an193
def sh193 : Shp := fun I i b l s => .ok (.tp [(false, [.pv (.sc (.int .i64 (i 0)))]), (false, [.pv (.sc (.bool (b 0)))])], [], 0)
theorem ent193 : Enters Try.prog 193 := ⟨Try.f193, Try.func193, by kernel_rfl, by kernel_rfl⟩

theorem L193 {w : World} {Xs : Nat → Prop} (d : List Int) (hd : inB d) (hl : 8 ≤ d.length) (es : List (List PV)) (hes : es = tU8.encs d) (fin : Int) (hf : fin = rd8 d) :
    ∀ (k i : Nat) (n : Int), k + i = 8 → fin = rdF n ((d.drop i).take k) → W Try.prog 193 Try.f193 (Ent0 w Xs) (Back (Ent0 w Xs) (.tp [(false, [.pv (.sc (.int .i64 (if fin ≤ 9223372036854775807 then IntKind.i64.wrap (IntKind.i64.wrap fin - 4611686018427387904) else 0)))]), (false, [.pv (.sc (.bool (decide (fin ≤ 9223372036854775807))))])]) [] 0) (place (bodyOf Try.f193) [1,1,0,1,0,0] [])
      ⟨[(0, .one (.pv (.sl false 1 es))), (4, .one (.pv (.sc (.int .u64 n)))), (5, .one (.pv (.sc (.int .i64 i))))], [], 0⟩ := by
  obtain ⟨I, hI⟩ : ∃ I, I = real := ⟨_, rfl⟩
  intro k
  induction k with
  | zero =>
    intro i n hk hn
    have hc : True := trivial
    have hn : fin = n := by simpa [rdF] using hn
    refine W_go (Y := (Tab.calls [])) xok (TabOk.calls mixed trivial) Try.func193 rfl 2000 _ hI ?_; (conv => arg 4; cbv)
    repeat' (first | ((with_reducible refine on_eqs ?_ ?_); (focus (with_reducible rfl)); conv => arg 4; cbv) | (with_reducible refine on_both ?_ ?_ <;> (conv => arg 4; cbv)) | (with_reducible refine on_true (by assumption) ?_; conv => arg 4; cbv) | (with_reducible refine on_false (by assumption) ?_; conv => arg 4; cbv) | (with_reducible refine on_ask (fun g => ?_) (fun g => ?_) <;> (have h := g) <;> (try simp (disch := omega) [hI, hes, hc, u64_id, -List.length_eq_zero_iff] at h) <;> (try (exfalso; omega)) <;> (conv => arg 4; cbv)) | ((with_reducible refine on_must ?_ ?_); (focus (first | (simp (disch := omega) [hI, hes, hc, u64_id]; done) | (simp (disch := omega) [hI, hes, hc, u64_id]; omega) | (simp (disch := omega) [hI, hes, hc, u64_id]; assumption) | (simp (disch := omega) [hI, hes, hc, u64_id]; (refine And.intro ?_ ?_) <;> (first | omega | assumption)))); conv => arg 4; cbv))
    · subst hn; (with_reducible refine on_ret ?_); refine Ended_of rfl ?_; (conv => lhs; cbv); rw [if_neg (by omega)]; simp (disch := omega) [hI, hes, hc, u64_id]; omega
    · subst hn; (with_reducible refine on_ret ?_); refine Ended_of rfl ?_; (conv => lhs; cbv); rw [if_pos (by omega)]; simp (disch := omega) [hI, hes, hc, u64_id]; omega
  | succ k ih =>
    intro i n hk hn
    have hc := hd _ (nth_mem (l := d) (i := i) (by omega))
    have hdd : d.drop i = nth d i :: d.drop (i + 1) := nth_drop (by omega)
    rw [hdd, List.take_succ_cons, rdF] at hn
    refine W_go (Y := (Tab.calls [])) xok (TabOk.calls mixed trivial) Try.func193 rfl 2000 _ hI ?_; (conv => arg 4; cbv)
    repeat' (first | ((with_reducible refine on_eqs ?_ ?_); (focus (with_reducible rfl)); conv => arg 4; cbv) | (with_reducible refine on_both ?_ ?_ <;> (conv => arg 4; cbv)) | (with_reducible refine on_true (by assumption) ?_; conv => arg 4; cbv) | (with_reducible refine on_false (by assumption) ?_; conv => arg 4; cbv) | (with_reducible refine on_ask (fun g => ?_) (fun g => ?_) <;> (have h := g) <;> (try simp (disch := omega) [hI, hes, hc, u64_id, -List.length_eq_zero_iff] at h) <;> (try (exfalso; omega)) <;> (conv => arg 4; cbv)) | ((with_reducible refine on_must ?_ ?_); (focus (first | (simp (disch := omega) [hI, hes, hc, u64_id]; done) | (simp (disch := omega) [hI, hes, hc, u64_id]; omega) | (simp (disch := omega) [hI, hes, hc, u64_id]; assumption) | (simp (disch := omega) [hI, hes, hc, u64_id]; (refine And.intro ?_ ?_) <;> (first | omega | assumption)))); conv => arg 4; cbv))
    (with_reducible refine on_loop ?_); simp only [List.cons_append, List.nil_append]; refine W_norm [0, 4, 5] ?_ (ih (i + 1) _ (by omega) hn); (conv => lhs; cbv)
    simp (disch := omega) [hI, hes, hc, u64_id]
theorem ok193 (d : List Int) (hd : inB d) (hl : 8 ≤ d.length) : Ok0 Try.prog 193 [(pL tU8).enc d] (.tp [(false, [.pv (.sc (.int .i64 (rdV d)))]), (false, [.pv (.sc (.bool (rdOk d)))])]) [] 0 := by
  obtain ⟨I, hI⟩ : ∃ I, I = real := ⟨_, rfl⟩
  have hc : True := trivial
  obtain ⟨es, hes⟩ : ∃ es, es = tU8.encs d := ⟨_, rfl⟩
  show Ok0 Try.prog 193 [.one (.pv (.sl false 1 (tU8.encs d)))] _ [] 0
  rw [← hes]
  refine Ok0_run (Y := (Tab.calls [])) xok (TabOk.calls mixed trivial) Try.func193 rfl rfl rfl 2000 hI fun w Xs => ?_; (conv => arg 4; cbv)
  repeat' (first | ((with_reducible refine on_eqs ?_ ?_); (focus (with_reducible rfl)); conv => arg 4; cbv) | (with_reducible refine on_both ?_ ?_ <;> (conv => arg 4; cbv)) | (with_reducible refine on_true (by assumption) ?_; conv => arg 4; cbv) | (with_reducible refine on_false (by assumption) ?_; conv => arg 4; cbv) | (with_reducible refine on_ask (fun g => ?_) (fun g => ?_) <;> (have h := g) <;> (try simp (disch := omega) [hI, hes, hc, u64_id, -List.length_eq_zero_iff] at h) <;> (try (exfalso; omega)) <;> (conv => arg 4; cbv)) | ((with_reducible refine on_must ?_ ?_); (focus (first | (simp (disch := omega) [hI, hes, hc, u64_id]; done) | (simp (disch := omega) [hI, hes, hc, u64_id]; omega) | (simp (disch := omega) [hI, hes, hc, u64_id]; assumption) | (simp (disch := omega) [hI, hes, hc, u64_id]; (refine And.intro ?_ ?_) <;> (first | omega | assumption)))); conv => arg 4; cbv))
  (with_reducible refine on_loop ?_); simp only [List.cons_append, List.nil_append]; refine W_norm [0, 4, 5] ?_ (L193 d hd hl es hes (rd8 d) rfl 8 0 0 rfl rfl); (conv => lhs; cbv)
  simp (disch := omega) [hI, hes, hc, u64_id]

theorem s193 {I : Ops} (hI : I = real) {e : En} (he : e = en193) : Sound Try.prog 193 (callE I e sh193) := by
  refine Sound.mkE ent193 hI (fun _ => rfl) ?_ he
  rintro ⟨d, ⟨⟩⟩ hp
  
  have hp : (decide (8 ≤ d.length) && d.all fun b => decide (0 ≤ b ∧ b ≤ 255)) = true := hp
  simp only [Bool.and_eq_true, List.all_eq_true, decide_eq_true_eq] at hp
  exact ok193 d hp.2 hp.1
end Go.Proofs.Try
