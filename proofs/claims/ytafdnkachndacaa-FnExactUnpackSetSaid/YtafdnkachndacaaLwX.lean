/- Contracts. -/
import Derived.Test.YtafdnkachndacaaLwU
import Derived.Test.YtafdnkachndacaaAix4
import Derived.Test.YtafdnkachndacaaLwM
set_option linter.unusedSimpArgs false
set_option linter.unusedVariables false
namespace Go.Proofs.Try
open Go Go.Aix
set_option maxRecDepth 100000
set_option maxHeartbeats 4000000
set_option linter.unusedSimpArgs false
set_option linter.unusedVariables false
/-- A row, at the beginning of bytes. -/
def rowU : Nat → List Int → List Int
  | 0, _ => []
  | k + 1, d => rdV d :: rowU k (d.drop 8)
def rowK : Nat → List Int → Bool
  | 0, d => rdOk d
  | k + 1, d => rdOk d && rowK k (d.drop 8)
def enBad (d : List Int) : Bool := decide (d.length = 0) || decide (4 < nth d 0) || decide ((d.length : Int) < 9 + 8 * nth d 0) || !(rowK (nth d 0).toNat (d.drop 1))
def enV (d : List Int) : EntryV := ⟨rowU (nth d 0).toNat (d.drop 1), rdV (d.drop (1 + 8 * (nth d 0).toNat))⟩
theorem rowU_len : ∀ (k : Nat) (d : List Int), (rowU k d).length = k
  | 0, _ => rfl
  | k + 1, d => by rw [rowU, List.length_cons, rowU_len k]

def an196 : An (List Int × Unit) where
  pre t := decide (t.1.length ≤ 6000) && t.1.all fun b => decide (0 ≤ b ∧ b ≤ 255)
  b j t := match j with | 0 => enBad t.1 | _ => decide (nth t.1 0 = 0)
  i j t := match j with | 0 => (enV t.1).weight | _ => 9 + 8 * nth t.1 0
  l _ t := tI64.encs (enV t.1).row
noncomputable def en196 : En := mkE (parsC (pL tU8) pars0) an196
def sh196 : Shp := fun I i b l s => .ask (b 0) fun t => match t with | true => .ok (.tp [(true, [.pv .nl, .pv (.sc (.int .i64 0))]), (false, [.pv (.sc (.int .i64 0))])], [], 0) | false => .ask (b 1) fun t => match t with | true => .ok (.tp [(true, [.pv .nl, .pv (.sc (.int .i64 (i 0)))]), (false, [.pv (.sc (.int .i64 (i 1)))])], [], 0) | false => .ok (.tp [(true, [.arr 0 0 (I.len (l 0)), .pv (.sc (.int .i64 (i 0)))]), (false, [.pv (.sc (.int .i64 (i 1)))])], [(0, .row 1 (l 0))], 1)
theorem ent196 : Enters Try.prog 196 := ⟨Try.f196, Try.func196, by kernel_rfl, by kernel_rfl⟩

theorem L196s {w : World} {Xs : Nat → Prop} (d : List Int) (hd : inB d) (hl : d.length ≤ 6000) (c : Int) (hc0 : 0 ≤ c ∧ c ≤ 4) (hl2 : 9 + 8 * c ≤ (d.length : Int)) (es : List (List PV)) (hes : es = tU8.encs d) (fin : List Int) (wt : Int) :
    ∀ (k i n : Nat) (acc : List Int) (rs : List (List PV)), (k : Int) + i = c → n = acc.length → acc.length ≤ 5 → rs = tI64.encs acc → rowK k (d.drop (1 + 8 * i)) = true → acc ++ rowU k (d.drop (1 + 8 * i)) = fin → rdV (d.drop (1 + 8 * (i + k))) = wt → acc.length = i →
      W Try.prog 196 Try.f196 (Ent0 w Xs) (Back (Ent0 w Xs) (.tp [(true, [.arr 0 0 fin.length, .pv (.sc (.int .i64 wt))]), (false, [.pv (.sc (.int .i64 (9 + 8 * c)))])]) [(0, .row 1 (tI64.encs fin))] 1) (place (bodyOf Try.f196) [1,1,1,1,0,1,0,0] [])
      ⟨[(0, .one (.pv (.sl false 1 es))), (2, .one (.ptr 0 0 0)), (4, .one (.ptr 1 0 0)), (5, .one (.pv (.sc (.int .i64 c)))), (6, .one (.pv (.sc (.int .i64 i))))], [(0, .box [.pv .nl, .pv (.sc (.int .i64 0))]), (1, .box [.arr 2 0 n, .pv (.sc (.int .i64 0))]), (2, .row 1 rs)], 3⟩ := by
  obtain ⟨I, hI⟩ : ∃ I, I = real := ⟨_, rfl⟩; obtain ⟨K, hK⟩ : ∃ K : FuncId → En, K = fun g => (lk g [(193, en193)]).getD default := ⟨_, rfl⟩; have k193 : K 193 = en193 := (by subst hK; rfl); clear hK
  intro k
  induction k with
  | zero =>
    intro i n acc rs hk hna hac hrs hok hf hw hai
    have hlw : ((d.drop (1 + 8 * i)).take 8).length = 8 := by rw [List.length_take, List.length_drop]; omega
    have hp1 : (1 + 8 * (i : Int)).toNat = 1 + 8 * i := by omega
    have hp2 : (9 + 8 * (i : Int)).toNat = 9 + 8 * i := by omega
    have hp3 : 9 + 8 * i - (1 + 8 * i) = 8 := by omega
    have hbw : inB ((d.drop (1 + 8 * i)).take 8) := inB_take (inB_drop hd _) _
    have hw1 : ∀ x ∈ (d.drop (1 + 8 * i)).take 8, 0 ≤ x ∧ x ≤ 255 := hbw
    have q1 : rdOk ((d.drop (1 + 8 * i)).take 8) = rdOk (d.drop (1 + 8 * i)) := rdOk_take (by omega)
    have q3 : rdV ((d.drop (1 + 8 * i)).take 8) = rdV (d.drop (1 + 8 * i)) := rdV_take (by omega)
    have q6 : (d.drop (1 + 8 * i)).drop 8 = d.drop (1 + 8 * (i + 1)) := by rw [List.drop_drop]; first | rfl | (congr 1; omega)
    have hokx : rdOk (d.drop (1 + 8 * i)) = true := hok
    have hf : acc = fin := by simpa [rowU] using hf
    have hw : rdV (d.drop (1 + 8 * i)) = wt := by simpa using hw
    refine W_go (Y := (Tab.calls [(193, false, callVw I (callE I (K 193) sh193))])) xok (TabOk.calls mixed ⟨EntryOk.vw (s193 hI k193) hI, notQuiet, trivial⟩) Try.func196 rfl 2000 _ hI ?_; (conv => arg 4; cbv)
    repeat' (first | ((with_reducible refine on_eqs ?_ ?_); (focus (with_reducible rfl)); conv => arg 4; cbv) | (with_reducible refine on_both ?_ ?_ <;> (conv => arg 4; cbv)) | (with_reducible refine on_true (by assumption) ?_; conv => arg 4; cbv) | (with_reducible refine on_false (by assumption) ?_; conv => arg 4; cbv) | (with_reducible refine on_ask (fun g => ?_) (fun g => ?_) <;> (have h := g) <;> (try simp (disch := omega) [hI, k193, en193, an193, hes, hna, hrs, hlw, hp1, hp2, hp3, hw1, q1, hokx, -List.drop_one, -List.drop_drop, -List.length_eq_zero_iff] at h) <;> (try (exfalso; omega)) <;> (conv => arg 4; cbv)) | ((with_reducible refine on_must ?_ ?_); (focus (first | (simp (disch := omega) [hI, k193, en193, an193, hes, hna, hrs, hlw, hp1, hp2, hp3, hw1, q1, hokx, -List.drop_one, -List.drop_drop]; done) | (simp (disch := omega) [hI, k193, en193, an193, hes, hna, hrs, hlw, hp1, hp2, hp3, hw1, q1, hokx, -List.drop_one, -List.drop_drop]; omega) | (simp (disch := omega) [hI, k193, en193, an193, hes, hna, hrs, hlw, hp1, hp2, hp3, hw1, q1, hokx, -List.drop_one, -List.drop_drop]; assumption) | (simp (disch := omega) [hI, k193, en193, an193, hes, hna, hrs, hlw, hp1, hp2, hp3, hw1, q1, hokx, -List.drop_one, -List.drop_drop]; (refine And.intro ?_ ?_) <;> (first | omega | assumption)))); conv => arg 4; cbv))
    (with_reducible refine on_loop ?_); refine W_go (Y := (Tab.calls [(193, false, callVw I (callE I (K 193) sh193))])) xok (TabOk.calls mixed ⟨EntryOk.vw (s193 hI k193) hI, notQuiet, trivial⟩) Try.func196 rfl 2000 _ hI ?_; (conv => arg 4; cbv)
    repeat' (first | ((with_reducible refine on_eqs ?_ ?_); (focus (with_reducible rfl)); conv => arg 4; cbv) | (with_reducible refine on_both ?_ ?_ <;> (conv => arg 4; cbv)) | (with_reducible refine on_true (by assumption) ?_; conv => arg 4; cbv) | (with_reducible refine on_false (by assumption) ?_; conv => arg 4; cbv) | (with_reducible refine on_ask (fun g => ?_) (fun g => ?_) <;> (have h := g) <;> (try simp (disch := omega) [hI, k193, en193, an193, hes, hna, hrs, hlw, hp1, hp2, hp3, hw1, q1, hokx, -List.drop_one, -List.drop_drop, -List.length_eq_zero_iff] at h) <;> (try (exfalso; omega)) <;> (conv => arg 4; cbv)) | ((with_reducible refine on_must ?_ ?_); (focus (first | (simp (disch := omega) [hI, k193, en193, an193, hes, hna, hrs, hlw, hp1, hp2, hp3, hw1, q1, hokx, -List.drop_one, -List.drop_drop]; done) | (simp (disch := omega) [hI, k193, en193, an193, hes, hna, hrs, hlw, hp1, hp2, hp3, hw1, q1, hokx, -List.drop_one, -List.drop_drop]; omega) | (simp (disch := omega) [hI, k193, en193, an193, hes, hna, hrs, hlw, hp1, hp2, hp3, hw1, q1, hokx, -List.drop_one, -List.drop_drop]; assumption) | (simp (disch := omega) [hI, k193, en193, an193, hes, hna, hrs, hlw, hp1, hp2, hp3, hw1, q1, hokx, -List.drop_one, -List.drop_drop]; (refine And.intro ?_ ?_) <;> (first | omega | assumption)))); conv => arg 4; cbv))
    (with_reducible refine on_ret ?_); refine Ended_of rfl ?_; (conv => lhs; cbv)
    rw [hrs, hna, hf]
    simp (disch := omega) [hI, k193, en193, an193, hes, hna, hrs, hlw, hp1, hp2, hp3, hw1, q1, hokx, -List.drop_one, -List.drop_drop, q3, hw]
    try omega
  | succ k ih =>
    intro i n acc rs hk hna hac hrs hok hf hw hai
    have hlw : ((d.drop (1 + 8 * i)).take 8).length = 8 := by rw [List.length_take, List.length_drop]; omega
    have hp1 : (1 + 8 * (i : Int)).toNat = 1 + 8 * i := by omega
    have hp2 : (9 + 8 * (i : Int)).toNat = 9 + 8 * i := by omega
    have hp3 : 9 + 8 * i - (1 + 8 * i) = 8 := by omega
    have hbw : inB ((d.drop (1 + 8 * i)).take 8) := inB_take (inB_drop hd _) _
    have hw1 : ∀ x ∈ (d.drop (1 + 8 * i)).take 8, 0 ≤ x ∧ x ≤ 255 := hbw
    have q1 : rdOk ((d.drop (1 + 8 * i)).take 8) = rdOk (d.drop (1 + 8 * i)) := rdOk_take (by omega)
    have q3 : rdV ((d.drop (1 + 8 * i)).take 8) = rdV (d.drop (1 + 8 * i)) := rdV_take (by omega)
    have q6 : (d.drop (1 + 8 * i)).drop 8 = d.drop (1 + 8 * (i + 1)) := by rw [List.drop_drop]; first | rfl | (congr 1; omega)
    rw [rowK, q6] at hok
    rw [rowU, q6] at hf
    have hokx : rdOk (d.drop (1 + 8 * i)) = true := by simp only [Bool.and_eq_true] at hok; exact hok.1
    have hok2 : rowK k (d.drop (1 + 8 * (i + 1))) = true := by simp only [Bool.and_eq_true] at hok; exact hok.2
    refine W_go (Y := (Tab.calls [(193, false, callVw I (callE I (K 193) sh193))])) xok (TabOk.calls mixed ⟨EntryOk.vw (s193 hI k193) hI, notQuiet, trivial⟩) Try.func196 rfl 2000 _ hI ?_; (conv => arg 4; cbv)
    repeat' (first | ((with_reducible refine on_eqs ?_ ?_); (focus (with_reducible rfl)); conv => arg 4; cbv) | (with_reducible refine on_both ?_ ?_ <;> (conv => arg 4; cbv)) | (with_reducible refine on_true (by assumption) ?_; conv => arg 4; cbv) | (with_reducible refine on_false (by assumption) ?_; conv => arg 4; cbv) | (with_reducible refine on_ask (fun g => ?_) (fun g => ?_) <;> (have h := g) <;> (try simp (disch := omega) [hI, k193, en193, an193, hes, hna, hrs, hlw, hp1, hp2, hp3, hw1, q1, hokx, -List.drop_one, -List.drop_drop, -List.length_eq_zero_iff] at h) <;> (try (exfalso; omega)) <;> (conv => arg 4; cbv)) | ((with_reducible refine on_must ?_ ?_); (focus (first | (simp (disch := omega) [hI, k193, en193, an193, hes, hna, hrs, hlw, hp1, hp2, hp3, hw1, q1, hokx, -List.drop_one, -List.drop_drop]; done) | (simp (disch := omega) [hI, k193, en193, an193, hes, hna, hrs, hlw, hp1, hp2, hp3, hw1, q1, hokx, -List.drop_one, -List.drop_drop]; omega) | (simp (disch := omega) [hI, k193, en193, an193, hes, hna, hrs, hlw, hp1, hp2, hp3, hw1, q1, hokx, -List.drop_one, -List.drop_drop]; assumption) | (simp (disch := omega) [hI, k193, en193, an193, hes, hna, hrs, hlw, hp1, hp2, hp3, hw1, q1, hokx, -List.drop_one, -List.drop_drop]; (refine And.intro ?_ ?_) <;> (first | omega | assumption)))); conv => arg 4; cbv))
    (with_reducible refine on_loop ?_); simp only [List.cons_append, List.nil_append]; refine W_norm [0, 2, 4, 5, 6] ?_ (ih (i + 1) _ (acc ++ [rdV (d.drop (1 + 8 * i))]) _ (by omega) rfl (by simp; omega) rfl hok2 (by rw [← hf]; simp) (by rw [← hw]; congr 2; omega) (by simp; omega)); (conv => lhs; cbv)
    simp (disch := omega) [hI, k193, en193, an193, hes, hna, hrs, hlw, hp1, hp2, hp3, hw1, q1, hokx, -List.drop_one, -List.drop_drop, q3, tI64.encs_append]
    try rfl
theorem L196f {w : World} {Xs : Nat → Prop} (d : List Int) (hd : inB d) (hl : d.length ≤ 6000) (c : Int) (hc0 : 0 ≤ c ∧ c ≤ 4) (hl2 : 9 + 8 * c ≤ (d.length : Int)) (es : List (List PV)) (hes : es = tU8.encs d) :
    ∀ (k i n : Nat) (acc : List Int) (rs : List (List PV)), (k : Int) + i = c → n = acc.length → acc.length ≤ 5 → rs = tI64.encs acc → rowK k (d.drop (1 + 8 * i)) = false → acc.length = i →
      W Try.prog 196 Try.f196 (Ent0 w Xs) (Back (Ent0 w Xs) (.tp [(true, [.pv .nl, .pv (.sc (.int .i64 0))]), (false, [.pv (.sc (.int .i64 0))])]) [] 0) (place (bodyOf Try.f196) [1,1,1,1,0,1,0,0] [])
      ⟨[(0, .one (.pv (.sl false 1 es))), (2, .one (.ptr 0 0 0)), (4, .one (.ptr 1 0 0)), (5, .one (.pv (.sc (.int .i64 c)))), (6, .one (.pv (.sc (.int .i64 i))))], [(0, .box [.pv .nl, .pv (.sc (.int .i64 0))]), (1, .box [.arr 2 0 n, .pv (.sc (.int .i64 0))]), (2, .row 1 rs)], 3⟩ := by
  obtain ⟨I, hI⟩ : ∃ I, I = real := ⟨_, rfl⟩; obtain ⟨K, hK⟩ : ∃ K : FuncId → En, K = fun g => (lk g [(193, en193)]).getD default := ⟨_, rfl⟩; have k193 : K 193 = en193 := (by subst hK; rfl); clear hK
  intro k
  induction k with
  | zero =>
    intro i n acc rs hk hna hac hrs hok hai
    have hlw : ((d.drop (1 + 8 * i)).take 8).length = 8 := by rw [List.length_take, List.length_drop]; omega
    have hp1 : (1 + 8 * (i : Int)).toNat = 1 + 8 * i := by omega
    have hp2 : (9 + 8 * (i : Int)).toNat = 9 + 8 * i := by omega
    have hp3 : 9 + 8 * i - (1 + 8 * i) = 8 := by omega
    have hbw : inB ((d.drop (1 + 8 * i)).take 8) := inB_take (inB_drop hd _) _
    have hw1 : ∀ x ∈ (d.drop (1 + 8 * i)).take 8, 0 ≤ x ∧ x ≤ 255 := hbw
    have q1 : rdOk ((d.drop (1 + 8 * i)).take 8) = rdOk (d.drop (1 + 8 * i)) := rdOk_take (by omega)
    have q3 : rdV ((d.drop (1 + 8 * i)).take 8) = rdV (d.drop (1 + 8 * i)) := rdV_take (by omega)
    have q6 : (d.drop (1 + 8 * i)).drop 8 = d.drop (1 + 8 * (i + 1)) := by rw [List.drop_drop]; first | rfl | (congr 1; omega)
    have hokx : rdOk (d.drop (1 + 8 * i)) = false := hok
    refine W_go (Y := (Tab.calls [(193, false, callVw I (callE I (K 193) sh193))])) xok (TabOk.calls mixed ⟨EntryOk.vw (s193 hI k193) hI, notQuiet, trivial⟩) Try.func196 rfl 2000 _ hI ?_; (conv => arg 4; cbv)
    repeat' (first | ((with_reducible refine on_eqs ?_ ?_); (focus (with_reducible rfl)); conv => arg 4; cbv) | (with_reducible refine on_both ?_ ?_ <;> (conv => arg 4; cbv)) | (with_reducible refine on_true (by assumption) ?_; conv => arg 4; cbv) | (with_reducible refine on_false (by assumption) ?_; conv => arg 4; cbv) | (with_reducible refine on_ask (fun g => ?_) (fun g => ?_) <;> (have h := g) <;> (try simp (disch := omega) [hI, k193, en193, an193, hes, hna, hrs, hlw, hp1, hp2, hp3, hw1, q1, hokx, -List.drop_one, -List.drop_drop, -List.length_eq_zero_iff] at h) <;> (try (exfalso; omega)) <;> (conv => arg 4; cbv)) | ((with_reducible refine on_must ?_ ?_); (focus (first | (simp (disch := omega) [hI, k193, en193, an193, hes, hna, hrs, hlw, hp1, hp2, hp3, hw1, q1, hokx, -List.drop_one, -List.drop_drop]; done) | (simp (disch := omega) [hI, k193, en193, an193, hes, hna, hrs, hlw, hp1, hp2, hp3, hw1, q1, hokx, -List.drop_one, -List.drop_drop]; omega) | (simp (disch := omega) [hI, k193, en193, an193, hes, hna, hrs, hlw, hp1, hp2, hp3, hw1, q1, hokx, -List.drop_one, -List.drop_drop]; assumption) | (simp (disch := omega) [hI, k193, en193, an193, hes, hna, hrs, hlw, hp1, hp2, hp3, hw1, q1, hokx, -List.drop_one, -List.drop_drop]; (refine And.intro ?_ ?_) <;> (first | omega | assumption)))); conv => arg 4; cbv))
    all_goals first | ((with_reducible refine on_ret ?_); refine Ended_of rfl ?_; (conv => lhs; cbv); done) | ((with_reducible refine on_ret ?_); refine Ended_of rfl ?_; (conv => lhs; cbv); rfl)
  | succ k ih =>
    intro i n acc rs hk hna hac hrs hok hai
    have hlw : ((d.drop (1 + 8 * i)).take 8).length = 8 := by rw [List.length_take, List.length_drop]; omega
    have hp1 : (1 + 8 * (i : Int)).toNat = 1 + 8 * i := by omega
    have hp2 : (9 + 8 * (i : Int)).toNat = 9 + 8 * i := by omega
    have hp3 : 9 + 8 * i - (1 + 8 * i) = 8 := by omega
    have hbw : inB ((d.drop (1 + 8 * i)).take 8) := inB_take (inB_drop hd _) _
    have hw1 : ∀ x ∈ (d.drop (1 + 8 * i)).take 8, 0 ≤ x ∧ x ≤ 255 := hbw
    have q1 : rdOk ((d.drop (1 + 8 * i)).take 8) = rdOk (d.drop (1 + 8 * i)) := rdOk_take (by omega)
    have q3 : rdV ((d.drop (1 + 8 * i)).take 8) = rdV (d.drop (1 + 8 * i)) := rdV_take (by omega)
    have q6 : (d.drop (1 + 8 * i)).drop 8 = d.drop (1 + 8 * (i + 1)) := by rw [List.drop_drop]; first | rfl | (congr 1; omega)
    rw [rowK, q6] at hok
    cases hokx : rdOk (d.drop (1 + 8 * i)) with
    | false =>
      refine W_go (Y := (Tab.calls [(193, false, callVw I (callE I (K 193) sh193))])) xok (TabOk.calls mixed ⟨EntryOk.vw (s193 hI k193) hI, notQuiet, trivial⟩) Try.func196 rfl 2000 _ hI ?_; (conv => arg 4; cbv)
      repeat' (first | ((with_reducible refine on_eqs ?_ ?_); (focus (with_reducible rfl)); conv => arg 4; cbv) | (with_reducible refine on_both ?_ ?_ <;> (conv => arg 4; cbv)) | (with_reducible refine on_true (by assumption) ?_; conv => arg 4; cbv) | (with_reducible refine on_false (by assumption) ?_; conv => arg 4; cbv) | (with_reducible refine on_ask (fun g => ?_) (fun g => ?_) <;> (have h := g) <;> (try simp (disch := omega) [hI, k193, en193, an193, hes, hna, hrs, hlw, hp1, hp2, hp3, hw1, q1, hokx, -List.drop_one, -List.drop_drop, -List.length_eq_zero_iff] at h) <;> (try (exfalso; omega)) <;> (conv => arg 4; cbv)) | ((with_reducible refine on_must ?_ ?_); (focus (first | (simp (disch := omega) [hI, k193, en193, an193, hes, hna, hrs, hlw, hp1, hp2, hp3, hw1, q1, hokx, -List.drop_one, -List.drop_drop]; done) | (simp (disch := omega) [hI, k193, en193, an193, hes, hna, hrs, hlw, hp1, hp2, hp3, hw1, q1, hokx, -List.drop_one, -List.drop_drop]; omega) | (simp (disch := omega) [hI, k193, en193, an193, hes, hna, hrs, hlw, hp1, hp2, hp3, hw1, q1, hokx, -List.drop_one, -List.drop_drop]; assumption) | (simp (disch := omega) [hI, k193, en193, an193, hes, hna, hrs, hlw, hp1, hp2, hp3, hw1, q1, hokx, -List.drop_one, -List.drop_drop]; (refine And.intro ?_ ?_) <;> (first | omega | assumption)))); conv => arg 4; cbv))
      all_goals first | ((with_reducible refine on_ret ?_); refine Ended_of rfl ?_; (conv => lhs; cbv); done) | ((with_reducible refine on_ret ?_); refine Ended_of rfl ?_; (conv => lhs; cbv); rfl)
    | true =>
      have hok2 : rowK k (d.drop (1 + 8 * (i + 1))) = false := by simpa [hokx] using hok
      refine W_go (Y := (Tab.calls [(193, false, callVw I (callE I (K 193) sh193))])) xok (TabOk.calls mixed ⟨EntryOk.vw (s193 hI k193) hI, notQuiet, trivial⟩) Try.func196 rfl 2000 _ hI ?_; (conv => arg 4; cbv)
      repeat' (first | ((with_reducible refine on_eqs ?_ ?_); (focus (with_reducible rfl)); conv => arg 4; cbv) | (with_reducible refine on_both ?_ ?_ <;> (conv => arg 4; cbv)) | (with_reducible refine on_true (by assumption) ?_; conv => arg 4; cbv) | (with_reducible refine on_false (by assumption) ?_; conv => arg 4; cbv) | (with_reducible refine on_ask (fun g => ?_) (fun g => ?_) <;> (have h := g) <;> (try simp (disch := omega) [hI, k193, en193, an193, hes, hna, hrs, hlw, hp1, hp2, hp3, hw1, q1, hokx, -List.drop_one, -List.drop_drop, -List.length_eq_zero_iff] at h) <;> (try (exfalso; omega)) <;> (conv => arg 4; cbv)) | ((with_reducible refine on_must ?_ ?_); (focus (first | (simp (disch := omega) [hI, k193, en193, an193, hes, hna, hrs, hlw, hp1, hp2, hp3, hw1, q1, hokx, -List.drop_one, -List.drop_drop]; done) | (simp (disch := omega) [hI, k193, en193, an193, hes, hna, hrs, hlw, hp1, hp2, hp3, hw1, q1, hokx, -List.drop_one, -List.drop_drop]; omega) | (simp (disch := omega) [hI, k193, en193, an193, hes, hna, hrs, hlw, hp1, hp2, hp3, hw1, q1, hokx, -List.drop_one, -List.drop_drop]; assumption) | (simp (disch := omega) [hI, k193, en193, an193, hes, hna, hrs, hlw, hp1, hp2, hp3, hw1, q1, hokx, -List.drop_one, -List.drop_drop]; (refine And.intro ?_ ?_) <;> (first | omega | assumption)))); conv => arg 4; cbv))
      (with_reducible refine on_loop ?_); simp only [List.cons_append, List.nil_append]; refine W_norm [0, 2, 4, 5, 6] ?_ (ih (i + 1) _ (acc ++ [rdV (d.drop (1 + 8 * i))]) _ (by omega) rfl (by simp; omega) rfl hok2 (by simp; omega)); (conv => lhs; cbv)
      simp (disch := omega) [hI, k193, en193, an193, hes, hna, hrs, hlw, hp1, hp2, hp3, hw1, q1, hokx, -List.drop_one, -List.drop_drop, q3, tI64.encs_append]
      try rfl



theorem okB196 (d : List Int) (hd : inB d) (hl : d.length ≤ 6000) (hb : enBad d = true) : Ok0 Try.prog 196 [(pL tU8).enc d] (.tp [(true, [.pv .nl, .pv (.sc (.int .i64 0))]), (false, [.pv (.sc (.int .i64 0))])]) [] 0 := by
  obtain ⟨I, hI⟩ : ∃ I, I = real := ⟨_, rfl⟩; obtain ⟨K, hK⟩ : ∃ K : FuncId → En, K = fun g => (lk g [(193, en193)]).getD default := ⟨_, rfl⟩; have k193 : K 193 = en193 := (by subst hK; rfl); clear hK
  have hna : True := trivial
  have hrs : True := trivial
  have hp1 : True := trivial
  have hp2 : True := trivial
  have hp3 : True := trivial
  obtain ⟨es, hes⟩ : ∃ es, es = tU8.encs d := ⟨_, rfl⟩
  show Ok0 Try.prog 196 [.one (.pv (.sl false 1 (tU8.encs d)))] _ _ _
  rw [← hes]
  by_cases h0 : d.length = 0
  · have hlw : True := trivial
    have hw1 : True := trivial
    have q1 : True := trivial
    have hokx : True := trivial
    have hcv : True := trivial
    refine Ok0_run (Y := (Tab.calls [(193, false, callVw I (callE I (K 193) sh193))])) xok (TabOk.calls mixed ⟨EntryOk.vw (s193 hI k193) hI, notQuiet, trivial⟩) Try.func196 rfl rfl rfl 2000 hI fun w Xs => ?_; (conv => arg 4; cbv)
    repeat' (first | ((with_reducible refine on_eqs ?_ ?_); (focus (with_reducible rfl)); conv => arg 4; cbv) | (with_reducible refine on_both ?_ ?_ <;> (conv => arg 4; cbv)) | (with_reducible refine on_true (by assumption) ?_; conv => arg 4; cbv) | (with_reducible refine on_false (by assumption) ?_; conv => arg 4; cbv) | (with_reducible refine on_ask (fun g => ?_) (fun g => ?_) <;> (have h := g) <;> (try simp (disch := omega) [hI, k193, en193, an193, hes, hna, hrs, hlw, hp1, hp2, hp3, hw1, q1, hokx, hcv, -List.drop_one, -List.drop_drop, -List.length_eq_zero_iff] at h) <;> (try (exfalso; omega)) <;> (conv => arg 4; cbv)) | ((with_reducible refine on_must ?_ ?_); (focus (first | (simp (disch := omega) [hI, k193, en193, an193, hes, hna, hrs, hlw, hp1, hp2, hp3, hw1, q1, hokx, hcv, -List.drop_one, -List.drop_drop]; done) | (simp (disch := omega) [hI, k193, en193, an193, hes, hna, hrs, hlw, hp1, hp2, hp3, hw1, q1, hokx, hcv, -List.drop_one, -List.drop_drop]; omega) | (simp (disch := omega) [hI, k193, en193, an193, hes, hna, hrs, hlw, hp1, hp2, hp3, hw1, q1, hokx, hcv, -List.drop_one, -List.drop_drop]; assumption) | (simp (disch := omega) [hI, k193, en193, an193, hes, hna, hrs, hlw, hp1, hp2, hp3, hw1, q1, hokx, hcv, -List.drop_one, -List.drop_drop]; (refine And.intro ?_ ?_) <;> (first | omega | assumption)))); conv => arg 4; cbv))
    all_goals first | ((with_reducible refine on_ret ?_); refine Ended_of rfl ?_; (conv => lhs; cbv); done) | ((with_reducible refine on_ret ?_); refine Ended_of rfl ?_; (conv => lhs; cbv); rfl) | (exfalso; omega)
  have hcb := hd _ (nth_mem (l := d) (i := 0) (by omega))
  have hcv : IntKind.i64.wrap (nth d 0) = nth d 0 := i64w_byte hcb
  by_cases h1 : 4 < nth d 0 ∨ (d.length : Int) < 9 + 8 * nth d 0
  · have hlw : True := trivial
    have hw1 : True := trivial
    have q1 : True := trivial
    have hokx : True := trivial
    refine Ok0_run (Y := (Tab.calls [(193, false, callVw I (callE I (K 193) sh193))])) xok (TabOk.calls mixed ⟨EntryOk.vw (s193 hI k193) hI, notQuiet, trivial⟩) Try.func196 rfl rfl rfl 2000 hI fun w Xs => ?_; (conv => arg 4; cbv)
    repeat' (first | ((with_reducible refine on_eqs ?_ ?_); (focus (with_reducible rfl)); conv => arg 4; cbv) | (with_reducible refine on_both ?_ ?_ <;> (conv => arg 4; cbv)) | (with_reducible refine on_true (by assumption) ?_; conv => arg 4; cbv) | (with_reducible refine on_false (by assumption) ?_; conv => arg 4; cbv) | (with_reducible refine on_ask (fun g => ?_) (fun g => ?_) <;> (have h := g) <;> (try simp (disch := omega) [hI, k193, en193, an193, hes, hna, hrs, hlw, hp1, hp2, hp3, hw1, q1, hokx, hcv, -List.drop_one, -List.drop_drop, -List.length_eq_zero_iff] at h) <;> (try (exfalso; omega)) <;> (conv => arg 4; cbv)) | ((with_reducible refine on_must ?_ ?_); (focus (first | (simp (disch := omega) [hI, k193, en193, an193, hes, hna, hrs, hlw, hp1, hp2, hp3, hw1, q1, hokx, hcv, -List.drop_one, -List.drop_drop]; done) | (simp (disch := omega) [hI, k193, en193, an193, hes, hna, hrs, hlw, hp1, hp2, hp3, hw1, q1, hokx, hcv, -List.drop_one, -List.drop_drop]; omega) | (simp (disch := omega) [hI, k193, en193, an193, hes, hna, hrs, hlw, hp1, hp2, hp3, hw1, q1, hokx, hcv, -List.drop_one, -List.drop_drop]; assumption) | (simp (disch := omega) [hI, k193, en193, an193, hes, hna, hrs, hlw, hp1, hp2, hp3, hw1, q1, hokx, hcv, -List.drop_one, -List.drop_drop]; (refine And.intro ?_ ?_) <;> (first | omega | assumption)))); conv => arg 4; cbv))
    all_goals first | ((with_reducible refine on_ret ?_); refine Ended_of rfl ?_; (conv => lhs; cbv); done) | ((with_reducible refine on_ret ?_); refine Ended_of rfl ?_; (conv => lhs; cbv); rfl) | (exfalso; omega)
  have hlw : ((d.drop 1).take 8).length = 8 := by rw [List.length_take, List.length_drop]; omega
  have hw1 : ∀ x ∈ (d.drop 1).take 8, 0 ≤ x ∧ x ≤ 255 := inB_take (inB_drop hd _) _
  have q1 : rdOk ((d.drop 1).take 8) = rdOk (d.drop 1) := rdOk_take (by omega)
  have q3 : rdV ((d.drop 1).take 8) = rdV (d.drop 1) := rdV_take (by omega)
  have hk : rowK (nth d 0).toNat (d.drop 1) = false := by
    unfold enBad at hb
    simp only [Bool.or_eq_true, decide_eq_true_eq, Bool.not_eq_true'] at hb
    rcases hb with ((hb | hb) | hb) | hb
    · omega
    · omega
    · omega
    · exact hb
  cases hokx : rdOk (d.drop 1) with
  | false =>
    refine Ok0_run (Y := (Tab.calls [(193, false, callVw I (callE I (K 193) sh193))])) xok (TabOk.calls mixed ⟨EntryOk.vw (s193 hI k193) hI, notQuiet, trivial⟩) Try.func196 rfl rfl rfl 2000 hI fun w Xs => ?_; (conv => arg 4; cbv)
    repeat' (first | ((with_reducible refine on_eqs ?_ ?_); (focus (with_reducible rfl)); conv => arg 4; cbv) | (with_reducible refine on_both ?_ ?_ <;> (conv => arg 4; cbv)) | (with_reducible refine on_true (by assumption) ?_; conv => arg 4; cbv) | (with_reducible refine on_false (by assumption) ?_; conv => arg 4; cbv) | (with_reducible refine on_ask (fun g => ?_) (fun g => ?_) <;> (have h := g) <;> (try simp (disch := omega) [hI, k193, en193, an193, hes, hna, hrs, hlw, hp1, hp2, hp3, hw1, q1, hokx, hcv, -List.drop_one, -List.drop_drop, -List.length_eq_zero_iff] at h) <;> (try (exfalso; omega)) <;> (conv => arg 4; cbv)) | ((with_reducible refine on_must ?_ ?_); (focus (first | (simp (disch := omega) [hI, k193, en193, an193, hes, hna, hrs, hlw, hp1, hp2, hp3, hw1, q1, hokx, hcv, -List.drop_one, -List.drop_drop]; done) | (simp (disch := omega) [hI, k193, en193, an193, hes, hna, hrs, hlw, hp1, hp2, hp3, hw1, q1, hokx, hcv, -List.drop_one, -List.drop_drop]; omega) | (simp (disch := omega) [hI, k193, en193, an193, hes, hna, hrs, hlw, hp1, hp2, hp3, hw1, q1, hokx, hcv, -List.drop_one, -List.drop_drop]; assumption) | (simp (disch := omega) [hI, k193, en193, an193, hes, hna, hrs, hlw, hp1, hp2, hp3, hw1, q1, hokx, hcv, -List.drop_one, -List.drop_drop]; (refine And.intro ?_ ?_) <;> (first | omega | assumption)))); conv => arg 4; cbv))
    all_goals first | (exfalso; omega) | ((with_reducible refine on_loop ?_); refine W_go (Y := (Tab.calls [(193, false, callVw I (callE I (K 193) sh193))])) xok (TabOk.calls mixed ⟨EntryOk.vw (s193 hI k193) hI, notQuiet, trivial⟩) Try.func196 rfl 2000 _ hI ?_; (conv => arg 4; cbv); done) | ((with_reducible refine on_loop ?_); refine W_go (Y := (Tab.calls [(193, false, callVw I (callE I (K 193) sh193))])) xok (TabOk.calls mixed ⟨EntryOk.vw (s193 hI k193) hI, notQuiet, trivial⟩) Try.func196 rfl 2000 _ hI ?_; (conv => arg 4; cbv))
    repeat' (first | ((with_reducible refine on_eqs ?_ ?_); (focus (with_reducible rfl)); conv => arg 4; cbv) | (with_reducible refine on_both ?_ ?_ <;> (conv => arg 4; cbv)) | (with_reducible refine on_true (by assumption) ?_; conv => arg 4; cbv) | (with_reducible refine on_false (by assumption) ?_; conv => arg 4; cbv) | (with_reducible refine on_ask (fun g => ?_) (fun g => ?_) <;> (have h := g) <;> (try simp (disch := omega) [hI, k193, en193, an193, hes, hna, hrs, hlw, hp1, hp2, hp3, hw1, q1, hokx, hcv, -List.drop_one, -List.drop_drop, -List.length_eq_zero_iff] at h) <;> (try (exfalso; omega)) <;> (conv => arg 4; cbv)) | ((with_reducible refine on_must ?_ ?_); (focus (first | (simp (disch := omega) [hI, k193, en193, an193, hes, hna, hrs, hlw, hp1, hp2, hp3, hw1, q1, hokx, hcv, -List.drop_one, -List.drop_drop]; done) | (simp (disch := omega) [hI, k193, en193, an193, hes, hna, hrs, hlw, hp1, hp2, hp3, hw1, q1, hokx, hcv, -List.drop_one, -List.drop_drop]; omega) | (simp (disch := omega) [hI, k193, en193, an193, hes, hna, hrs, hlw, hp1, hp2, hp3, hw1, q1, hokx, hcv, -List.drop_one, -List.drop_drop]; assumption) | (simp (disch := omega) [hI, k193, en193, an193, hes, hna, hrs, hlw, hp1, hp2, hp3, hw1, q1, hokx, hcv, -List.drop_one, -List.drop_drop]; (refine And.intro ?_ ?_) <;> (first | omega | assumption)))); conv => arg 4; cbv))
    all_goals first | ((with_reducible refine on_ret ?_); refine Ended_of rfl ?_; (conv => lhs; cbv); done) | ((with_reducible refine on_ret ?_); refine Ended_of rfl ?_; (conv => lhs; cbv); rfl) | (exfalso; omega)
  | true =>
    obtain ⟨k, hkk⟩ : ∃ k, (nth d 0).toNat = k + 1 := by
      cases hx : (nth d 0).toNat with
      | zero => rw [hx, rowK, hokx] at hk; cases hk
      | succ k => exact ⟨k, rfl⟩
    rw [hkk, rowK, hokx, Bool.true_and, List.drop_drop] at hk
    refine Ok0_run (Y := (Tab.calls [(193, false, callVw I (callE I (K 193) sh193))])) xok (TabOk.calls mixed ⟨EntryOk.vw (s193 hI k193) hI, notQuiet, trivial⟩) Try.func196 rfl rfl rfl 2000 hI fun w Xs => ?_; (conv => arg 4; cbv)
    repeat' (first | ((with_reducible refine on_eqs ?_ ?_); (focus (with_reducible rfl)); conv => arg 4; cbv) | (with_reducible refine on_both ?_ ?_ <;> (conv => arg 4; cbv)) | (with_reducible refine on_true (by assumption) ?_; conv => arg 4; cbv) | (with_reducible refine on_false (by assumption) ?_; conv => arg 4; cbv) | (with_reducible refine on_ask (fun g => ?_) (fun g => ?_) <;> (have h := g) <;> (try simp (disch := omega) [hI, k193, en193, an193, hes, hna, hrs, hlw, hp1, hp2, hp3, hw1, q1, hokx, hcv, -List.drop_one, -List.drop_drop, -List.length_eq_zero_iff] at h) <;> (try (exfalso; omega)) <;> (conv => arg 4; cbv)) | ((with_reducible refine on_must ?_ ?_); (focus (first | (simp (disch := omega) [hI, k193, en193, an193, hes, hna, hrs, hlw, hp1, hp2, hp3, hw1, q1, hokx, hcv, -List.drop_one, -List.drop_drop]; done) | (simp (disch := omega) [hI, k193, en193, an193, hes, hna, hrs, hlw, hp1, hp2, hp3, hw1, q1, hokx, hcv, -List.drop_one, -List.drop_drop]; omega) | (simp (disch := omega) [hI, k193, en193, an193, hes, hna, hrs, hlw, hp1, hp2, hp3, hw1, q1, hokx, hcv, -List.drop_one, -List.drop_drop]; assumption) | (simp (disch := omega) [hI, k193, en193, an193, hes, hna, hrs, hlw, hp1, hp2, hp3, hw1, q1, hokx, hcv, -List.drop_one, -List.drop_drop]; (refine And.intro ?_ ?_) <;> (first | omega | assumption)))); conv => arg 4; cbv))
    all_goals first | (exfalso; omega) | ((with_reducible refine on_loop ?_); refine W_go (Y := (Tab.calls [(193, false, callVw I (callE I (K 193) sh193))])) xok (TabOk.calls mixed ⟨EntryOk.vw (s193 hI k193) hI, notQuiet, trivial⟩) Try.func196 rfl 2000 _ hI ?_; (conv => arg 4; cbv))
    repeat' (first | ((with_reducible refine on_eqs ?_ ?_); (focus (with_reducible rfl)); conv => arg 4; cbv) | (with_reducible refine on_both ?_ ?_ <;> (conv => arg 4; cbv)) | (with_reducible refine on_true (by assumption) ?_; conv => arg 4; cbv) | (with_reducible refine on_false (by assumption) ?_; conv => arg 4; cbv) | (with_reducible refine on_ask (fun g => ?_) (fun g => ?_) <;> (have h := g) <;> (try simp (disch := omega) [hI, k193, en193, an193, hes, hna, hrs, hlw, hp1, hp2, hp3, hw1, q1, hokx, hcv, -List.drop_one, -List.drop_drop, -List.length_eq_zero_iff] at h) <;> (try (exfalso; omega)) <;> (conv => arg 4; cbv)) | ((with_reducible refine on_must ?_ ?_); (focus (first | (simp (disch := omega) [hI, k193, en193, an193, hes, hna, hrs, hlw, hp1, hp2, hp3, hw1, q1, hokx, hcv, -List.drop_one, -List.drop_drop]; done) | (simp (disch := omega) [hI, k193, en193, an193, hes, hna, hrs, hlw, hp1, hp2, hp3, hw1, q1, hokx, hcv, -List.drop_one, -List.drop_drop]; omega) | (simp (disch := omega) [hI, k193, en193, an193, hes, hna, hrs, hlw, hp1, hp2, hp3, hw1, q1, hokx, hcv, -List.drop_one, -List.drop_drop]; assumption) | (simp (disch := omega) [hI, k193, en193, an193, hes, hna, hrs, hlw, hp1, hp2, hp3, hw1, q1, hokx, hcv, -List.drop_one, -List.drop_drop]; (refine And.intro ?_ ?_) <;> (first | omega | assumption)))); conv => arg 4; cbv))
    (with_reducible refine on_loop ?_); simp only [List.cons_append, List.nil_append]; refine W_norm [0, 2, 4, 5, 6] ?_ (L196f d hd hl (nth d 0) (by omega) (by omega) es hes k 1 1 [rdV (d.drop 1)] _ (by omega) rfl (by simp) rfl hk rfl); (conv => lhs; cbv)
    simp (disch := omega) [hI, k193, en193, an193, hes, hna, hrs, hlw, hp1, hp2, hp3, hw1, q1, hokx, hcv, -List.drop_one, -List.drop_drop, q3]
    try rfl
theorem okN196 (d : List Int) (hd : inB d) (hl : d.length ≤ 6000) (hb : enBad d = false) (hz : nth d 0 = 0) (wt : Int) (hwt : rdV (d.drop 1) = wt) : Ok0 Try.prog 196 [(pL tU8).enc d] (.tp [(true, [.pv .nl, .pv (.sc (.int .i64 wt))]), (false, [.pv (.sc (.int .i64 9))])]) [] 0 := by
  obtain ⟨I, hI⟩ : ∃ I, I = real := ⟨_, rfl⟩; obtain ⟨K, hK⟩ : ∃ K : FuncId → En, K = fun g => (lk g [(193, en193)]).getD default := ⟨_, rfl⟩; have k193 : K 193 = en193 := (by subst hK; rfl); clear hK
  have hna : True := trivial
  have hrs : True := trivial
  have hp1 : True := trivial
  have hp2 : True := trivial
  have hp3 : True := trivial
  obtain ⟨es, hes⟩ : ∃ es, es = tU8.encs d := ⟨_, rfl⟩
  show Ok0 Try.prog 196 [.one (.pv (.sl false 1 (tU8.encs d)))] _ _ _
  rw [← hes]
  unfold enBad at hb
  simp only [Bool.or_eq_false_iff, decide_eq_false_iff_not, Bool.not_eq_false'] at hb
  obtain ⟨⟨⟨h0, h1⟩, h2⟩, h3⟩ := hb
  have hcb := hd _ (nth_mem (l := d) (i := 0) (by omega))
  have hcv : IntKind.i64.wrap (nth d 0) = nth d 0 := i64w_byte hcb
  have hlw : ((d.drop 1).take 8).length = 8 := by rw [List.length_take, List.length_drop]; omega
  have hw1 : ∀ x ∈ (d.drop 1).take 8, 0 ≤ x ∧ x ≤ 255 := inB_take (inB_drop hd _) _
  have q1 : rdOk ((d.drop 1).take 8) = rdOk (d.drop 1) := rdOk_take (by omega)
  have q3 : rdV ((d.drop 1).take 8) = rdV (d.drop 1) := rdV_take (by omega)
  have hokx : rdOk (d.drop 1) = true := by rw [hz] at h3; exact h3
  refine Ok0_run (Y := (Tab.calls [(193, false, callVw I (callE I (K 193) sh193))])) xok (TabOk.calls mixed ⟨EntryOk.vw (s193 hI k193) hI, notQuiet, trivial⟩) Try.func196 rfl rfl rfl 2000 hI fun w Xs => ?_; (conv => arg 4; cbv)
  repeat' (first | ((with_reducible refine on_eqs ?_ ?_); (focus (with_reducible rfl)); conv => arg 4; cbv) | (with_reducible refine on_both ?_ ?_ <;> (conv => arg 4; cbv)) | (with_reducible refine on_true (by assumption) ?_; conv => arg 4; cbv) | (with_reducible refine on_false (by assumption) ?_; conv => arg 4; cbv) | (with_reducible refine on_ask (fun g => ?_) (fun g => ?_) <;> (have h := g) <;> (try simp (disch := omega) [hI, k193, en193, an193, hes, hna, hrs, hlw, hp1, hp2, hp3, hw1, q1, hokx, hcv, -List.drop_one, -List.drop_drop, -List.length_eq_zero_iff] at h) <;> (try (exfalso; omega)) <;> (conv => arg 4; cbv)) | ((with_reducible refine on_must ?_ ?_); (focus (first | (simp (disch := omega) [hI, k193, en193, an193, hes, hna, hrs, hlw, hp1, hp2, hp3, hw1, q1, hokx, hcv, -List.drop_one, -List.drop_drop]; done) | (simp (disch := omega) [hI, k193, en193, an193, hes, hna, hrs, hlw, hp1, hp2, hp3, hw1, q1, hokx, hcv, -List.drop_one, -List.drop_drop]; omega) | (simp (disch := omega) [hI, k193, en193, an193, hes, hna, hrs, hlw, hp1, hp2, hp3, hw1, q1, hokx, hcv, -List.drop_one, -List.drop_drop]; assumption) | (simp (disch := omega) [hI, k193, en193, an193, hes, hna, hrs, hlw, hp1, hp2, hp3, hw1, q1, hokx, hcv, -List.drop_one, -List.drop_drop]; (refine And.intro ?_ ?_) <;> (first | omega | assumption)))); conv => arg 4; cbv))
  all_goals first | (exfalso; omega) | ((with_reducible refine on_loop ?_); refine W_go (Y := (Tab.calls [(193, false, callVw I (callE I (K 193) sh193))])) xok (TabOk.calls mixed ⟨EntryOk.vw (s193 hI k193) hI, notQuiet, trivial⟩) Try.func196 rfl 2000 _ hI ?_; (conv => arg 4; cbv))
  repeat' (first | ((with_reducible refine on_eqs ?_ ?_); (focus (with_reducible rfl)); conv => arg 4; cbv) | (with_reducible refine on_both ?_ ?_ <;> (conv => arg 4; cbv)) | (with_reducible refine on_true (by assumption) ?_; conv => arg 4; cbv) | (with_reducible refine on_false (by assumption) ?_; conv => arg 4; cbv) | (with_reducible refine on_ask (fun g => ?_) (fun g => ?_) <;> (have h := g) <;> (try simp (disch := omega) [hI, k193, en193, an193, hes, hna, hrs, hlw, hp1, hp2, hp3, hw1, q1, hokx, hcv, -List.drop_one, -List.drop_drop, -List.length_eq_zero_iff] at h) <;> (try (exfalso; omega)) <;> (conv => arg 4; cbv)) | ((with_reducible refine on_must ?_ ?_); (focus (first | (simp (disch := omega) [hI, k193, en193, an193, hes, hna, hrs, hlw, hp1, hp2, hp3, hw1, q1, hokx, hcv, -List.drop_one, -List.drop_drop]; done) | (simp (disch := omega) [hI, k193, en193, an193, hes, hna, hrs, hlw, hp1, hp2, hp3, hw1, q1, hokx, hcv, -List.drop_one, -List.drop_drop]; omega) | (simp (disch := omega) [hI, k193, en193, an193, hes, hna, hrs, hlw, hp1, hp2, hp3, hw1, q1, hokx, hcv, -List.drop_one, -List.drop_drop]; assumption) | (simp (disch := omega) [hI, k193, en193, an193, hes, hna, hrs, hlw, hp1, hp2, hp3, hw1, q1, hokx, hcv, -List.drop_one, -List.drop_drop]; (refine And.intro ?_ ?_) <;> (first | omega | assumption)))); conv => arg 4; cbv))
  all_goals first | (exfalso; omega) | ((with_reducible refine on_loop ?_); refine W_go (Y := (Tab.calls [(193, false, callVw I (callE I (K 193) sh193))])) xok (TabOk.calls mixed ⟨EntryOk.vw (s193 hI k193) hI, notQuiet, trivial⟩) Try.func196 rfl 2000 _ hI ?_; (conv => arg 4; cbv))
  repeat' (first | ((with_reducible refine on_eqs ?_ ?_); (focus (with_reducible rfl)); conv => arg 4; cbv) | (with_reducible refine on_both ?_ ?_ <;> (conv => arg 4; cbv)) | (with_reducible refine on_true (by assumption) ?_; conv => arg 4; cbv) | (with_reducible refine on_false (by assumption) ?_; conv => arg 4; cbv) | (with_reducible refine on_ask (fun g => ?_) (fun g => ?_) <;> (have h := g) <;> (try simp (disch := omega) [hI, k193, en193, an193, hes, hna, hrs, hlw, hp1, hp2, hp3, hw1, q1, hokx, hcv, -List.drop_one, -List.drop_drop, -List.length_eq_zero_iff] at h) <;> (try (exfalso; omega)) <;> (conv => arg 4; cbv)) | ((with_reducible refine on_must ?_ ?_); (focus (first | (simp (disch := omega) [hI, k193, en193, an193, hes, hna, hrs, hlw, hp1, hp2, hp3, hw1, q1, hokx, hcv, -List.drop_one, -List.drop_drop]; done) | (simp (disch := omega) [hI, k193, en193, an193, hes, hna, hrs, hlw, hp1, hp2, hp3, hw1, q1, hokx, hcv, -List.drop_one, -List.drop_drop]; omega) | (simp (disch := omega) [hI, k193, en193, an193, hes, hna, hrs, hlw, hp1, hp2, hp3, hw1, q1, hokx, hcv, -List.drop_one, -List.drop_drop]; assumption) | (simp (disch := omega) [hI, k193, en193, an193, hes, hna, hrs, hlw, hp1, hp2, hp3, hw1, q1, hokx, hcv, -List.drop_one, -List.drop_drop]; (refine And.intro ?_ ?_) <;> (first | omega | assumption)))); conv => arg 4; cbv))
  (with_reducible refine on_ret ?_); refine Ended_of rfl ?_; (conv => lhs; cbv)
  simp (disch := omega) [hI, k193, en193, an193, hes, hna, hrs, hlw, hp1, hp2, hp3, hw1, q1, hokx, hcv, -List.drop_one, -List.drop_drop, q3, hwt]
  all_goals omega
theorem okS196 (d : List Int) (hd : inB d) (hl : d.length ≤ 6000) (hb : enBad d = false) (hz : ¬ nth d 0 = 0) (c : Int) (hc : c = nth d 0) (fin : List Int) (hfin : fin = (enV d).row) (wt : Int) (hwt : wt = (enV d).weight) : Ok0 Try.prog 196 [(pL tU8).enc d] (.tp [(true, [.arr 0 0 fin.length, .pv (.sc (.int .i64 wt))]), (false, [.pv (.sc (.int .i64 (9 + 8 * c)))])]) [(0, .row 1 (tI64.encs fin))] 1 := by
  obtain ⟨I, hI⟩ : ∃ I, I = real := ⟨_, rfl⟩; obtain ⟨K, hK⟩ : ∃ K : FuncId → En, K = fun g => (lk g [(193, en193)]).getD default := ⟨_, rfl⟩; have k193 : K 193 = en193 := (by subst hK; rfl); clear hK
  have hna : True := trivial
  have hrs : True := trivial
  have hp1 : True := trivial
  have hp2 : True := trivial
  have hp3 : True := trivial
  obtain ⟨es, hes⟩ : ∃ es, es = tU8.encs d := ⟨_, rfl⟩
  show Ok0 Try.prog 196 [.one (.pv (.sl false 1 (tU8.encs d)))] _ _ _
  rw [← hes]
  unfold enBad at hb
  simp only [Bool.or_eq_false_iff, decide_eq_false_iff_not, Bool.not_eq_false'] at hb
  obtain ⟨⟨⟨h0, h1⟩, h2⟩, h3⟩ := hb
  have hcb := hd _ (nth_mem (l := d) (i := 0) (by omega))
  have hcv : IntKind.i64.wrap (nth d 0) = nth d 0 := i64w_byte hcb
  have hlw : ((d.drop 1).take 8).length = 8 := by rw [List.length_take, List.length_drop]; omega
  have hw1 : ∀ x ∈ (d.drop 1).take 8, 0 ≤ x ∧ x ≤ 255 := inB_take (inB_drop hd _) _
  have q1 : rdOk ((d.drop 1).take 8) = rdOk (d.drop 1) := rdOk_take (by omega)
  have q3 : rdV ((d.drop 1).take 8) = rdV (d.drop 1) := rdV_take (by omega)
  obtain ⟨k, hkk⟩ : ∃ k, (nth d 0).toNat = k + 1 := ⟨(nth d 0).toNat - 1, by omega⟩
  unfold enV at hfin hwt
  rw [hkk] at hfin hwt
  rw [hkk, rowK, List.drop_drop, Bool.and_eq_true] at h3
  simp only [rowU, List.drop_drop] at hfin
  have hokx : rdOk (d.drop 1) = true := h3.1
  subst hc
  refine Ok0_run (Y := (Tab.calls [(193, false, callVw I (callE I (K 193) sh193))])) xok (TabOk.calls mixed ⟨EntryOk.vw (s193 hI k193) hI, notQuiet, trivial⟩) Try.func196 rfl rfl rfl 2000 hI fun w Xs => ?_; (conv => arg 4; cbv)
  repeat' (first | ((with_reducible refine on_eqs ?_ ?_); (focus (with_reducible rfl)); conv => arg 4; cbv) | (with_reducible refine on_both ?_ ?_ <;> (conv => arg 4; cbv)) | (with_reducible refine on_true (by assumption) ?_; conv => arg 4; cbv) | (with_reducible refine on_false (by assumption) ?_; conv => arg 4; cbv) | (with_reducible refine on_ask (fun g => ?_) (fun g => ?_) <;> (have h := g) <;> (try simp (disch := omega) [hI, k193, en193, an193, hes, hna, hrs, hlw, hp1, hp2, hp3, hw1, q1, hokx, hcv, -List.drop_one, -List.drop_drop, -List.length_eq_zero_iff] at h) <;> (try (exfalso; omega)) <;> (conv => arg 4; cbv)) | ((with_reducible refine on_must ?_ ?_); (focus (first | (simp (disch := omega) [hI, k193, en193, an193, hes, hna, hrs, hlw, hp1, hp2, hp3, hw1, q1, hokx, hcv, -List.drop_one, -List.drop_drop]; done) | (simp (disch := omega) [hI, k193, en193, an193, hes, hna, hrs, hlw, hp1, hp2, hp3, hw1, q1, hokx, hcv, -List.drop_one, -List.drop_drop]; omega) | (simp (disch := omega) [hI, k193, en193, an193, hes, hna, hrs, hlw, hp1, hp2, hp3, hw1, q1, hokx, hcv, -List.drop_one, -List.drop_drop]; assumption) | (simp (disch := omega) [hI, k193, en193, an193, hes, hna, hrs, hlw, hp1, hp2, hp3, hw1, q1, hokx, hcv, -List.drop_one, -List.drop_drop]; (refine And.intro ?_ ?_) <;> (first | omega | assumption)))); conv => arg 4; cbv))
  all_goals first | (exfalso; omega) | ((with_reducible refine on_loop ?_); refine W_go (Y := (Tab.calls [(193, false, callVw I (callE I (K 193) sh193))])) xok (TabOk.calls mixed ⟨EntryOk.vw (s193 hI k193) hI, notQuiet, trivial⟩) Try.func196 rfl 2000 _ hI ?_; (conv => arg 4; cbv))
  repeat' (first | ((with_reducible refine on_eqs ?_ ?_); (focus (with_reducible rfl)); conv => arg 4; cbv) | (with_reducible refine on_both ?_ ?_ <;> (conv => arg 4; cbv)) | (with_reducible refine on_true (by assumption) ?_; conv => arg 4; cbv) | (with_reducible refine on_false (by assumption) ?_; conv => arg 4; cbv) | (with_reducible refine on_ask (fun g => ?_) (fun g => ?_) <;> (have h := g) <;> (try simp (disch := omega) [hI, k193, en193, an193, hes, hna, hrs, hlw, hp1, hp2, hp3, hw1, q1, hokx, hcv, -List.drop_one, -List.drop_drop, -List.length_eq_zero_iff] at h) <;> (try (exfalso; omega)) <;> (conv => arg 4; cbv)) | ((with_reducible refine on_must ?_ ?_); (focus (first | (simp (disch := omega) [hI, k193, en193, an193, hes, hna, hrs, hlw, hp1, hp2, hp3, hw1, q1, hokx, hcv, -List.drop_one, -List.drop_drop]; done) | (simp (disch := omega) [hI, k193, en193, an193, hes, hna, hrs, hlw, hp1, hp2, hp3, hw1, q1, hokx, hcv, -List.drop_one, -List.drop_drop]; omega) | (simp (disch := omega) [hI, k193, en193, an193, hes, hna, hrs, hlw, hp1, hp2, hp3, hw1, q1, hokx, hcv, -List.drop_one, -List.drop_drop]; assumption) | (simp (disch := omega) [hI, k193, en193, an193, hes, hna, hrs, hlw, hp1, hp2, hp3, hw1, q1, hokx, hcv, -List.drop_one, -List.drop_drop]; (refine And.intro ?_ ?_) <;> (first | omega | assumption)))); conv => arg 4; cbv))
  (with_reducible refine on_loop ?_); simp only [List.cons_append, List.nil_append]; refine W_norm [0, 2, 4, 5, 6] ?_ (L196s d hd hl (nth d 0) (by omega) (by omega) es hes fin wt k 1 1 [rdV (d.drop 1)] _ (by omega) rfl (by simp) rfl h3.2 (by rw [hfin]; rfl) (by rw [hwt]; congr 2; omega) rfl); (conv => lhs; cbv)
  simp (disch := omega) [hI, k193, en193, an193, hes, hna, hrs, hlw, hp1, hp2, hp3, hw1, q1, hokx, hcv, -List.drop_one, -List.drop_drop, q3]
  try rfl

theorem s196 {I : Ops} (hI : I = real) {e : En} (he : e = en196) : Sound Try.prog 196 (callE I e sh196) := by
  refine Sound.mkR ent196 hI ?_ he
  rintro ⟨d, ⟨⟩⟩ hp r σ n e
  
  have hp : (decide (d.length ≤ 6000) && d.all fun b => decide (0 ≤ b ∧ b ≤ 255)) = true := hp
  simp only [Bool.and_eq_true, List.all_eq_true, decide_eq_true_eq] at hp
  cases hb : enBad d with
  | true =>
    have e : (R.ok (.tp [(true, [.pv .nl, .pv (.sc (.int .i64 0))]), (false, [.pv (.sc (.int .i64 0))])], [], 0) : R (AV × Store × Nat)).val = some (r, σ, n) := by
      rw [← e]
      simp [sh196, an196, hb, val_ask]
    cases e
    exact okB196 d hp.2 hp.1 hb
  | false =>
    by_cases hz : nth d 0 = 0
    · have e : (R.ok (.tp [(true, [.pv .nl, .pv (.sc (.int .i64 (enV d).weight))]), (false, [.pv (.sc (.int .i64 9))])], [], 0) : R (AV × Store × Nat)).val = some (r, σ, n) := by
        rw [← e]
        simp [sh196, an196, hb, hz, val_ask]
      cases e
      exact okN196 d hp.2 hp.1 hb hz _ (by unfold enV; rw [hz]; rfl)
    · have e : (R.ok (.tp [(true, [.arr 0 0 (enV d).row.length, .pv (.sc (.int .i64 (enV d).weight))]), (false, [.pv (.sc (.int .i64 (9 + 8 * nth d 0)))])], [(0, .row 1 (tI64.encs (enV d).row))], 1) : R (AV × Store × Nat)).val = some (r, σ, n) := by
        rw [← e]
        simp [sh196, an196, hb, hz, val_ask]
      cases e
      exact okS196 d hp.2 hp.1 hb hz _ rfl _ rfl _ rfl
end Go.Proofs.Try
