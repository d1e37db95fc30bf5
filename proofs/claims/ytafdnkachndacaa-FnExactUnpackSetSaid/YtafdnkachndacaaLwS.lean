/- Contracts. -/
import Derived.Test.YtafdnkachndacaaLwR
set_option linter.unusedSimpArgs false
set_option linter.unusedVariables false
namespace Go.Proofs.Try
open Go Go.Aix
set_option maxRecDepth 100000
set_option maxHeartbeats 4000000
set_option linter.unusedSimpArgs false
set_option linter.unusedVariables false
/-- One of the counts, at the beginning of bytes. -/
def rdC (d : List Int) : CountV := ⟨nth d 0, rdV (d.drop 1), rdV (d.drop 9)⟩
def rdCok (d : List Int) : Bool := rdOk (d.drop 1) && rdOk (d.drop 9)
/-- The counts that bytes are. -/
def unL : Nat → List Int → Option (List CountV)
  | 0, _ => some []
  | k + 1, d => if rdCok d = true then (unL k (d.drop 17)).map (rdC d :: ·) else none
def unS (d : List Int) : Option (List CountV) := if d.length = 0 ∨ (d.length : Int) ≠ 1 + 17 * nth d 0 then none else unL (nth d 0).toNat (d.drop 1)
theorem rd8_take {d : List Int} {n : Nat} (h : 8 ≤ n) : rd8 (d.take n) = rd8 d := by
  unfold rd8
  rw [List.take_take, Nat.min_eq_left h]
theorem rdV_take {d : List Int} {n : Nat} (h : 8 ≤ n) : rdV (d.take n) = rdV d := by unfold rdV; rw [rd8_take h]
theorem rdOk_take {d : List Int} {n : Nat} (h : 8 ≤ n) : rdOk (d.take n) = rdOk d := by unfold rdOk; rw [rd8_take h]
theorem inB_drop {d : List Int} (h : inB d) (n : Nat) : inB (d.drop n) := fun x hx => h x (List.mem_of_mem_drop hx)
theorem inB_take {d : List Int} (h : inB d) (n : Nat) : inB (d.take n) := fun x hx => h x (List.mem_of_mem_take hx)
theorem nth_take {d : List Int} {n i : Nat} (h : i < n) : nth (d.take n) i = nth d i := by unfold nth; rw [List.getElem?_take_of_lt h]
theorem nth_dropn {d : List Int} {n i : Nat} : nth (d.drop n) i = nth d (n + i) := by unfold nth; rw [List.getElem?_drop]
theorem unL_len : ∀ (k : Nat) (d : List Int) {l : List CountV}, unL k d = some l → l.length = k
  | 0, _, l, h => by simp [unL] at h; subst h; rfl
  | k + 1, d, l, h => by
    rw [unL] at h
    split at h
    · cases e : unL k (d.drop 17) with
      | none => rw [e] at h; cases h
      | some r =>
        rw [e] at h
        simp only [Option.map_some, Option.some.injEq] at h
        rw [← h, List.length_cons, unL_len k _ e]
    · cases h
def getL (o : Option (List CountV)) : List CountV := match o with
  | some l => l
  | none => []

def an132 : An (List Int × Unit) where
  pre t := decide (t.1.length ≤ 6000) && t.1.all fun b => decide (0 ≤ b ∧ b ≤ 255)
  b j t := match j with | 0 => (unS t.1).isNone | _ => newsF (getL (unS t.1)) == 0
  l _ t := tCount.encs (getL (unS t.1))
noncomputable def en132 : En := mkE (parsC (pL tU8) pars0) an132
def sh132 : Shp := fun I i b l s => .ask (b 0) fun t => match t with | true => .ok (.tp [(false, [.pv .nl]), (false, [.pv (.sc (.bool false))])], [], 0) | false => .ok (.tp [(false, [.arr 0 0 (I.len (l 0))]), (false, [.pv (.sc (.bool (b 1)))])], [(0, .row 3 (l 0))], 1)
theorem ent132 : Enters Try.prog 132 := ⟨Try.f132, Try.func132, by kernel_rfl, by kernel_rfl⟩

theorem L132f {w : World} {Xs : Nat → Prop} (d : List Int) (hd : inB d) (hl : d.length ≤ 6000) (hl2 : (d.length : Int) = 1 + 17 * nth d 0) (es : List (List PV)) (hes : es = tU8.encs d) :
    ∀ (k i n : Nat) (acc : List CountV) (rs : List (List PV)), (k : Int) + i = nth d 0 → n = acc.length → acc.length = i → rs = tCount.encs acc → unL k (d.drop (1 + 17 * i)) = none → W Try.prog 132 Try.f132 (Ent0 w Xs) (Back (Ent0 w Xs) (.tp [(false, [.pv .nl]), (false, [.pv (.sc (.bool false))])]) [] 0) (place (bodyOf Try.f132) [1,1,1,0,1,0,0] [])
      ⟨[(0, .one (.pv (.sl false 1 es))), (4, .one (.arr 0 0 n)), (5, .one (.pv (.sc (.int .i64 i))))], [(0, .row 3 rs)], 1⟩ := by
  obtain ⟨I, hI⟩ : ∃ I, I = real := ⟨_, rfl⟩; obtain ⟨K, hK⟩ : ∃ K : FuncId → En, K = fun g => (lk g [(193, en193), (125, en125)]).getD default := ⟨_, rfl⟩; have k193 : K 193 = en193 := (by subst hK; rfl); have k125 : K 125 = en125 := (by subst hK; rfl); clear hK
  have h0 := hd _ (nth_mem (l := d) (i := 0) (by omega))
  intro k
  induction k with
  | zero =>
    intro i n acc rs hk hna hai hrs hf
    have hw1 : True := trivial
    have hw2 : True := trivial
    have hw3 : True := trivial
    have hlw : True := trivial
    have hp1 : True := trivial
    have hp2 : True := trivial
    have hp3 : True := trivial
    have q1 : True := trivial
    have q2 : True := trivial
    simp [unL] at hf
  | succ k ih =>
    intro i n acc rs hk hna hai hrs hf
    have hlw : ((d.drop (1 + 17 * i)).take 17).length = 17 := by rw [List.length_take, List.length_drop]; omega
    have hp1 : (1 + 17 * (i : Int)).toNat = 1 + 17 * i := by omega
    have hp2 : (18 + 17 * (i : Int)).toNat = 18 + 17 * i := by omega
    have hp3 : 18 + 17 * i - (1 + 17 * i) = 17 := by omega
    have hbw : inB ((d.drop (1 + 17 * i)).take 17) := inB_take (inB_drop hd _) _
    have hw1 : ∀ x ∈ (((d.drop (1 + 17 * i)).take 17).drop 1).take 8, 0 ≤ x ∧ x ≤ 255 := inB_take (inB_drop hbw _) _
    have hw2 : ∀ x ∈ (((d.drop (1 + 17 * i)).take 17).drop 9).take 8, 0 ≤ x ∧ x ≤ 255 := inB_take (inB_drop hbw _) _
    have hw3 := hbw _ (nth_mem (l := (d.drop (1 + 17 * i)).take 17) (i := 0) (by omega))
    have q1 : rdOk ((((d.drop (1 + 17 * i)).take 17).drop 1).take 8) = rdOk ((d.drop (1 + 17 * i)).drop 1) := by rw [rdOk_take (by omega), List.drop_take, rdOk_take (by omega)]
    have q2 : rdOk ((((d.drop (1 + 17 * i)).take 17).drop 9).take 8) = rdOk ((d.drop (1 + 17 * i)).drop 9) := by rw [rdOk_take (by omega), List.drop_take, rdOk_take (by omega)]
    have q3 : rdV ((((d.drop (1 + 17 * i)).take 17).drop 1).take 8) = rdV ((d.drop (1 + 17 * i)).drop 1) := by rw [rdV_take (by omega), List.drop_take, rdV_take (by omega)]
    have q4 : rdV ((((d.drop (1 + 17 * i)).take 17).drop 9).take 8) = rdV ((d.drop (1 + 17 * i)).drop 9) := by rw [rdV_take (by omega), List.drop_take, rdV_take (by omega)]
    have q5 : nth ((d.drop (1 + 17 * i)).take 17) 0 = nth (d.drop (1 + 17 * i)) 0 := nth_take (by omega)
    have q6 : (d.drop (1 + 17 * i)).drop 17 = d.drop (1 + 17 * (i + 1)) := by rw [List.drop_drop]; first | rfl | (congr 1; omega)
    rw [unL, rdCok, q6] at hf
    generalize rdOk ((d.drop (1 + 17 * i)).drop 1) = c1 at hf q1
    generalize rdOk ((d.drop (1 + 17 * i)).drop 9) = c2 at hf q2
    refine W_go (Y := (Tab.calls [(193, false, callVw I (callE I (K 193) sh193)), (125, true, callRd I (callE I (K 125) sh125))])) xok (TabOk.calls mixed ⟨EntryOk.vw (s193 hI k193) hI, notQuiet, ⟨EntryOk.rd (s125 hI k125) hI, fun _ => callRd_quiet _ _, trivial⟩⟩) Try.func132 rfl 2000 _ hI ?_; (conv => arg 4; cbv)
    repeat' (first | ((with_reducible refine on_eqs ?_ ?_); (focus (with_reducible rfl)); conv => arg 4; cbv) | (with_reducible refine on_both ?_ ?_ <;> (conv => arg 4; cbv)) | (with_reducible refine on_true (by assumption) ?_; conv => arg 4; cbv) | (with_reducible refine on_false (by assumption) ?_; conv => arg 4; cbv) | (with_reducible refine on_ask (fun g => ?_) (fun g => ?_) <;> (have h := g) <;> (try simp (disch := omega) [hI, k193, en193, an193, k125, en125, an125, hes, hna, hrs, hw1, hw2, hw3, hlw, hp1, hp2, hp3, q1, q2, -List.drop_one, -List.drop_drop, -List.length_eq_zero_iff] at h) <;> (try (exfalso; omega)) <;> (conv => arg 4; cbv)) | ((with_reducible refine on_must ?_ ?_); (focus (first | (simp (disch := omega) [hI, k193, en193, an193, k125, en125, an125, hes, hna, hrs, hw1, hw2, hw3, hlw, hp1, hp2, hp3, q1, q2, -List.drop_one, -List.drop_drop]; done) | (simp (disch := omega) [hI, k193, en193, an193, k125, en125, an125, hes, hna, hrs, hw1, hw2, hw3, hlw, hp1, hp2, hp3, q1, q2, -List.drop_one, -List.drop_drop]; omega) | (simp (disch := omega) [hI, k193, en193, an193, k125, en125, an125, hes, hna, hrs, hw1, hw2, hw3, hlw, hp1, hp2, hp3, q1, q2, -List.drop_one, -List.drop_drop]; assumption) | (simp (disch := omega) [hI, k193, en193, an193, k125, en125, an125, hes, hna, hrs, hw1, hw2, hw3, hlw, hp1, hp2, hp3, q1, q2, -List.drop_one, -List.drop_drop]; (refine And.intro ?_ ?_) <;> (first | omega | assumption)))); conv => arg 4; cbv))
    all_goals first
      | ((with_reducible refine on_ret ?_); refine Ended_of rfl ?_; (conv => lhs; cbv); done)
      | (have hc : (c1 && c2) = true := by simp [*]
         rw [if_pos hc] at hf
         have hf2 : unL k (d.drop (1 + 17 * (i + 1))) = none := by
           cases e : unL k (d.drop (1 + 17 * (i + 1))) with
           | none => rfl
           | some r => rw [e] at hf; cases hf
         (with_reducible refine on_loop ?_); simp only [List.cons_append, List.nil_append]; refine W_norm [0, 4, 5] ?_ (ih (i + 1) _ (acc ++ [rdC (d.drop (1 + 17 * i))]) _ (by omega) rfl (by simp; omega) rfl hf2); (conv => lhs; cbv)
         simp (disch := omega) [hI, k193, en193, an193, k125, en125, an125, hes, hna, hrs, hw1, hw2, hw3, hlw, hp1, hp2, hp3, q1, q2, -List.drop_one, -List.drop_drop, rdC, q3, q4, q5, tCount.encs_append]
         try rfl)

theorem L132s {w : World} {Xs : Nat → Prop} (d : List Int) (hd : inB d) (hl : d.length ≤ 6000) (hl2 : (d.length : Int) = 1 + 17 * nth d 0) (es : List (List PV)) (hes : es = tU8.encs d) (fin : List CountV) :
    ∀ (k i n : Nat) (acc : List CountV) (rs : List (List PV)), (k : Int) + i = nth d 0 → n = acc.length → acc.length = i → rs = tCount.encs acc → (unL k (d.drop (1 + 17 * i))).map (acc ++ ·) = some fin → W Try.prog 132 Try.f132 (Ent0 w Xs) (Back (Ent0 w Xs) (.tp [(false, [.arr 0 0 fin.length]), (false, [.pv (.sc (.bool (newsF fin == 0)))])]) [(0, .row 3 (tCount.encs fin))] 1) (place (bodyOf Try.f132) [1,1,1,0,1,0,0] [])
      ⟨[(0, .one (.pv (.sl false 1 es))), (4, .one (.arr 0 0 n)), (5, .one (.pv (.sc (.int .i64 i))))], [(0, .row 3 rs)], 1⟩ := by
  obtain ⟨I, hI⟩ : ∃ I, I = real := ⟨_, rfl⟩; obtain ⟨K, hK⟩ : ∃ K : FuncId → En, K = fun g => (lk g [(193, en193), (125, en125)]).getD default := ⟨_, rfl⟩; have k193 : K 193 = en193 := (by subst hK; rfl); have k125 : K 125 = en125 := (by subst hK; rfl); clear hK
  have h0 := hd _ (nth_mem (l := d) (i := 0) (by omega))
  intro k
  induction k with
  | zero =>
    intro i n acc rs hk hna hai hrs hf
    have hw1 : True := trivial
    have hw2 : True := trivial
    have hw3 : True := trivial
    have hlw : True := trivial
    have hp1 : True := trivial
    have hp2 : True := trivial
    have hp3 : True := trivial
    have q1 : True := trivial
    have q2 : True := trivial
    have hf : acc = fin := by simpa [unL] using hf
    refine W_go (Y := (Tab.calls [(193, false, callVw I (callE I (K 193) sh193)), (125, true, callRd I (callE I (K 125) sh125))])) xok (TabOk.calls mixed ⟨EntryOk.vw (s193 hI k193) hI, notQuiet, ⟨EntryOk.rd (s125 hI k125) hI, fun _ => callRd_quiet _ _, trivial⟩⟩) Try.func132 rfl 2000 _ hI ?_; (conv => arg 4; cbv)
    repeat' (first | ((with_reducible refine on_eqs ?_ ?_); (focus (with_reducible rfl)); conv => arg 4; cbv) | (with_reducible refine on_both ?_ ?_ <;> (conv => arg 4; cbv)) | (with_reducible refine on_true (by assumption) ?_; conv => arg 4; cbv) | (with_reducible refine on_false (by assumption) ?_; conv => arg 4; cbv) | (with_reducible refine on_ask (fun g => ?_) (fun g => ?_) <;> (have h := g) <;> (try simp (disch := omega) [hI, k193, en193, an193, k125, en125, an125, hes, hna, hrs, hw1, hw2, hw3, hlw, hp1, hp2, hp3, q1, q2, -List.drop_one, -List.drop_drop, -List.length_eq_zero_iff] at h) <;> (try (exfalso; omega)) <;> (conv => arg 4; cbv)) | ((with_reducible refine on_must ?_ ?_); (focus (first | (simp (disch := omega) [hI, k193, en193, an193, k125, en125, an125, hes, hna, hrs, hw1, hw2, hw3, hlw, hp1, hp2, hp3, q1, q2, -List.drop_one, -List.drop_drop]; done) | (simp (disch := omega) [hI, k193, en193, an193, k125, en125, an125, hes, hna, hrs, hw1, hw2, hw3, hlw, hp1, hp2, hp3, q1, q2, -List.drop_one, -List.drop_drop]; omega) | (simp (disch := omega) [hI, k193, en193, an193, k125, en125, an125, hes, hna, hrs, hw1, hw2, hw3, hlw, hp1, hp2, hp3, q1, q2, -List.drop_one, -List.drop_drop]; assumption) | (simp (disch := omega) [hI, k193, en193, an193, k125, en125, an125, hes, hna, hrs, hw1, hw2, hw3, hlw, hp1, hp2, hp3, q1, q2, -List.drop_one, -List.drop_drop]; (refine And.intro ?_ ?_) <;> (first | omega | assumption)))); conv => arg 4; cbv))
    (with_reducible refine on_ret ?_); refine Ended_of rfl ?_; (conv => lhs; cbv)
    rw [hrs, hna, hf]
    simp (disch := omega) [hI, k193, en193, an193, k125, en125, an125, hes, hna, hrs, hw1, hw2, hw3, hlw, hp1, hp2, hp3, q1, q2, -List.drop_one, -List.drop_drop]
  | succ k ih =>
    intro i n acc rs hk hna hai hrs hf
    have hlw : ((d.drop (1 + 17 * i)).take 17).length = 17 := by rw [List.length_take, List.length_drop]; omega
    have hp1 : (1 + 17 * (i : Int)).toNat = 1 + 17 * i := by omega
    have hp2 : (18 + 17 * (i : Int)).toNat = 18 + 17 * i := by omega
    have hp3 : 18 + 17 * i - (1 + 17 * i) = 17 := by omega
    have hbw : inB ((d.drop (1 + 17 * i)).take 17) := inB_take (inB_drop hd _) _
    have hw1 : ∀ x ∈ (((d.drop (1 + 17 * i)).take 17).drop 1).take 8, 0 ≤ x ∧ x ≤ 255 := inB_take (inB_drop hbw _) _
    have hw2 : ∀ x ∈ (((d.drop (1 + 17 * i)).take 17).drop 9).take 8, 0 ≤ x ∧ x ≤ 255 := inB_take (inB_drop hbw _) _
    have hw3 := hbw _ (nth_mem (l := (d.drop (1 + 17 * i)).take 17) (i := 0) (by omega))
    have q1 : rdOk ((((d.drop (1 + 17 * i)).take 17).drop 1).take 8) = rdOk ((d.drop (1 + 17 * i)).drop 1) := by rw [rdOk_take (by omega), List.drop_take, rdOk_take (by omega)]
    have q2 : rdOk ((((d.drop (1 + 17 * i)).take 17).drop 9).take 8) = rdOk ((d.drop (1 + 17 * i)).drop 9) := by rw [rdOk_take (by omega), List.drop_take, rdOk_take (by omega)]
    have q3 : rdV ((((d.drop (1 + 17 * i)).take 17).drop 1).take 8) = rdV ((d.drop (1 + 17 * i)).drop 1) := by rw [rdV_take (by omega), List.drop_take, rdV_take (by omega)]
    have q4 : rdV ((((d.drop (1 + 17 * i)).take 17).drop 9).take 8) = rdV ((d.drop (1 + 17 * i)).drop 9) := by rw [rdV_take (by omega), List.drop_take, rdV_take (by omega)]
    have q5 : nth ((d.drop (1 + 17 * i)).take 17) 0 = nth (d.drop (1 + 17 * i)) 0 := nth_take (by omega)
    have q6 : (d.drop (1 + 17 * i)).drop 17 = d.drop (1 + 17 * (i + 1)) := by rw [List.drop_drop]; first | rfl | (congr 1; omega)
    rw [unL, rdCok, q6] at hf
    generalize rdOk ((d.drop (1 + 17 * i)).drop 1) = c1 at hf q1
    generalize rdOk ((d.drop (1 + 17 * i)).drop 9) = c2 at hf q2
    refine W_go (Y := (Tab.calls [(193, false, callVw I (callE I (K 193) sh193)), (125, true, callRd I (callE I (K 125) sh125))])) xok (TabOk.calls mixed ⟨EntryOk.vw (s193 hI k193) hI, notQuiet, ⟨EntryOk.rd (s125 hI k125) hI, fun _ => callRd_quiet _ _, trivial⟩⟩) Try.func132 rfl 2000 _ hI ?_; (conv => arg 4; cbv)
    repeat' (first | ((with_reducible refine on_eqs ?_ ?_); (focus (with_reducible rfl)); conv => arg 4; cbv) | (with_reducible refine on_both ?_ ?_ <;> (conv => arg 4; cbv)) | (with_reducible refine on_true (by assumption) ?_; conv => arg 4; cbv) | (with_reducible refine on_false (by assumption) ?_; conv => arg 4; cbv) | (with_reducible refine on_ask (fun g => ?_) (fun g => ?_) <;> (have h := g) <;> (try simp (disch := omega) [hI, k193, en193, an193, k125, en125, an125, hes, hna, hrs, hw1, hw2, hw3, hlw, hp1, hp2, hp3, q1, q2, -List.drop_one, -List.drop_drop, -List.length_eq_zero_iff] at h) <;> (try (exfalso; omega)) <;> (conv => arg 4; cbv)) | ((with_reducible refine on_must ?_ ?_); (focus (first | (simp (disch := omega) [hI, k193, en193, an193, k125, en125, an125, hes, hna, hrs, hw1, hw2, hw3, hlw, hp1, hp2, hp3, q1, q2, -List.drop_one, -List.drop_drop]; done) | (simp (disch := omega) [hI, k193, en193, an193, k125, en125, an125, hes, hna, hrs, hw1, hw2, hw3, hlw, hp1, hp2, hp3, q1, q2, -List.drop_one, -List.drop_drop]; omega) | (simp (disch := omega) [hI, k193, en193, an193, k125, en125, an125, hes, hna, hrs, hw1, hw2, hw3, hlw, hp1, hp2, hp3, q1, q2, -List.drop_one, -List.drop_drop]; assumption) | (simp (disch := omega) [hI, k193, en193, an193, k125, en125, an125, hes, hna, hrs, hw1, hw2, hw3, hlw, hp1, hp2, hp3, q1, q2, -List.drop_one, -List.drop_drop]; (refine And.intro ?_ ?_) <;> (first | omega | assumption)))); conv => arg 4; cbv))
    all_goals first
      | (exfalso; have hcn : ¬ ((c1 && c2) = true) := by simp [*]
         rw [if_neg hcn] at hf; simp at hf; done)
      | (have hc : (c1 && c2) = true := by simp [*]
         rw [if_pos hc] at hf
         have hf2 : (unL k (d.drop (1 + 17 * (i + 1)))).map ((acc ++ [rdC (d.drop (1 + 17 * i))]) ++ ·) = some fin := by
           rw [← hf, Option.map_map]
           congr 1
           funext r
           simp
         (with_reducible refine on_loop ?_); simp only [List.cons_append, List.nil_append]; refine W_norm [0, 4, 5] ?_ (ih (i + 1) _ (acc ++ [rdC (d.drop (1 + 17 * i))]) _ (by omega) rfl (by simp; omega) rfl hf2); (conv => lhs; cbv)
         simp (disch := omega) [hI, k193, en193, an193, k125, en125, an125, hes, hna, hrs, hw1, hw2, hw3, hlw, hp1, hp2, hp3, q1, q2, -List.drop_one, -List.drop_drop, rdC, q3, q4, q5, tCount.encs_append]
         try rfl)

theorem okN132 (d : List Int) (hd : inB d) (hl : d.length ≤ 6000) (hz : unS d = none) : Ok0 Try.prog 132 [(pL tU8).enc d] (.tp [(false, [.pv .nl]), (false, [.pv (.sc (.bool false))])]) [] 0 := by
  obtain ⟨I, hI⟩ : ∃ I, I = real := ⟨_, rfl⟩; obtain ⟨K, hK⟩ : ∃ K : FuncId → En, K = fun g => (lk g [(193, en193), (125, en125)]).getD default := ⟨_, rfl⟩; have k193 : K 193 = en193 := (by subst hK; rfl); have k125 : K 125 = en125 := (by subst hK; rfl); clear hK
  have hna : True := trivial
  have hrs : True := trivial
  have hw1 : True := trivial
  have hw2 : True := trivial
  have hw3 : True := trivial
  have hlw : True := trivial
  have hp1 : True := trivial
  have hp2 : True := trivial
  have hp3 : True := trivial
  have q1 : True := trivial
  have q2 : True := trivial
  obtain ⟨es, hes⟩ : ∃ es, es = tU8.encs d := ⟨_, rfl⟩
  show Ok0 Try.prog 132 [.one (.pv (.sl false 1 (tU8.encs d)))] _ [] 0
  rw [← hes]
  unfold unS at hz
  by_cases hq : d.length = 0 ∨ (d.length : Int) ≠ 1 + 17 * nth d 0
  · by_cases h0 : d.length = 0
    · refine Ok0_run (Y := (Tab.calls [(193, false, callVw I (callE I (K 193) sh193)), (125, true, callRd I (callE I (K 125) sh125))])) xok (TabOk.calls mixed ⟨EntryOk.vw (s193 hI k193) hI, notQuiet, ⟨EntryOk.rd (s125 hI k125) hI, fun _ => callRd_quiet _ _, trivial⟩⟩) Try.func132 rfl rfl rfl 2000 hI fun w Xs => ?_; (conv => arg 4; cbv)
      repeat' (first | ((with_reducible refine on_eqs ?_ ?_); (focus (with_reducible rfl)); conv => arg 4; cbv) | (with_reducible refine on_both ?_ ?_ <;> (conv => arg 4; cbv)) | (with_reducible refine on_true (by assumption) ?_; conv => arg 4; cbv) | (with_reducible refine on_false (by assumption) ?_; conv => arg 4; cbv) | (with_reducible refine on_ask (fun g => ?_) (fun g => ?_) <;> (have h := g) <;> (try simp (disch := omega) [hI, k193, en193, an193, k125, en125, an125, hes, hna, hrs, hw1, hw2, hw3, hlw, hp1, hp2, hp3, q1, q2, -List.drop_one, -List.drop_drop, -List.length_eq_zero_iff] at h) <;> (try (exfalso; omega)) <;> (conv => arg 4; cbv)) | ((with_reducible refine on_must ?_ ?_); (focus (first | (simp (disch := omega) [hI, k193, en193, an193, k125, en125, an125, hes, hna, hrs, hw1, hw2, hw3, hlw, hp1, hp2, hp3, q1, q2, -List.drop_one, -List.drop_drop]; done) | (simp (disch := omega) [hI, k193, en193, an193, k125, en125, an125, hes, hna, hrs, hw1, hw2, hw3, hlw, hp1, hp2, hp3, q1, q2, -List.drop_one, -List.drop_drop]; omega) | (simp (disch := omega) [hI, k193, en193, an193, k125, en125, an125, hes, hna, hrs, hw1, hw2, hw3, hlw, hp1, hp2, hp3, q1, q2, -List.drop_one, -List.drop_drop]; assumption) | (simp (disch := omega) [hI, k193, en193, an193, k125, en125, an125, hes, hna, hrs, hw1, hw2, hw3, hlw, hp1, hp2, hp3, q1, q2, -List.drop_one, -List.drop_drop]; (refine And.intro ?_ ?_) <;> (first | omega | assumption)))); conv => arg 4; cbv))
      all_goals first | ((with_reducible refine on_ret ?_); refine Ended_of rfl ?_; (conv => lhs; cbv); done) | ((with_reducible refine on_ret ?_); refine Ended_of rfl ?_; (conv => lhs; cbv); rfl) | (exfalso; omega)
    · have hn := hd _ (nth_mem (l := d) (i := 0) (by omega))
      refine Ok0_run (Y := (Tab.calls [(193, false, callVw I (callE I (K 193) sh193)), (125, true, callRd I (callE I (K 125) sh125))])) xok (TabOk.calls mixed ⟨EntryOk.vw (s193 hI k193) hI, notQuiet, ⟨EntryOk.rd (s125 hI k125) hI, fun _ => callRd_quiet _ _, trivial⟩⟩) Try.func132 rfl rfl rfl 2000 hI fun w Xs => ?_; (conv => arg 4; cbv)
      repeat' (first | ((with_reducible refine on_eqs ?_ ?_); (focus (with_reducible rfl)); conv => arg 4; cbv) | (with_reducible refine on_both ?_ ?_ <;> (conv => arg 4; cbv)) | (with_reducible refine on_true (by assumption) ?_; conv => arg 4; cbv) | (with_reducible refine on_false (by assumption) ?_; conv => arg 4; cbv) | (with_reducible refine on_ask (fun g => ?_) (fun g => ?_) <;> (have h := g) <;> (try simp (disch := omega) [hI, k193, en193, an193, k125, en125, an125, hes, hna, hrs, hw1, hw2, hw3, hlw, hp1, hp2, hp3, q1, q2, -List.drop_one, -List.drop_drop, -List.length_eq_zero_iff] at h) <;> (try (exfalso; omega)) <;> (conv => arg 4; cbv)) | ((with_reducible refine on_must ?_ ?_); (focus (first | (simp (disch := omega) [hI, k193, en193, an193, k125, en125, an125, hes, hna, hrs, hw1, hw2, hw3, hlw, hp1, hp2, hp3, q1, q2, -List.drop_one, -List.drop_drop]; done) | (simp (disch := omega) [hI, k193, en193, an193, k125, en125, an125, hes, hna, hrs, hw1, hw2, hw3, hlw, hp1, hp2, hp3, q1, q2, -List.drop_one, -List.drop_drop]; omega) | (simp (disch := omega) [hI, k193, en193, an193, k125, en125, an125, hes, hna, hrs, hw1, hw2, hw3, hlw, hp1, hp2, hp3, q1, q2, -List.drop_one, -List.drop_drop]; assumption) | (simp (disch := omega) [hI, k193, en193, an193, k125, en125, an125, hes, hna, hrs, hw1, hw2, hw3, hlw, hp1, hp2, hp3, q1, q2, -List.drop_one, -List.drop_drop]; (refine And.intro ?_ ?_) <;> (first | omega | assumption)))); conv => arg 4; cbv))
      all_goals first | ((with_reducible refine on_ret ?_); refine Ended_of rfl ?_; (conv => lhs; cbv); done) | ((with_reducible refine on_ret ?_); refine Ended_of rfl ?_; (conv => lhs; cbv); rfl) | (exfalso; omega)
  · rw [if_neg hq] at hz
    have hn := hd _ (nth_mem (l := d) (i := 0) (by omega))
    refine Ok0_run (Y := (Tab.calls [(193, false, callVw I (callE I (K 193) sh193)), (125, true, callRd I (callE I (K 125) sh125))])) xok (TabOk.calls mixed ⟨EntryOk.vw (s193 hI k193) hI, notQuiet, ⟨EntryOk.rd (s125 hI k125) hI, fun _ => callRd_quiet _ _, trivial⟩⟩) Try.func132 rfl rfl rfl 2000 hI fun w Xs => ?_; (conv => arg 4; cbv)
    repeat' (first | ((with_reducible refine on_eqs ?_ ?_); (focus (with_reducible rfl)); conv => arg 4; cbv) | (with_reducible refine on_both ?_ ?_ <;> (conv => arg 4; cbv)) | (with_reducible refine on_true (by assumption) ?_; conv => arg 4; cbv) | (with_reducible refine on_false (by assumption) ?_; conv => arg 4; cbv) | (with_reducible refine on_ask (fun g => ?_) (fun g => ?_) <;> (have h := g) <;> (try simp (disch := omega) [hI, k193, en193, an193, k125, en125, an125, hes, hna, hrs, hw1, hw2, hw3, hlw, hp1, hp2, hp3, q1, q2, -List.drop_one, -List.drop_drop, -List.length_eq_zero_iff] at h) <;> (try (exfalso; omega)) <;> (conv => arg 4; cbv)) | ((with_reducible refine on_must ?_ ?_); (focus (first | (simp (disch := omega) [hI, k193, en193, an193, k125, en125, an125, hes, hna, hrs, hw1, hw2, hw3, hlw, hp1, hp2, hp3, q1, q2, -List.drop_one, -List.drop_drop]; done) | (simp (disch := omega) [hI, k193, en193, an193, k125, en125, an125, hes, hna, hrs, hw1, hw2, hw3, hlw, hp1, hp2, hp3, q1, q2, -List.drop_one, -List.drop_drop]; omega) | (simp (disch := omega) [hI, k193, en193, an193, k125, en125, an125, hes, hna, hrs, hw1, hw2, hw3, hlw, hp1, hp2, hp3, q1, q2, -List.drop_one, -List.drop_drop]; assumption) | (simp (disch := omega) [hI, k193, en193, an193, k125, en125, an125, hes, hna, hrs, hw1, hw2, hw3, hlw, hp1, hp2, hp3, q1, q2, -List.drop_one, -List.drop_drop]; (refine And.intro ?_ ?_) <;> (first | omega | assumption)))); conv => arg 4; cbv))
    all_goals first
      | (exfalso; omega)
      | ((with_reducible refine on_loop ?_); simp only [List.cons_append, List.nil_append]; refine W_norm [0, 4, 5] ?_ (L132f d hd hl (by omega) es hes (nth d 0).toNat 0 0 [] [] (by omega) rfl rfl rfl (by simpa using hz)); (conv => lhs; cbv)
         simp (disch := omega) [hI, k193, en193, an193, k125, en125, an125, hes, hna, hrs, hw1, hw2, hw3, hlw, hp1, hp2, hp3, q1, q2, -List.drop_one, -List.drop_drop])
theorem okS132 (d : List Int) (hd : inB d) (hl : d.length ≤ 6000) (fin : List CountV) (hz : unS d = some fin) : Ok0 Try.prog 132 [(pL tU8).enc d] (.tp [(false, [.arr 0 0 fin.length]), (false, [.pv (.sc (.bool (newsF fin == 0)))])]) [(0, .row 3 (tCount.encs fin))] 1 := by
  obtain ⟨I, hI⟩ : ∃ I, I = real := ⟨_, rfl⟩; obtain ⟨K, hK⟩ : ∃ K : FuncId → En, K = fun g => (lk g [(193, en193), (125, en125)]).getD default := ⟨_, rfl⟩; have k193 : K 193 = en193 := (by subst hK; rfl); have k125 : K 125 = en125 := (by subst hK; rfl); clear hK
  have hna : True := trivial
  have hrs : True := trivial
  have hw1 : True := trivial
  have hw2 : True := trivial
  have hw3 : True := trivial
  have hlw : True := trivial
  have hp1 : True := trivial
  have hp2 : True := trivial
  have hp3 : True := trivial
  have q1 : True := trivial
  have q2 : True := trivial
  obtain ⟨es, hes⟩ : ∃ es, es = tU8.encs d := ⟨_, rfl⟩
  show Ok0 Try.prog 132 [.one (.pv (.sl false 1 (tU8.encs d)))] _ _ 1
  rw [← hes]
  unfold unS at hz
  by_cases hq : d.length = 0 ∨ (d.length : Int) ≠ 1 + 17 * nth d 0
  · rw [if_pos hq] at hz; cases hz
  · rw [if_neg hq] at hz
    have hn := hd _ (nth_mem (l := d) (i := 0) (by omega))
    refine Ok0_run (Y := (Tab.calls [(193, false, callVw I (callE I (K 193) sh193)), (125, true, callRd I (callE I (K 125) sh125))])) xok (TabOk.calls mixed ⟨EntryOk.vw (s193 hI k193) hI, notQuiet, ⟨EntryOk.rd (s125 hI k125) hI, fun _ => callRd_quiet _ _, trivial⟩⟩) Try.func132 rfl rfl rfl 2000 hI fun w Xs => ?_; (conv => arg 4; cbv)
    repeat' (first | ((with_reducible refine on_eqs ?_ ?_); (focus (with_reducible rfl)); conv => arg 4; cbv) | (with_reducible refine on_both ?_ ?_ <;> (conv => arg 4; cbv)) | (with_reducible refine on_true (by assumption) ?_; conv => arg 4; cbv) | (with_reducible refine on_false (by assumption) ?_; conv => arg 4; cbv) | (with_reducible refine on_ask (fun g => ?_) (fun g => ?_) <;> (have h := g) <;> (try simp (disch := omega) [hI, k193, en193, an193, k125, en125, an125, hes, hna, hrs, hw1, hw2, hw3, hlw, hp1, hp2, hp3, q1, q2, -List.drop_one, -List.drop_drop, -List.length_eq_zero_iff] at h) <;> (try (exfalso; omega)) <;> (conv => arg 4; cbv)) | ((with_reducible refine on_must ?_ ?_); (focus (first | (simp (disch := omega) [hI, k193, en193, an193, k125, en125, an125, hes, hna, hrs, hw1, hw2, hw3, hlw, hp1, hp2, hp3, q1, q2, -List.drop_one, -List.drop_drop]; done) | (simp (disch := omega) [hI, k193, en193, an193, k125, en125, an125, hes, hna, hrs, hw1, hw2, hw3, hlw, hp1, hp2, hp3, q1, q2, -List.drop_one, -List.drop_drop]; omega) | (simp (disch := omega) [hI, k193, en193, an193, k125, en125, an125, hes, hna, hrs, hw1, hw2, hw3, hlw, hp1, hp2, hp3, q1, q2, -List.drop_one, -List.drop_drop]; assumption) | (simp (disch := omega) [hI, k193, en193, an193, k125, en125, an125, hes, hna, hrs, hw1, hw2, hw3, hlw, hp1, hp2, hp3, q1, q2, -List.drop_one, -List.drop_drop]; (refine And.intro ?_ ?_) <;> (first | omega | assumption)))); conv => arg 4; cbv))
    all_goals first
      | (exfalso; omega)
      | ((with_reducible refine on_loop ?_); simp only [List.cons_append, List.nil_append]; refine W_norm [0, 4, 5] ?_ (L132s d hd hl (by omega) es hes fin (nth d 0).toNat 0 0 [] [] (by omega) rfl rfl rfl (by simpa using hz)); (conv => lhs; cbv)
         simp (disch := omega) [hI, k193, en193, an193, k125, en125, an125, hes, hna, hrs, hw1, hw2, hw3, hlw, hp1, hp2, hp3, q1, q2, -List.drop_one, -List.drop_drop])


theorem s132 {I : Ops} (hI : I = real) {e : En} (he : e = en132) : Sound Try.prog 132 (callE I e sh132) := by
  refine Sound.mkR ent132 hI ?_ he
  rintro ⟨d, ⟨⟩⟩ hp r σ n e
  
  have hp : (decide (d.length ≤ 6000) && d.all fun b => decide (0 ≤ b ∧ b ≤ 255)) = true := hp
  simp only [Bool.and_eq_true, List.all_eq_true, decide_eq_true_eq] at hp
  cases hz : unS d with
  | none =>
    have e : (R.ok (.tp [(false, [.pv .nl]), (false, [.pv (.sc (.bool false))])], [], 0) : R (AV × Store × Nat)).val = some (r, σ, n) := by
      rw [← e]
      simp [sh132, an132, hz, val_ask]
    cases e
    exact okN132 d hp.2 hp.1 hz
  | some fin =>
    have e : (R.ok (.tp [(false, [.arr 0 0 fin.length]), (false, [.pv (.sc (.bool (newsF fin == 0)))])], [(0, .row 3 (tCount.encs fin))], 1) : R (AV × Store × Nat)).val = some (r, σ, n) := by
      rw [← e]
      simp [sh132, an132, hz, val_ask, getL]
    cases e
    exact okS132 d hp.2 hp.1 fin hz
end Go.Proofs.Try
