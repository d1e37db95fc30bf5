/- Contracts. -/
import Derived.Test.YtafdnkachndacaaLwX
set_option linter.unusedSimpArgs false
set_option linter.unusedVariables false
namespace Go.Proofs.Try
open Go Go.Aix
set_option maxRecDepth 100000
set_option maxHeartbeats 4000000
set_option linter.unusedSimpArgs false
set_option linter.unusedVariables false
/-- The entries of a set, at the beginning of bytes, and what is left behind them. -/
def enN (d : List Int) : Nat := 9 + 8 * (nth d 0).toNat
def setU : Nat → List Int → Option (List EntryV)
  | 0, _ => some []
  | k + 1, d => if enBad d = true then none else (setU k (d.drop (enN d))).map (enV d :: ·)
def setW : Nat → List Int → List Int
  | 0, d => d
  | k + 1, d => setW k (d.drop (enN d))
/-- Entries as they lie in a row: what a row without cells was is one. -/
theorem wkE (acc : List EntryV) (wt : Int) : SWk [(0, .row 2 (mapE tEntry_own acc ++ [[.nl, .sc (.int .i64 wt)]]))] [(0, .row 2 (mapE tEntry_own (acc ++ [⟨[], wt⟩])))] := by
  refine SWk.row ?_
  rw [show mapE tEntry_own (acc ++ [⟨[], wt⟩]) = mapE tEntry_own acc ++ [[.sl true 1 [], .sc (.int .i64 wt)]] by rw [mapE_append]; rfl]
  exact Wk.nl.app _
theorem beq_dec (a b : Int) : (a == b) = decide (a = b) := by by_cases h : a = b <;> simp [h]
theorem enV_row {d : List Int} (h : enBad d = false) (hd : inB d) : (enV d).row.length ≤ 4 ∧ enN d ≤ d.length ∧ (enN d : Int) = 9 + 8 * nth d 0 := by
  unfold enBad at h
  simp only [Bool.or_eq_false_iff, decide_eq_false_iff_not, Bool.not_eq_false'] at h
  obtain ⟨⟨⟨h0, h1⟩, h2⟩, h3⟩ := h
  have := hd _ (nth_mem (l := d) (i := 0) (by omega))
  unfold enN
  refine ⟨?_, by omega, by omega⟩
  show (rowU _ _).length ≤ 4
  rw [rowU_len]
  omega

def unU (d : List Int) : Option (List EntryV) := if d.length = 0 then none else setU (nth d 0).toNat (d.drop 1)
def getE (o : Option (List EntryV)) : List EntryV := match o with
  | some l => l
  | none => []
def unUok (d : List Int) : Bool := decide ((setW (nth d 0).toNat (d.drop 1)).length = 0) && decide (setF (getE (unU d)) = 0)

def an139 : An (List Int × Unit) where
  pre t := decide (t.1.length ≤ 6000) && t.1.all fun b => decide (0 ≤ b ∧ b ≤ 255)
  b j t := match j with | 0 => (unU t.1).isNone | _ => unUok t.1
  l _ t := mapE tEntry_own (getE (unU t.1))
noncomputable def en139 : En := mkE (parsC (pL tU8) pars0) an139

def sh139 : Shp := fun I i b l s => .ask (b 0) fun t => match t with | true => .ok (.tp [(false, [.pv .nl]), (false, [.pv (.sc (.bool false))])], [], 0) | false => .ok (.tp [(false, [.arr 0 0 (I.len (l 0))]), (false, [.pv (.sc (.bool (b 1)))])], [(0, .row 2 (l 0))], 1)
theorem ent139 : Enters Try.prog 139 := ⟨Try.f139, Try.func139, by kernel_rfl, by kernel_rfl⟩

theorem L139f {w : World} {Xs : Nat → Prop} (d : List Int) (hd : inB d) (hl : d.length ≤ 6000) (h0 : 1 ≤ d.length) (es : List (List PV)) (hes : es = tU8.encs d) :
    ∀ (k i n q : Nat) (acc : List EntryV) (rs : List (List PV)), (k : Int) + i = nth d 0 → n = acc.length → acc.length = i → (∀ e ∈ acc, e.row.length ≤ 4) → rs = mapE tEntry_own acc → q ≤ d.length → setU k (d.drop q) = none → W Try.prog 139 Try.f139 (Ent0 w Xs) (Back (Ent0 w Xs) (.tp [(false, [.pv .nl]), (false, [.pv (.sc (.bool false))])]) [] 0) (place (bodyOf Try.f139) [1,1,1,1,0,1,0,0] [])
      ⟨[(0, .one (.pv (.sl false 1 es))), (4, .one (.arr 0 0 n)), (5, .one (.pv (.sc (.int .i64 q)))), (6, .one (.pv (.sc (.int .i64 i))))], [(0, .row 2 rs)], 1⟩ := by
  obtain ⟨I, hI⟩ : ∃ I, I = real := ⟨_, rfl⟩; obtain ⟨K, hK⟩ : ∃ K : FuncId → En, K = fun g => (lk g [(136, en136), (196, en196)]).getD default := ⟨_, rfl⟩; have k136 : K 136 = en136 := (by subst hK; rfl); have k196 : K 196 = en196 := (by subst hK; rfl); clear hK
  have hcb := hd _ (nth_mem (l := d) (i := 0) (by omega))
  have hcv : IntKind.i64.wrap (nth d 0) = nth d 0 := i64w_byte hcb
  intro k
  induction k with
  | zero =>
    intro i n q acc rs hk hna hai hr4 hrs hq hf
    have hw1 : True := trivial
    have hbx : True := trivial
    have hzx : True := trivial
    have hw2 : True := trivial
    simp [setU] at hf
  | succ k ih =>
    intro i n q acc rs hk hna hai hr4 hrs hq hf
    have hbw : inB (d.drop q) := inB_drop hd _
    have hw1 : ∀ x ∈ d.drop q, 0 ≤ x ∧ x ≤ 255 := hbw
    have hw2 : (d.drop q).take (d.length - q) = d.drop q := List.take_of_length_le (by simp)
    have hr4x : ∀ e ∈ acc, e.row.length < 4611686018427387904 := fun e he => by have := hr4 e he; omega
    rw [setU] at hf
    cases hbx : enBad (d.drop q) with
    | true =>
      have hzx : True := trivial
      rw [if_pos hbx] at hf
      refine W_go (Y := (Tab.calls [(136, true, callRd I (callE I (K 136) sh136)), (196, false, callVw I (callE I (K 196) sh196))])) xok (TabOk.calls mixed ⟨EntryOk.rd (s136 hI k136) hI, fun _ => callRd_quiet _ _, ⟨EntryOk.vw (s196 hI k196) hI, notQuiet, trivial⟩⟩) Try.func139 rfl 2000 _ hI ?_; (conv => arg 4; cbv)
      repeat' (first | ((with_reducible refine on_eqs ?_ ?_); (focus (with_reducible rfl)); conv => arg 4; cbv) | (with_reducible refine on_both ?_ ?_ <;> (conv => arg 4; cbv)) | (with_reducible refine on_true (by assumption) ?_; conv => arg 4; cbv) | (with_reducible refine on_false (by assumption) ?_; conv => arg 4; cbv) | (with_reducible refine on_ask (fun g => ?_) (fun g => ?_) <;> (have h := g) <;> (try simp (disch := omega) [hI, k136, en136, an136, k196, en196, an196, hes, hna, hrs, hw1, hw2, hbx, hzx, hcv, -List.drop_one, -List.drop_drop, -List.length_eq_zero_iff] at h) <;> (try (exfalso; omega)) <;> (conv => arg 4; cbv)) | ((with_reducible refine on_must ?_ ?_); (focus (first | (simp (disch := omega) [hI, k136, en136, an136, k196, en196, an196, hes, hna, hrs, hw1, hw2, hbx, hzx, hcv, -List.drop_one, -List.drop_drop]; done) | (simp (disch := omega) [hI, k136, en136, an136, k196, en196, an196, hes, hna, hrs, hw1, hw2, hbx, hzx, hcv, -List.drop_one, -List.drop_drop]; omega) | (simp (disch := omega) [hI, k136, en136, an136, k196, en196, an196, hes, hna, hrs, hw1, hw2, hbx, hzx, hcv, -List.drop_one, -List.drop_drop]; assumption) | (simp (disch := omega) [hI, k136, en136, an136, k196, en196, an196, hes, hna, hrs, hw1, hw2, hbx, hzx, hcv, -List.drop_one, -List.drop_drop]; (refine And.intro ?_ ?_) <;> (first | omega | assumption)))); conv => arg 4; cbv))
      all_goals first | ((with_reducible refine on_ret ?_); refine Ended_of rfl ?_; (conv => lhs; cbv); done) | ((with_reducible refine on_ret ?_); refine Ended_of rfl ?_; (conv => lhs; cbv); rfl) | (exfalso; omega)
    | false =>
      have hbn : ¬ (enBad (d.drop q) = true) := by simp [hbx]
      rw [if_neg hbn, List.drop_drop] at hf
      have hf2 : setU k (d.drop (q + enN (d.drop q))) = none := by
        cases e : setU k (d.drop (q + enN (d.drop q))) with
        | none => rfl
        | some r => rw [e] at hf; cases hf
      obtain ⟨e1, e2, e3⟩ := enV_row hbx hbw
      have e4 : q + enN (d.drop q) ≤ d.length := by rw [List.length_drop] at e2; omega
      have e7 : 9 ≤ enN (d.drop q) := by unfold enN; omega
      have e5 : ∀ e ∈ acc ++ [enV (d.drop q)], e.row.length ≤ 4 := by
        intro e he
        rcases List.mem_append.1 he with he | he
        · exact hr4 e he
        · rw [List.mem_singleton.1 he]; exact e1
      have e8 : ¬ ((9:Int) + 8 * nth (d.drop q) 0 = 0) := by omega
      by_cases hzx : nth (d.drop q) 0 = 0
      · have e6 : enV (d.drop q) = ⟨[], (enV (d.drop q)).weight⟩ := by unfold enV; rw [hzx]; rfl
        refine W_go (Y := (Tab.calls [(136, true, callRd I (callE I (K 136) sh136)), (196, false, callVw I (callE I (K 196) sh196))])) xok (TabOk.calls mixed ⟨EntryOk.rd (s136 hI k136) hI, fun _ => callRd_quiet _ _, ⟨EntryOk.vw (s196 hI k196) hI, notQuiet, trivial⟩⟩) Try.func139 rfl 2000 _ hI ?_; (conv => arg 4; cbv)
        repeat' (first | ((with_reducible refine on_eqs ?_ ?_); (focus (with_reducible rfl)); conv => arg 4; cbv) | (with_reducible refine on_both ?_ ?_ <;> (conv => arg 4; cbv)) | (with_reducible refine on_true (by assumption) ?_; conv => arg 4; cbv) | (with_reducible refine on_false (by assumption) ?_; conv => arg 4; cbv) | (with_reducible refine on_ask (fun g => ?_) (fun g => ?_) <;> (have h := g) <;> (try simp (disch := omega) [hI, k136, en136, an136, k196, en196, an196, hes, hna, hrs, hw1, hw2, hbx, hzx, hcv, -List.drop_one, -List.drop_drop, -List.length_eq_zero_iff] at h) <;> (try (exfalso; omega)) <;> (conv => arg 4; cbv)) | ((with_reducible refine on_must ?_ ?_); (focus (first | (simp (disch := omega) [hI, k136, en136, an136, k196, en196, an196, hes, hna, hrs, hw1, hw2, hbx, hzx, hcv, -List.drop_one, -List.drop_drop]; done) | (simp (disch := omega) [hI, k136, en136, an136, k196, en196, an196, hes, hna, hrs, hw1, hw2, hbx, hzx, hcv, -List.drop_one, -List.drop_drop]; omega) | (simp (disch := omega) [hI, k136, en136, an136, k196, en196, an196, hes, hna, hrs, hw1, hw2, hbx, hzx, hcv, -List.drop_one, -List.drop_drop]; assumption) | (simp (disch := omega) [hI, k136, en136, an136, k196, en196, an196, hes, hna, hrs, hw1, hw2, hbx, hzx, hcv, -List.drop_one, -List.drop_drop]; (refine And.intro ?_ ?_) <;> (first | omega | assumption)))); conv => arg 4; cbv))
        all_goals first | (exfalso; omega) | (exfalso; exact e8 (by assumption)) | skip
        (with_reducible refine on_loop ?_); simp only [List.cons_append, List.nil_append]; refine W_norm [0, 4, 5, 6] ?_ (W_wk (wkE acc (enV (d.drop q)).weight) (e6 ▸ ih (i + 1) _ (q + enN (d.drop q)) (acc ++ [enV (d.drop q)]) _ (by omega) rfl (by simp; omega) e5 rfl e4 hf2)); (conv => lhs; cbv)
        simp (disch := omega) [hI, k136, en136, an136, k196, en196, an196, hes, hna, hrs, hw1, hw2, hbx, hzx, hcv, -List.drop_one, -List.drop_drop]
        try omega
      · refine W_go (Y := (Tab.calls [(136, true, callRd I (callE I (K 136) sh136)), (196, false, callVw I (callE I (K 196) sh196))])) xok (TabOk.calls mixed ⟨EntryOk.rd (s136 hI k136) hI, fun _ => callRd_quiet _ _, ⟨EntryOk.vw (s196 hI k196) hI, notQuiet, trivial⟩⟩) Try.func139 rfl 2000 _ hI ?_; (conv => arg 4; cbv)
        repeat' (first | ((with_reducible refine on_eqs ?_ ?_); (focus (with_reducible rfl)); conv => arg 4; cbv) | (with_reducible refine on_both ?_ ?_ <;> (conv => arg 4; cbv)) | (with_reducible refine on_true (by assumption) ?_; conv => arg 4; cbv) | (with_reducible refine on_false (by assumption) ?_; conv => arg 4; cbv) | (with_reducible refine on_ask (fun g => ?_) (fun g => ?_) <;> (have h := g) <;> (try simp (disch := omega) [hI, k136, en136, an136, k196, en196, an196, hes, hna, hrs, hw1, hw2, hbx, hzx, hcv, -List.drop_one, -List.drop_drop, -List.length_eq_zero_iff] at h) <;> (try (exfalso; omega)) <;> (conv => arg 4; cbv)) | ((with_reducible refine on_must ?_ ?_); (focus (first | (simp (disch := omega) [hI, k136, en136, an136, k196, en196, an196, hes, hna, hrs, hw1, hw2, hbx, hzx, hcv, -List.drop_one, -List.drop_drop]; done) | (simp (disch := omega) [hI, k136, en136, an136, k196, en196, an196, hes, hna, hrs, hw1, hw2, hbx, hzx, hcv, -List.drop_one, -List.drop_drop]; omega) | (simp (disch := omega) [hI, k136, en136, an136, k196, en196, an196, hes, hna, hrs, hw1, hw2, hbx, hzx, hcv, -List.drop_one, -List.drop_drop]; assumption) | (simp (disch := omega) [hI, k136, en136, an136, k196, en196, an196, hes, hna, hrs, hw1, hw2, hbx, hzx, hcv, -List.drop_one, -List.drop_drop]; (refine And.intro ?_ ?_) <;> (first | omega | assumption)))); conv => arg 4; cbv))
        all_goals first | (exfalso; omega) | (exfalso; exact e8 (by assumption)) | skip
        (with_reducible refine on_loop ?_); simp only [List.cons_append, List.nil_append]; refine W_norm [0, 4, 5, 6] ?_ (ih (i + 1) _ (q + enN (d.drop q)) (acc ++ [enV (d.drop q)]) _ (by omega) rfl (by simp; omega) e5 rfl e4 hf2); (conv => lhs; cbv)
        simp (disch := omega) [hI, k136, en136, an136, k196, en196, an196, hes, hna, hrs, hw1, hw2, hbx, hzx, hcv, -List.drop_one, -List.drop_drop, mapE_append]
        refine ⟨?_, rfl⟩
        rw [← e3, IntKind.wrap_i64]
        omega

theorem L139s {w : World} {Xs : Nat → Prop} (d : List Int) (hd : inB d) (hl : d.length ≤ 6000) (h0 : 1 ≤ d.length) (es : List (List PV)) (hes : es = tU8.encs d) (fin : List EntryV) (rest : List Int) :
    ∀ (k i n q : Nat) (acc : List EntryV) (rs : List (List PV)), (k : Int) + i = nth d 0 → n = acc.length → acc.length = i → (∀ e ∈ acc, e.row.length ≤ 4) → rs = mapE tEntry_own acc → q ≤ d.length → (setU k (d.drop q)).map (acc ++ ·) = some fin ∧ setW k (d.drop q) = rest → W Try.prog 139 Try.f139 (Ent0 w Xs) (Back (Ent0 w Xs) (.tp [(false, [.arr 0 0 fin.length]), (false, [.pv (.sc (.bool (decide (rest.length = 0) && decide (setF fin = 0))))])]) [(0, .row 2 (mapE tEntry_own fin))] 1) (place (bodyOf Try.f139) [1,1,1,1,0,1,0,0] [])
      ⟨[(0, .one (.pv (.sl false 1 es))), (4, .one (.arr 0 0 n)), (5, .one (.pv (.sc (.int .i64 q)))), (6, .one (.pv (.sc (.int .i64 i))))], [(0, .row 2 rs)], 1⟩ := by
  obtain ⟨I, hI⟩ : ∃ I, I = real := ⟨_, rfl⟩; obtain ⟨K, hK⟩ : ∃ K : FuncId → En, K = fun g => (lk g [(136, en136), (196, en196)]).getD default := ⟨_, rfl⟩; have k136 : K 136 = en136 := (by subst hK; rfl); have k196 : K 196 = en196 := (by subst hK; rfl); clear hK
  have hcb := hd _ (nth_mem (l := d) (i := 0) (by omega))
  have hcv : IntKind.i64.wrap (nth d 0) = nth d 0 := i64w_byte hcb
  intro k
  induction k with
  | zero =>
    intro i n q acc rs hk hna hai hr4 hrs hq hf
    have hw1 : True := trivial
    have hbx : True := trivial
    have hzx : True := trivial
    have hw2 : True := trivial
    obtain ⟨hf, hr⟩ := hf
    have hf : acc = fin := by simpa [setU] using hf
    have hr : d.drop q = rest := hr
    have hrl : rest.length = d.length - q := by rw [← hr, List.length_drop]
    have hr4x : ∀ e ∈ acc, e.row.length < 4611686018427387904 := fun e he => by have := hr4 e he; omega
    refine W_go (Y := (Tab.calls [(136, true, callRd I (callE I (K 136) sh136)), (196, false, callVw I (callE I (K 196) sh196))])) xok (TabOk.calls mixed ⟨EntryOk.rd (s136 hI k136) hI, fun _ => callRd_quiet _ _, ⟨EntryOk.vw (s196 hI k196) hI, notQuiet, trivial⟩⟩) Try.func139 rfl 2000 _ hI ?_; (conv => arg 4; cbv)
    repeat' (first | ((with_reducible refine on_eqs ?_ ?_); (focus (with_reducible rfl)); conv => arg 4; cbv) | (with_reducible refine on_both ?_ ?_ <;> (conv => arg 4; cbv)) | (with_reducible refine on_true (by assumption) ?_; conv => arg 4; cbv) | (with_reducible refine on_false (by assumption) ?_; conv => arg 4; cbv) | (with_reducible refine on_ask (fun g => ?_) (fun g => ?_) <;> (have h := g) <;> (try simp (disch := omega) [hI, k136, en136, an136, k196, en196, an196, hes, hna, hrs, hw1, hw2, hbx, hzx, hcv, -List.drop_one, -List.drop_drop, -List.length_eq_zero_iff] at h) <;> (try (exfalso; omega)) <;> (conv => arg 4; cbv)) | ((with_reducible refine on_must ?_ ?_); (focus (first | (simp (disch := omega) [hI, k136, en136, an136, k196, en196, an196, hes, hna, hrs, hw1, hw2, hbx, hzx, hcv, -List.drop_one, -List.drop_drop]; done) | (simp (disch := omega) [hI, k136, en136, an136, k196, en196, an196, hes, hna, hrs, hw1, hw2, hbx, hzx, hcv, -List.drop_one, -List.drop_drop]; omega) | (simp (disch := omega) [hI, k136, en136, an136, k196, en196, an196, hes, hna, hrs, hw1, hw2, hbx, hzx, hcv, -List.drop_one, -List.drop_drop]; assumption) | (simp (disch := omega) [hI, k136, en136, an136, k196, en196, an196, hes, hna, hrs, hw1, hw2, hbx, hzx, hcv, -List.drop_one, -List.drop_drop]; (refine And.intro ?_ ?_) <;> (first | omega | assumption)))); conv => arg 4; cbv))
    all_goals
      (with_reducible refine on_ret ?_); refine Ended_of rfl ?_; (conv => lhs; cbv)
      rw [hrs, hna, hf]
      simp (disch := omega) [hI, k136, en136, an136, k196, en196, an196, hes, hna, hrs, hw1, hw2, hbx, hzx, hcv, -List.drop_one, -List.drop_drop, hrl, beq_dec]
      try omega
  | succ k ih =>
    intro i n q acc rs hk hna hai hr4 hrs hq hf
    have hbw : inB (d.drop q) := inB_drop hd _
    have hw1 : ∀ x ∈ d.drop q, 0 ≤ x ∧ x ≤ 255 := hbw
    have hw2 : (d.drop q).take (d.length - q) = d.drop q := List.take_of_length_le (by simp)
    have hr4x : ∀ e ∈ acc, e.row.length < 4611686018427387904 := fun e he => by have := hr4 e he; omega
    rw [setU] at hf
    cases hbx : enBad (d.drop q) with
    | true =>
      have hzx : True := trivial
      rw [if_pos hbx] at hf
      simp at hf
    | false =>
      have hbn : ¬ (enBad (d.drop q) = true) := by simp [hbx]
      rw [if_neg hbn, List.drop_drop] at hf
      have hf2 : (setU k (d.drop (q + enN (d.drop q)))).map ((acc ++ [enV (d.drop q)]) ++ ·) = some fin ∧ setW k (d.drop (q + enN (d.drop q))) = rest := by
        refine ⟨?_, by rw [← hf.2, setW, List.drop_drop]⟩
        rw [← hf.1, Option.map_map]
        congr 1
        funext r
        simp
      obtain ⟨e1, e2, e3⟩ := enV_row hbx hbw
      have e4 : q + enN (d.drop q) ≤ d.length := by rw [List.length_drop] at e2; omega
      have e7 : 9 ≤ enN (d.drop q) := by unfold enN; omega
      have e5 : ∀ e ∈ acc ++ [enV (d.drop q)], e.row.length ≤ 4 := by
        intro e he
        rcases List.mem_append.1 he with he | he
        · exact hr4 e he
        · rw [List.mem_singleton.1 he]; exact e1
      have e8 : ¬ ((9:Int) + 8 * nth (d.drop q) 0 = 0) := by omega
      by_cases hzx : nth (d.drop q) 0 = 0
      · have e6 : enV (d.drop q) = ⟨[], (enV (d.drop q)).weight⟩ := by unfold enV; rw [hzx]; rfl
        refine W_go (Y := (Tab.calls [(136, true, callRd I (callE I (K 136) sh136)), (196, false, callVw I (callE I (K 196) sh196))])) xok (TabOk.calls mixed ⟨EntryOk.rd (s136 hI k136) hI, fun _ => callRd_quiet _ _, ⟨EntryOk.vw (s196 hI k196) hI, notQuiet, trivial⟩⟩) Try.func139 rfl 2000 _ hI ?_; (conv => arg 4; cbv)
        repeat' (first | ((with_reducible refine on_eqs ?_ ?_); (focus (with_reducible rfl)); conv => arg 4; cbv) | (with_reducible refine on_both ?_ ?_ <;> (conv => arg 4; cbv)) | (with_reducible refine on_true (by assumption) ?_; conv => arg 4; cbv) | (with_reducible refine on_false (by assumption) ?_; conv => arg 4; cbv) | (with_reducible refine on_ask (fun g => ?_) (fun g => ?_) <;> (have h := g) <;> (try simp (disch := omega) [hI, k136, en136, an136, k196, en196, an196, hes, hna, hrs, hw1, hw2, hbx, hzx, hcv, -List.drop_one, -List.drop_drop, -List.length_eq_zero_iff] at h) <;> (try (exfalso; omega)) <;> (conv => arg 4; cbv)) | ((with_reducible refine on_must ?_ ?_); (focus (first | (simp (disch := omega) [hI, k136, en136, an136, k196, en196, an196, hes, hna, hrs, hw1, hw2, hbx, hzx, hcv, -List.drop_one, -List.drop_drop]; done) | (simp (disch := omega) [hI, k136, en136, an136, k196, en196, an196, hes, hna, hrs, hw1, hw2, hbx, hzx, hcv, -List.drop_one, -List.drop_drop]; omega) | (simp (disch := omega) [hI, k136, en136, an136, k196, en196, an196, hes, hna, hrs, hw1, hw2, hbx, hzx, hcv, -List.drop_one, -List.drop_drop]; assumption) | (simp (disch := omega) [hI, k136, en136, an136, k196, en196, an196, hes, hna, hrs, hw1, hw2, hbx, hzx, hcv, -List.drop_one, -List.drop_drop]; (refine And.intro ?_ ?_) <;> (first | omega | assumption)))); conv => arg 4; cbv))
        all_goals first | (exfalso; omega) | (exfalso; exact e8 (by assumption)) | skip
        (with_reducible refine on_loop ?_); simp only [List.cons_append, List.nil_append]; refine W_norm [0, 4, 5, 6] ?_ (W_wk (wkE acc (enV (d.drop q)).weight) (e6 ▸ ih (i + 1) _ (q + enN (d.drop q)) (acc ++ [enV (d.drop q)]) _ (by omega) rfl (by simp; omega) e5 rfl e4 hf2)); (conv => lhs; cbv)
        simp (disch := omega) [hI, k136, en136, an136, k196, en196, an196, hes, hna, hrs, hw1, hw2, hbx, hzx, hcv, -List.drop_one, -List.drop_drop]
        try omega
      · refine W_go (Y := (Tab.calls [(136, true, callRd I (callE I (K 136) sh136)), (196, false, callVw I (callE I (K 196) sh196))])) xok (TabOk.calls mixed ⟨EntryOk.rd (s136 hI k136) hI, fun _ => callRd_quiet _ _, ⟨EntryOk.vw (s196 hI k196) hI, notQuiet, trivial⟩⟩) Try.func139 rfl 2000 _ hI ?_; (conv => arg 4; cbv)
        repeat' (first | ((with_reducible refine on_eqs ?_ ?_); (focus (with_reducible rfl)); conv => arg 4; cbv) | (with_reducible refine on_both ?_ ?_ <;> (conv => arg 4; cbv)) | (with_reducible refine on_true (by assumption) ?_; conv => arg 4; cbv) | (with_reducible refine on_false (by assumption) ?_; conv => arg 4; cbv) | (with_reducible refine on_ask (fun g => ?_) (fun g => ?_) <;> (have h := g) <;> (try simp (disch := omega) [hI, k136, en136, an136, k196, en196, an196, hes, hna, hrs, hw1, hw2, hbx, hzx, hcv, -List.drop_one, -List.drop_drop, -List.length_eq_zero_iff] at h) <;> (try (exfalso; omega)) <;> (conv => arg 4; cbv)) | ((with_reducible refine on_must ?_ ?_); (focus (first | (simp (disch := omega) [hI, k136, en136, an136, k196, en196, an196, hes, hna, hrs, hw1, hw2, hbx, hzx, hcv, -List.drop_one, -List.drop_drop]; done) | (simp (disch := omega) [hI, k136, en136, an136, k196, en196, an196, hes, hna, hrs, hw1, hw2, hbx, hzx, hcv, -List.drop_one, -List.drop_drop]; omega) | (simp (disch := omega) [hI, k136, en136, an136, k196, en196, an196, hes, hna, hrs, hw1, hw2, hbx, hzx, hcv, -List.drop_one, -List.drop_drop]; assumption) | (simp (disch := omega) [hI, k136, en136, an136, k196, en196, an196, hes, hna, hrs, hw1, hw2, hbx, hzx, hcv, -List.drop_one, -List.drop_drop]; (refine And.intro ?_ ?_) <;> (first | omega | assumption)))); conv => arg 4; cbv))
        all_goals first | (exfalso; omega) | (exfalso; exact e8 (by assumption)) | skip
        (with_reducible refine on_loop ?_); simp only [List.cons_append, List.nil_append]; refine W_norm [0, 4, 5, 6] ?_ (ih (i + 1) _ (q + enN (d.drop q)) (acc ++ [enV (d.drop q)]) _ (by omega) rfl (by simp; omega) e5 rfl e4 hf2); (conv => lhs; cbv)
        simp (disch := omega) [hI, k136, en136, an136, k196, en196, an196, hes, hna, hrs, hw1, hw2, hbx, hzx, hcv, -List.drop_one, -List.drop_drop, mapE_append]
        refine ⟨?_, rfl⟩
        rw [← e3, IntKind.wrap_i64]
        omega



theorem okN139 (d : List Int) (hd : inB d) (hl : d.length ≤ 6000) (hz : unU d = none) : Ok0 Try.prog 139 [(pL tU8).enc d] (.tp [(false, [.pv .nl]), (false, [.pv (.sc (.bool false))])]) [] 0 := by
  obtain ⟨I, hI⟩ : ∃ I, I = real := ⟨_, rfl⟩; obtain ⟨K, hK⟩ : ∃ K : FuncId → En, K = fun g => (lk g [(136, en136), (196, en196)]).getD default := ⟨_, rfl⟩; have k136 : K 136 = en136 := (by subst hK; rfl); have k196 : K 196 = en196 := (by subst hK; rfl); clear hK
  have hna : True := trivial
  have hrs : True := trivial
  have hw1 : True := trivial
  have hw2 : True := trivial
  have hbx : True := trivial
  have hzx : True := trivial
  obtain ⟨es, hes⟩ : ∃ es, es = tU8.encs d := ⟨_, rfl⟩
  show Ok0 Try.prog 139 [.one (.pv (.sl false 1 (tU8.encs d)))] _ _ _
  rw [← hes]
  by_cases h0 : d.length = 0
  · have hcv : True := trivial
    refine Ok0_run (Y := (Tab.calls [(136, true, callRd I (callE I (K 136) sh136)), (196, false, callVw I (callE I (K 196) sh196))])) xok (TabOk.calls mixed ⟨EntryOk.rd (s136 hI k136) hI, fun _ => callRd_quiet _ _, ⟨EntryOk.vw (s196 hI k196) hI, notQuiet, trivial⟩⟩) Try.func139 rfl rfl rfl 2000 hI fun w Xs => ?_; (conv => arg 4; cbv)
    repeat' (first | ((with_reducible refine on_eqs ?_ ?_); (focus (with_reducible rfl)); conv => arg 4; cbv) | (with_reducible refine on_both ?_ ?_ <;> (conv => arg 4; cbv)) | (with_reducible refine on_true (by assumption) ?_; conv => arg 4; cbv) | (with_reducible refine on_false (by assumption) ?_; conv => arg 4; cbv) | (with_reducible refine on_ask (fun g => ?_) (fun g => ?_) <;> (have h := g) <;> (try simp (disch := omega) [hI, k136, en136, an136, k196, en196, an196, hes, hna, hrs, hw1, hw2, hbx, hzx, hcv, -List.drop_one, -List.drop_drop, -List.length_eq_zero_iff] at h) <;> (try (exfalso; omega)) <;> (conv => arg 4; cbv)) | ((with_reducible refine on_must ?_ ?_); (focus (first | (simp (disch := omega) [hI, k136, en136, an136, k196, en196, an196, hes, hna, hrs, hw1, hw2, hbx, hzx, hcv, -List.drop_one, -List.drop_drop]; done) | (simp (disch := omega) [hI, k136, en136, an136, k196, en196, an196, hes, hna, hrs, hw1, hw2, hbx, hzx, hcv, -List.drop_one, -List.drop_drop]; omega) | (simp (disch := omega) [hI, k136, en136, an136, k196, en196, an196, hes, hna, hrs, hw1, hw2, hbx, hzx, hcv, -List.drop_one, -List.drop_drop]; assumption) | (simp (disch := omega) [hI, k136, en136, an136, k196, en196, an196, hes, hna, hrs, hw1, hw2, hbx, hzx, hcv, -List.drop_one, -List.drop_drop]; (refine And.intro ?_ ?_) <;> (first | omega | assumption)))); conv => arg 4; cbv))
    all_goals first | ((with_reducible refine on_ret ?_); refine Ended_of rfl ?_; (conv => lhs; cbv); done) | ((with_reducible refine on_ret ?_); refine Ended_of rfl ?_; (conv => lhs; cbv); rfl) | (exfalso; omega)
  unfold unU at hz
  rw [if_neg h0] at hz
  · have h0 : 1 ≤ d.length := by omega
    have hcb := hd _ (nth_mem (l := d) (i := 0) (by omega))
    have hcv : IntKind.i64.wrap (nth d 0) = nth d 0 := i64w_byte hcb
    refine Ok0_run (Y := (Tab.calls [(136, true, callRd I (callE I (K 136) sh136)), (196, false, callVw I (callE I (K 196) sh196))])) xok (TabOk.calls mixed ⟨EntryOk.rd (s136 hI k136) hI, fun _ => callRd_quiet _ _, ⟨EntryOk.vw (s196 hI k196) hI, notQuiet, trivial⟩⟩) Try.func139 rfl rfl rfl 2000 hI fun w Xs => ?_; (conv => arg 4; cbv)
    repeat' (first | ((with_reducible refine on_eqs ?_ ?_); (focus (with_reducible rfl)); conv => arg 4; cbv) | (with_reducible refine on_both ?_ ?_ <;> (conv => arg 4; cbv)) | (with_reducible refine on_true (by assumption) ?_; conv => arg 4; cbv) | (with_reducible refine on_false (by assumption) ?_; conv => arg 4; cbv) | (with_reducible refine on_ask (fun g => ?_) (fun g => ?_) <;> (have h := g) <;> (try simp (disch := omega) [hI, k136, en136, an136, k196, en196, an196, hes, hna, hrs, hw1, hw2, hbx, hzx, hcv, -List.drop_one, -List.drop_drop, -List.length_eq_zero_iff] at h) <;> (try (exfalso; omega)) <;> (conv => arg 4; cbv)) | ((with_reducible refine on_must ?_ ?_); (focus (first | (simp (disch := omega) [hI, k136, en136, an136, k196, en196, an196, hes, hna, hrs, hw1, hw2, hbx, hzx, hcv, -List.drop_one, -List.drop_drop]; done) | (simp (disch := omega) [hI, k136, en136, an136, k196, en196, an196, hes, hna, hrs, hw1, hw2, hbx, hzx, hcv, -List.drop_one, -List.drop_drop]; omega) | (simp (disch := omega) [hI, k136, en136, an136, k196, en196, an196, hes, hna, hrs, hw1, hw2, hbx, hzx, hcv, -List.drop_one, -List.drop_drop]; assumption) | (simp (disch := omega) [hI, k136, en136, an136, k196, en196, an196, hes, hna, hrs, hw1, hw2, hbx, hzx, hcv, -List.drop_one, -List.drop_drop]; (refine And.intro ?_ ?_) <;> (first | omega | assumption)))); conv => arg 4; cbv))
    (with_reducible refine on_loop ?_); simp only [List.cons_append, List.nil_append]; refine W_norm [0, 4, 5, 6] ?_ (L139f d hd hl h0 es hes (nth d 0).toNat 0 0 1 [] [] (by omega) rfl rfl (by simp) rfl h0 hz); (conv => lhs; cbv)
    simp (disch := omega) [hI, k136, en136, an136, k196, en196, an196, hes, hna, hrs, hw1, hw2, hbx, hzx, hcv, -List.drop_one, -List.drop_drop]

theorem okS139 (d : List Int) (hd : inB d) (hl : d.length ≤ 6000) (fin : List EntryV) (rest : List Int) (hrest : rest = setW (nth d 0).toNat (d.drop 1)) (hz : unU d = some fin) : Ok0 Try.prog 139 [(pL tU8).enc d] (.tp [(false, [.arr 0 0 fin.length]), (false, [.pv (.sc (.bool (decide (rest.length = 0) && decide (setF fin = 0))))])]) [(0, .row 2 (mapE tEntry_own fin))] 1 := by
  obtain ⟨I, hI⟩ : ∃ I, I = real := ⟨_, rfl⟩; obtain ⟨K, hK⟩ : ∃ K : FuncId → En, K = fun g => (lk g [(136, en136), (196, en196)]).getD default := ⟨_, rfl⟩; have k136 : K 136 = en136 := (by subst hK; rfl); have k196 : K 196 = en196 := (by subst hK; rfl); clear hK
  have hna : True := trivial
  have hrs : True := trivial
  have hw1 : True := trivial
  have hw2 : True := trivial
  have hbx : True := trivial
  have hzx : True := trivial
  obtain ⟨es, hes⟩ : ∃ es, es = tU8.encs d := ⟨_, rfl⟩
  show Ok0 Try.prog 139 [.one (.pv (.sl false 1 (tU8.encs d)))] _ _ _
  rw [← hes]
  unfold unU at hz
  by_cases h0 : d.length = 0
  · rw [if_pos h0] at hz; cases hz
  rw [if_neg h0] at hz
  · have h0 : 1 ≤ d.length := by omega
    have hcb := hd _ (nth_mem (l := d) (i := 0) (by omega))
    have hcv : IntKind.i64.wrap (nth d 0) = nth d 0 := i64w_byte hcb
    refine Ok0_run (Y := (Tab.calls [(136, true, callRd I (callE I (K 136) sh136)), (196, false, callVw I (callE I (K 196) sh196))])) xok (TabOk.calls mixed ⟨EntryOk.rd (s136 hI k136) hI, fun _ => callRd_quiet _ _, ⟨EntryOk.vw (s196 hI k196) hI, notQuiet, trivial⟩⟩) Try.func139 rfl rfl rfl 2000 hI fun w Xs => ?_; (conv => arg 4; cbv)
    repeat' (first | ((with_reducible refine on_eqs ?_ ?_); (focus (with_reducible rfl)); conv => arg 4; cbv) | (with_reducible refine on_both ?_ ?_ <;> (conv => arg 4; cbv)) | (with_reducible refine on_true (by assumption) ?_; conv => arg 4; cbv) | (with_reducible refine on_false (by assumption) ?_; conv => arg 4; cbv) | (with_reducible refine on_ask (fun g => ?_) (fun g => ?_) <;> (have h := g) <;> (try simp (disch := omega) [hI, k136, en136, an136, k196, en196, an196, hes, hna, hrs, hw1, hw2, hbx, hzx, hcv, -List.drop_one, -List.drop_drop, -List.length_eq_zero_iff] at h) <;> (try (exfalso; omega)) <;> (conv => arg 4; cbv)) | ((with_reducible refine on_must ?_ ?_); (focus (first | (simp (disch := omega) [hI, k136, en136, an136, k196, en196, an196, hes, hna, hrs, hw1, hw2, hbx, hzx, hcv, -List.drop_one, -List.drop_drop]; done) | (simp (disch := omega) [hI, k136, en136, an136, k196, en196, an196, hes, hna, hrs, hw1, hw2, hbx, hzx, hcv, -List.drop_one, -List.drop_drop]; omega) | (simp (disch := omega) [hI, k136, en136, an136, k196, en196, an196, hes, hna, hrs, hw1, hw2, hbx, hzx, hcv, -List.drop_one, -List.drop_drop]; assumption) | (simp (disch := omega) [hI, k136, en136, an136, k196, en196, an196, hes, hna, hrs, hw1, hw2, hbx, hzx, hcv, -List.drop_one, -List.drop_drop]; (refine And.intro ?_ ?_) <;> (first | omega | assumption)))); conv => arg 4; cbv))
    (with_reducible refine on_loop ?_); simp only [List.cons_append, List.nil_append]; refine W_norm [0, 4, 5, 6] ?_ (L139s d hd hl h0 es hes fin rest (nth d 0).toNat 0 0 1 [] [] (by omega) rfl rfl (by simp) rfl h0 ⟨by simpa using hz, hrest.symm⟩); (conv => lhs; cbv)
    simp (disch := omega) [hI, k136, en136, an136, k196, en196, an196, hes, hna, hrs, hw1, hw2, hbx, hzx, hcv, -List.drop_one, -List.drop_drop]

theorem s139 {I : Ops} (hI : I = real) {e : En} (he : e = en139) : Sound Try.prog 139 (callE I e sh139) := by
  refine Sound.mkR ent139 hI ?_ he
  rintro ⟨d, ⟨⟩⟩ hp r σ n e
  
  have hp : (decide (d.length ≤ 6000) && d.all fun b => decide (0 ≤ b ∧ b ≤ 255)) = true := hp
  simp only [Bool.and_eq_true, List.all_eq_true, decide_eq_true_eq] at hp
  cases hz : unU d with
  | none =>
    have e : (R.ok (.tp [(false, [.pv .nl]), (false, [.pv (.sc (.bool false))])], [], 0) : R (AV × Store × Nat)).val = some (r, σ, n) := by
      rw [← e]
      simp [sh139, an139, hz, val_ask]
    cases e
    exact okN139 d hp.2 hp.1 hz
  | some fin =>
    have e : (R.ok (.tp [(false, [.arr 0 0 fin.length]), (false, [.pv (.sc (.bool (decide ((setW (nth d 0).toNat (d.drop 1)).length = 0) && decide (setF fin = 0))))])], [(0, .row 2 (mapE tEntry_own fin))], 1) : R (AV × Store × Nat)).val = some (r, σ, n) := by
      rw [← e]
      simp [sh139, an139, hz, val_ask, getE, unUok, mapE_length]
    cases e
    exact okS139 d hp.2 hp.1 fin _ rfl hz
end Go.Proofs.Try
