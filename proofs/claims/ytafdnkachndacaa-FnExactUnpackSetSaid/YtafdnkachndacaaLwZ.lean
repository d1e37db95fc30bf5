/- Contracts. -/
import Derived.Test.YtafdnkachndacaaLwY
set_option linter.unusedSimpArgs false
set_option linter.unusedVariables false
namespace Go.Proofs.Try
open Go Go.Aix
set_option maxRecDepth 100000
set_option maxHeartbeats 4000000
set_option linter.unusedSimpArgs false
set_option linter.unusedVariables false
/-- Longs that are read, and what is left. -/
def rowV : Nat → List Int → Bool → List Int
  | 0, _, _ => []
  | k + 1, d, s => (lngB d s).1 :: rowV k (lngB d s).2.1 (lngB d s).2.2
def rowD : Nat → List Int → Bool → List Int × Bool
  | 0, d, s => (d, s)
  | k + 1, d, s => rowD k (lngB d s).2.1 (lngB d s).2.2
/-- An entry that is read, and what is left. -/
def eR (d : List Int) (s : Bool) : List Int × Bool := rowD (nxB d s).1.toNat (nxB d s).2.1 (nxB d s).2.2
def eD (d : List Int) (s : Bool) : Int × List Int × Bool := lngB (eR d s).1 (eR d s).2
def eV (d : List Int) (s : Bool) : EntryV := ⟨rowV (nxB d s).1.toNat (nxB d s).2.1 (nxB d s).2.2, (eD d s).1⟩
def setO : Nat → List Int → Bool → Option (List EntryV)
  | 0, _, _ => some []
  | k + 1, d, s => if (eD d s).2.2 = true then none else (setO k (eD d s).2.1 (eD d s).2.2).map (eV d s :: ·)
def setQ : Nat → List Int → Bool → List Int × Bool
  | 0, d, s => (d, s)
  | k + 1, d, s => if (eD d s).2.2 = true then ((eD d s).2.1, true) else setQ k (eD d s).2.1 (eD d s).2.2
theorem rowV_len : ∀ (k : Nat) (d : List Int) (s : Bool), (rowV k d s).length = k
  | 0, _, _ => rfl
  | k + 1, d, s => by rw [rowV, List.length_cons, rowV_len k]
theorem rowD_in : ∀ (k : Nat) {d : List Int} {s : Bool}, inB d → inB (rowD k d s).1
  | 0, _, _, h => h
  | k + 1, _, _, h => rowD_in k (lngB_in h)
theorem rowD_len : ∀ (k : Nat) (d : List Int) (s : Bool), (rowD k d s).1.length ≤ d.length
  | 0, _, _ => Nat.le_refl _
  | k + 1, d, s => Nat.le_trans (rowD_len k _ _) (lngB_len d s)
theorem eR_in {d : List Int} {s : Bool} (h : inB d) : inB (eR d s).1 := rowD_in _ (nxB_in h).1
theorem eR_len (d : List Int) (s : Bool) : (eR d s).1.length ≤ d.length := Nat.le_trans (rowD_len _ _ _) (nxB_len d s)
theorem eD_in {d : List Int} {s : Bool} (h : inB d) : inB (eD d s).2.1 := lngB_in (eR_in h)
theorem eD_len (d : List Int) (s : Bool) : (eD d s).2.1.length ≤ d.length := Nat.le_trans (lngB_len _ _) (eR_len d s)
theorem wkE1 (x : Nat × Chunk) (acc : List EntryV) (wt : Int) : SWk [x, (1, .row 2 (mapE tEntry_own acc ++ [[.nl, .sc (.int .i64 wt)]]))] [x, (1, .row 2 (mapE tEntry_own (acc ++ [⟨[], wt⟩])))] := by
  refine SWk.cons _ (SWk.row ?_)
  rw [show mapE tEntry_own (acc ++ [⟨[], wt⟩]) = mapE tEntry_own acc ++ [[.sl true 1 [], .sc (.int .i64 wt)]] by rw [mapE_append]; rfl]
  exact Wk.nl.app _

theorem ent140 : Enters Try.prog 140 := ⟨Try.f140, Try.func140, by kernel_rfl, by kernel_rfl⟩

theorem M140 {w : World} {Xs : Nat → Prop} {β0 : Nat → Nat × Nat} {O0 : Nat → List Nat} (ds0 : List (List PV)) (s0 : Bool) (r : AV) (σ : Store) (nx : Nat) (c : Int) (hc0 : 0 ≤ c ∧ c ≤ 255) (i n : Nat) (acc : List EntryV) (rs : List (List PV)) (hna : n = acc.length) (hai : acc.length = i) (hic : (i : Int) < c) (hrs : rs = mapE tEntry_own acc) (wd : Int) (hwd : 0 ≤ wd ∧ wd ≤ 255) (rd : List Int × Bool) (row : List Int) (wt : Int) (dd : List Int) (sf : Bool) (hlng : lngB rd.1 rd.2 = (wt, dd, sf)) (hrdi : inB rd.1) (hrdl : rd.1.length ≤ 6000)
    (hX : sf = true → r = .one (.pv .nl) ∧ σ = [(0, .box [.pv (.sl false 1 (tU8.encs dd)), .pv (.sc (.bool true))])] ∧ nx = 1)
    (hN : sf = false → ∀ (n' : Nat) (acc' : List EntryV) (rs' ds' : List (List PV)), n' = acc'.length → acc' = acc ++ [⟨row, wt⟩] → rs' = mapE tEntry_own acc' → ds' = tU8.encs dd → W Try.prog 140 Try.f140 (EntR w Xs β0 O0 [(0, .box [.pv (.sl false 1 ds0), .pv (.sc (.bool s0))])] 1) (Back (EntR w Xs β0 O0 [(0, .box [.pv (.sl false 1 ds0), .pv (.sc (.bool s0))])] 1) r σ nx) (place (bodyOf Try.f140) [1,1,0,1,0,0] [])
      ⟨[(0, .one (.ptr 0 0 0)), (3, .one (.arr 1 0 n')), (7, .one (.pv (.sc (.int .i64 c)))), (8, .one (.pv (.sc (.int .i64 ((i + 1 : Nat) : Int)))))], [(0, .box [.pv (.sl false 1 ds'), .pv (.sc (.bool false))]), (1, .row 2 rs')], 2⟩) :
    ∀ (k q m : Nat) (ra : List Int) (er ds : List (List PV)) (d : List Int) (s : Bool), (k : Int) + q = wd → m = ra.length → ra.length = q → er = tI64.encs ra → ds = tU8.encs d → inB d → d.length ≤ 6000 → ra ++ rowV k d s = row → rowD k d s = rd →
      W Try.prog 140 Try.f140 (EntR w Xs β0 O0 [(0, .box [.pv (.sl false 1 ds0), .pv (.sc (.bool s0))])] 1) (Back (EntR w Xs β0 O0 [(0, .box [.pv (.sl false 1 ds0), .pv (.sc (.bool s0))])] 1) r σ nx) (place (bodyOf Try.f140) [1,1,0,1,0,0,1,1,0,0,1,0,1,0,0] [])
      ⟨[(0, .one (.ptr 0 0 0)), (3, .one (.arr 1 0 n)), (7, .one (.pv (.sc (.int .i64 c)))), (8, .one (.pv (.sc (.int .i64 (i : Int))))), (4, .one (.ptr 2 0 0)), (12, .one (.pv (.sc (.int .i64 wd)))), (13, .one (.pv (.sc (.int .i64 (q : Int)))))], [(0, .box [.pv (.sl false 1 ds), .pv (.sc (.bool s))]), (1, .row 2 rs), (2, .box [.arr 3 0 m, .pv (.sc (.int .i64 0))]), (3, .row 1 er)], 4⟩ := by
  obtain ⟨I, hI⟩ : ∃ I, I = real := ⟨_, rfl⟩; obtain ⟨K, hK⟩ : ∃ K : FuncId → En, K = fun g => (lk g [(195, en195)]).getD default := ⟨_, rfl⟩; have k195 : K 195 = en195 := (by subst hK; rfl); clear hK
  intro k
  induction k with
  | zero =>
    intro q m ra er ds d s hk hma hraq her hds hd hdl hrow hrd
    have hrow : ra = row := by simpa [rowV] using hrow
    have hrd : (d, s) = rd := hrd
    subst hrow
    rw [← hrd] at hlng
    have hl1 : lngB d s = (wt, dd, sf) := hlng
    cases sf with
    | true =>
      obtain ⟨x1, x2, x3⟩ := hX rfl
      subst x1 x2 x3
      refine W_go (Y := (Tab.calls [(194, false, callRef I (inlR X I (Tab.calls []) Try.f194)), (195, false, callRef I (boxE I (K 195) sh195))])) xok (TabOk.calls mixed ⟨EntryOk.ref (s194 hI) hI, notQuiet, ⟨EntryOk.ref (s195 hI k195) hI, notQuiet, trivial⟩⟩) Try.func140 rfl 2000 _ hI ?_; (conv => arg 4; cbv)
      repeat' (first | ((with_reducible refine on_eqs ?_ ?_); (focus (with_reducible rfl)); conv => arg 4; cbv) | (with_reducible refine on_both ?_ ?_ <;> (conv => arg 4; cbv)) | (with_reducible refine on_true (by assumption) ?_; conv => arg 4; cbv) | (with_reducible refine on_false (by assumption) ?_; conv => arg 4; cbv) | (with_reducible refine on_ask (fun g => ?_) (fun g => ?_) <;> (have h := g) <;> (try simp (disch := omega) [hI, k195, en195, an195, hna, hrs, hma, her, hds, hl1, -List.length_eq_zero_iff] at h) <;> (try (exfalso; omega)) <;> (conv => arg 4; cbv)) | ((with_reducible refine on_must ?_ ?_); (focus (first | (simp (disch := omega) [hI, k195, en195, an195, hna, hrs, hma, her, hds, hl1]; done) | (simp (disch := omega) [hI, k195, en195, an195, hna, hrs, hma, her, hds, hl1]; omega) | (simp (disch := omega) [hI, k195, en195, an195, hna, hrs, hma, her, hds, hl1]; assumption) | (simp (disch := omega) [hI, k195, en195, an195, hna, hrs, hma, her, hds, hl1]; (refine And.intro ?_ ?_) <;> (first | omega | assumption)))); conv => arg 4; cbv))
      (with_reducible refine on_ret ?_); refine EndedN_of ?_; (conv => lhs; cbv)
      simp (disch := omega) [hI, k195, en195, an195, hna, hrs, hma, her, hds, hl1]
    | false =>
      refine W_go (Y := (Tab.calls [(194, false, callRef I (inlR X I (Tab.calls []) Try.f194)), (195, false, callRef I (boxE I (K 195) sh195))])) xok (TabOk.calls mixed ⟨EntryOk.ref (s194 hI) hI, notQuiet, ⟨EntryOk.ref (s195 hI k195) hI, notQuiet, trivial⟩⟩) Try.func140 rfl 2000 _ hI ?_; (conv => arg 4; cbv)
      repeat' (first | ((with_reducible refine on_eqs ?_ ?_); (focus (with_reducible rfl)); conv => arg 4; cbv) | (with_reducible refine on_both ?_ ?_ <;> (conv => arg 4; cbv)) | (with_reducible refine on_true (by assumption) ?_; conv => arg 4; cbv) | (with_reducible refine on_false (by assumption) ?_; conv => arg 4; cbv) | (with_reducible refine on_ask (fun g => ?_) (fun g => ?_) <;> (have h := g) <;> (try simp (disch := omega) [hI, k195, en195, an195, hna, hrs, hma, her, hds, hl1, -List.length_eq_zero_iff] at h) <;> (try (exfalso; omega)) <;> (conv => arg 4; cbv)) | ((with_reducible refine on_must ?_ ?_); (focus (first | (simp (disch := omega) [hI, k195, en195, an195, hna, hrs, hma, her, hds, hl1]; done) | (simp (disch := omega) [hI, k195, en195, an195, hna, hrs, hma, her, hds, hl1]; omega) | (simp (disch := omega) [hI, k195, en195, an195, hna, hrs, hma, her, hds, hl1]; assumption) | (simp (disch := omega) [hI, k195, en195, an195, hna, hrs, hma, her, hds, hl1]; (refine And.intro ?_ ?_) <;> (first | omega | assumption)))); conv => arg 4; cbv))
      (with_reducible refine on_loop ?_); simp only [List.cons_append, List.nil_append]; refine W_norm [0, 3, 7, 8] ?_ (hN rfl _ _ _ _ rfl rfl rfl rfl); (conv => lhs; cbv)
      simp (disch := omega) [hI, k195, en195, an195, hna, hrs, hma, her, hds, hl1, mapE_append]
      try rfl
  | succ k ih =>
    intro q m ra er ds d s hk hma hraq her hds hd hdl hrow hrd
    have hl1 : True := trivial
    rw [rowV] at hrow
    rw [rowD] at hrd
    refine W_go (Y := (Tab.calls [(194, false, callRef I (inlR X I (Tab.calls []) Try.f194)), (195, false, callRef I (boxE I (K 195) sh195))])) xok (TabOk.calls mixed ⟨EntryOk.ref (s194 hI) hI, notQuiet, ⟨EntryOk.ref (s195 hI k195) hI, notQuiet, trivial⟩⟩) Try.func140 rfl 2000 _ hI ?_; (conv => arg 4; cbv)
    repeat' (first | ((with_reducible refine on_eqs ?_ ?_); (focus (with_reducible rfl)); conv => arg 4; cbv) | (with_reducible refine on_both ?_ ?_ <;> (conv => arg 4; cbv)) | (with_reducible refine on_true (by assumption) ?_; conv => arg 4; cbv) | (with_reducible refine on_false (by assumption) ?_; conv => arg 4; cbv) | (with_reducible refine on_ask (fun g => ?_) (fun g => ?_) <;> (have h := g) <;> (try simp (disch := omega) [hI, k195, en195, an195, hna, hrs, hma, her, hds, hl1, -List.length_eq_zero_iff] at h) <;> (try (exfalso; omega)) <;> (conv => arg 4; cbv)) | ((with_reducible refine on_must ?_ ?_); (focus (first | (simp (disch := omega) [hI, k195, en195, an195, hna, hrs, hma, her, hds, hl1]; done) | (simp (disch := omega) [hI, k195, en195, an195, hna, hrs, hma, her, hds, hl1]; omega) | (simp (disch := omega) [hI, k195, en195, an195, hna, hrs, hma, her, hds, hl1]; assumption) | (simp (disch := omega) [hI, k195, en195, an195, hna, hrs, hma, her, hds, hl1]; (refine And.intro ?_ ?_) <;> (first | omega | assumption)))); conv => arg 4; cbv))
    (with_reducible refine on_any ?_); refine W_any (Y := (Tab.calls [(194, false, callRef I (inlR X I (Tab.calls []) Try.f194)), (195, false, callRef I (boxE I (K 195) sh195))])) xok (TabOk.calls mixed ⟨EntryOk.ref (s194 hI) hI, notQuiet, ⟨EntryOk.ref (s195 hI k195) hI, notQuiet, trivial⟩⟩) mixed hI rfl (by kernel_rfl) rfl rfl ?_; (conv => arg 4; cbv)
    repeat' (first | ((with_reducible refine on_eqs ?_ ?_); (focus (with_reducible rfl)); conv => arg 4; cbv) | (with_reducible refine on_both ?_ ?_ <;> (conv => arg 4; cbv)) | (with_reducible refine on_true (by assumption) ?_; conv => arg 4; cbv) | (with_reducible refine on_false (by assumption) ?_; conv => arg 4; cbv) | (with_reducible refine on_ask (fun g => ?_) (fun g => ?_) <;> (have h := g) <;> (try simp (disch := omega) [hI, k195, en195, an195, hna, hrs, hma, her, hds, hl1, -List.length_eq_zero_iff] at h) <;> (try (exfalso; omega)) <;> (conv => arg 4; cbv)) | ((with_reducible refine on_must ?_ ?_); (focus (first | (simp (disch := omega) [hI, k195, en195, an195, hna, hrs, hma, her, hds, hl1]; done) | (simp (disch := omega) [hI, k195, en195, an195, hna, hrs, hma, her, hds, hl1]; omega) | (simp (disch := omega) [hI, k195, en195, an195, hna, hrs, hma, her, hds, hl1]; assumption) | (simp (disch := omega) [hI, k195, en195, an195, hna, hrs, hma, her, hds, hl1]; (refine And.intro ?_ ?_) <;> (first | omega | assumption)))); conv => arg 4; cbv))
    all_goals ((with_reducible refine on_any ?_); refine W_behind (Y := (Tab.calls [(194, false, callRef I (inlR X I (Tab.calls []) Try.f194)), (195, false, callRef I (boxE I (K 195) sh195))])) xok (TabOk.calls mixed ⟨EntryOk.ref (s194 hI) hI, notQuiet, ⟨EntryOk.ref (s195 hI k195) hI, notQuiet, trivial⟩⟩) Try.func140 rfl 2000 _ hI ?_; (conv => arg 4; cbv))
    repeat' (first | ((with_reducible refine on_eqs ?_ ?_); (focus (with_reducible rfl)); conv => arg 4; cbv) | (with_reducible refine on_both ?_ ?_ <;> (conv => arg 4; cbv)) | (with_reducible refine on_true (by assumption) ?_; conv => arg 4; cbv) | (with_reducible refine on_false (by assumption) ?_; conv => arg 4; cbv) | (with_reducible refine on_ask (fun g => ?_) (fun g => ?_) <;> (have h := g) <;> (try simp (disch := omega) [hI, k195, en195, an195, hna, hrs, hma, her, hds, hl1, -List.length_eq_zero_iff] at h) <;> (try (exfalso; omega)) <;> (conv => arg 4; cbv)) | ((with_reducible refine on_must ?_ ?_); (focus (first | (simp (disch := omega) [hI, k195, en195, an195, hna, hrs, hma, her, hds, hl1]; done) | (simp (disch := omega) [hI, k195, en195, an195, hna, hrs, hma, her, hds, hl1]; omega) | (simp (disch := omega) [hI, k195, en195, an195, hna, hrs, hma, her, hds, hl1]; assumption) | (simp (disch := omega) [hI, k195, en195, an195, hna, hrs, hma, her, hds, hl1]; (refine And.intro ?_ ?_) <;> (first | omega | assumption)))); conv => arg 4; cbv))
    all_goals
      (with_reducible refine on_loop ?_); simp only [List.cons_append, List.nil_append]; refine W_norm [0, 3, 7, 8, 4, 12, 13] ?_ (ih (q + 1) _ (ra ++ [(lngB d s).1]) _ _ (lngB d s).2.1 (lngB d s).2.2 (by omega) rfl (by simp; omega) rfl rfl (lngB_in hd) (Nat.le_trans (lngB_len _ _) hdl) (by rw [← hrow]; simp) hrd); (conv => lhs; cbv)
      simp (disch := omega) [hI, k195, en195, an195, hna, hrs, hma, her, hds, hl1, tI64.encs_append]
      try rfl


theorem N140 {w : World} {Xs : Nat → Prop} {β0 : Nat → Nat × Nat} {O0 : Nat → List Nat} (ds0 : List (List PV)) (s0 : Bool) (r : AV) (σ : Store) (nx : Nat) (c : Int) (hc0 : 0 ≤ c ∧ c ≤ 255) (i n : Nat) (acc : List EntryV) (rs : List (List PV)) (hna : n = acc.length) (hai : acc.length = i) (hic : (i : Int) < c) (hrs : rs = mapE tEntry_own acc) (wd : Int) (hwd : 0 ≤ wd ∧ wd ≤ 255) (rd : List Int × Bool) (row : List Int) (wt : Int) (dd : List Int) (sf : Bool) (hlng : lngB rd.1 rd.2 = (wt, dd, sf)) (hrdi : inB rd.1) (hrdl : rd.1.length ≤ 6000)
    (hX : sf = true → r = .one (.pv .nl) ∧ σ = [(0, .box [.pv (.sl false 1 (tU8.encs dd)), .pv (.sc (.bool true))])] ∧ nx = 1)
    (hN : sf = false → ∀ (n' : Nat) (acc' : List EntryV) (rs' ds' : List (List PV)), n' = acc'.length → acc' = acc ++ [⟨row, wt⟩] → rs' = mapE tEntry_own acc' → ds' = tU8.encs dd → W Try.prog 140 Try.f140 (EntR w Xs β0 O0 [(0, .box [.pv (.sl false 1 ds0), .pv (.sc (.bool s0))])] 1) (Back (EntR w Xs β0 O0 [(0, .box [.pv (.sl false 1 ds0), .pv (.sc (.bool s0))])] 1) r σ nx) (place (bodyOf Try.f140) [1,1,0,1,0,0] [])
      ⟨[(0, .one (.ptr 0 0 0)), (3, .one (.arr 1 0 n')), (7, .one (.pv (.sc (.int .i64 c)))), (8, .one (.pv (.sc (.int .i64 ((i + 1 : Nat) : Int)))))], [(0, .box [.pv (.sl false 1 ds'), .pv (.sc (.bool false))]), (1, .row 2 rs')], 2⟩) :
    ∀ (k : Nat) (ds : List (List PV)) (d : List Int) (s : Bool), (k : Int) = wd → ds = tU8.encs d → inB d → d.length ≤ 6000 → rowV k d s = row → rowD k d s = rd →
      W Try.prog 140 Try.f140 (EntR w Xs β0 O0 [(0, .box [.pv (.sl false 1 ds0), .pv (.sc (.bool s0))])] 1) (Back (EntR w Xs β0 O0 [(0, .box [.pv (.sl false 1 ds0), .pv (.sc (.bool s0))])] 1) r σ nx) (place (bodyOf Try.f140) [1,1,0,1,0,0,1,1,0,0,1,0,1,0,0] [])
      ⟨[(0, .one (.ptr 0 0 0)), (3, .one (.arr 1 0 n)), (7, .one (.pv (.sc (.int .i64 c)))), (8, .one (.pv (.sc (.int .i64 (i : Int))))), (4, .one (.ptr 2 0 0)), (12, .one (.pv (.sc (.int .i64 wd)))), (13, .one (.pv (.sc (.int .i64 0))))], [(0, .box [.pv (.sl false 1 ds), .pv (.sc (.bool s))]), (1, .row 2 rs), (2, .box [.pv .nl, .pv (.sc (.int .i64 0))])], 3⟩ := by
  obtain ⟨I, hI⟩ : ∃ I, I = real := ⟨_, rfl⟩; obtain ⟨K, hK⟩ : ∃ K : FuncId → En, K = fun g => (lk g [(195, en195)]).getD default := ⟨_, rfl⟩; have k195 : K 195 = en195 := (by subst hK; rfl); clear hK
  have hma : True := trivial
  have her : True := trivial
  intro k
  cases k with
  | zero =>
    intro ds d s hk hds hd hdl hrow hrd
    have hrow : [] = row := hrow
    have hrd : (d, s) = rd := hrd
    subst hrow
    rw [← hrd] at hlng
    have hl1 : lngB d s = (wt, dd, sf) := hlng
    cases sf with
    | true =>
      obtain ⟨x1, x2, x3⟩ := hX rfl
      subst x1 x2 x3
      refine W_go (Y := (Tab.calls [(194, false, callRef I (inlR X I (Tab.calls []) Try.f194)), (195, false, callRef I (boxE I (K 195) sh195))])) xok (TabOk.calls mixed ⟨EntryOk.ref (s194 hI) hI, notQuiet, ⟨EntryOk.ref (s195 hI k195) hI, notQuiet, trivial⟩⟩) Try.func140 rfl 2000 _ hI ?_; (conv => arg 4; cbv)
      repeat' (first | ((with_reducible refine on_eqs ?_ ?_); (focus (with_reducible rfl)); conv => arg 4; cbv) | (with_reducible refine on_both ?_ ?_ <;> (conv => arg 4; cbv)) | (with_reducible refine on_true (by assumption) ?_; conv => arg 4; cbv) | (with_reducible refine on_false (by assumption) ?_; conv => arg 4; cbv) | (with_reducible refine on_ask (fun g => ?_) (fun g => ?_) <;> (have h := g) <;> (try simp (disch := omega) [hI, k195, en195, an195, hna, hrs, hma, her, hds, hl1, -List.length_eq_zero_iff] at h) <;> (try (exfalso; omega)) <;> (conv => arg 4; cbv)) | ((with_reducible refine on_must ?_ ?_); (focus (first | (simp (disch := omega) [hI, k195, en195, an195, hna, hrs, hma, her, hds, hl1]; done) | (simp (disch := omega) [hI, k195, en195, an195, hna, hrs, hma, her, hds, hl1]; omega) | (simp (disch := omega) [hI, k195, en195, an195, hna, hrs, hma, her, hds, hl1]; assumption) | (simp (disch := omega) [hI, k195, en195, an195, hna, hrs, hma, her, hds, hl1]; (refine And.intro ?_ ?_) <;> (first | omega | assumption)))); conv => arg 4; cbv))
      (with_reducible refine on_ret ?_); refine EndedN_of ?_; (conv => lhs; cbv)
      simp (disch := omega) [hI, k195, en195, an195, hna, hrs, hma, her, hds, hl1]
    | false =>
      refine W_go (Y := (Tab.calls [(194, false, callRef I (inlR X I (Tab.calls []) Try.f194)), (195, false, callRef I (boxE I (K 195) sh195))])) xok (TabOk.calls mixed ⟨EntryOk.ref (s194 hI) hI, notQuiet, ⟨EntryOk.ref (s195 hI k195) hI, notQuiet, trivial⟩⟩) Try.func140 rfl 2000 _ hI ?_; (conv => arg 4; cbv)
      repeat' (first | ((with_reducible refine on_eqs ?_ ?_); (focus (with_reducible rfl)); conv => arg 4; cbv) | (with_reducible refine on_both ?_ ?_ <;> (conv => arg 4; cbv)) | (with_reducible refine on_true (by assumption) ?_; conv => arg 4; cbv) | (with_reducible refine on_false (by assumption) ?_; conv => arg 4; cbv) | (with_reducible refine on_ask (fun g => ?_) (fun g => ?_) <;> (have h := g) <;> (try simp (disch := omega) [hI, k195, en195, an195, hna, hrs, hma, her, hds, hl1, -List.length_eq_zero_iff] at h) <;> (try (exfalso; omega)) <;> (conv => arg 4; cbv)) | ((with_reducible refine on_must ?_ ?_); (focus (first | (simp (disch := omega) [hI, k195, en195, an195, hna, hrs, hma, her, hds, hl1]; done) | (simp (disch := omega) [hI, k195, en195, an195, hna, hrs, hma, her, hds, hl1]; omega) | (simp (disch := omega) [hI, k195, en195, an195, hna, hrs, hma, her, hds, hl1]; assumption) | (simp (disch := omega) [hI, k195, en195, an195, hna, hrs, hma, her, hds, hl1]; (refine And.intro ?_ ?_) <;> (first | omega | assumption)))); conv => arg 4; cbv))
      (with_reducible refine on_loop ?_); simp only [List.cons_append, List.nil_append]; refine W_norm [0, 3, 7, 8] ?_ (W_wk (wkE1 _ acc wt) (hN rfl _ _ _ _ rfl rfl rfl rfl)); (conv => lhs; cbv)
      simp (disch := omega) [hI, k195, en195, an195, hna, hrs, hma, her, hds, hl1]
      try rfl
  | succ k =>
    intro ds d s hk hds hd hdl hrow hrd
    have hl1 : True := trivial
    rw [rowV] at hrow
    rw [rowD] at hrd
    refine W_go (Y := (Tab.calls [(194, false, callRef I (inlR X I (Tab.calls []) Try.f194)), (195, false, callRef I (boxE I (K 195) sh195))])) xok (TabOk.calls mixed ⟨EntryOk.ref (s194 hI) hI, notQuiet, ⟨EntryOk.ref (s195 hI k195) hI, notQuiet, trivial⟩⟩) Try.func140 rfl 2000 _ hI ?_; (conv => arg 4; cbv)
    repeat' (first | ((with_reducible refine on_eqs ?_ ?_); (focus (with_reducible rfl)); conv => arg 4; cbv) | (with_reducible refine on_both ?_ ?_ <;> (conv => arg 4; cbv)) | (with_reducible refine on_true (by assumption) ?_; conv => arg 4; cbv) | (with_reducible refine on_false (by assumption) ?_; conv => arg 4; cbv) | (with_reducible refine on_ask (fun g => ?_) (fun g => ?_) <;> (have h := g) <;> (try simp (disch := omega) [hI, k195, en195, an195, hna, hrs, hma, her, hds, hl1, -List.length_eq_zero_iff] at h) <;> (try (exfalso; omega)) <;> (conv => arg 4; cbv)) | ((with_reducible refine on_must ?_ ?_); (focus (first | (simp (disch := omega) [hI, k195, en195, an195, hna, hrs, hma, her, hds, hl1]; done) | (simp (disch := omega) [hI, k195, en195, an195, hna, hrs, hma, her, hds, hl1]; omega) | (simp (disch := omega) [hI, k195, en195, an195, hna, hrs, hma, her, hds, hl1]; assumption) | (simp (disch := omega) [hI, k195, en195, an195, hna, hrs, hma, her, hds, hl1]; (refine And.intro ?_ ?_) <;> (first | omega | assumption)))); conv => arg 4; cbv))
    (with_reducible refine on_any ?_); refine W_any (Y := (Tab.calls [(194, false, callRef I (inlR X I (Tab.calls []) Try.f194)), (195, false, callRef I (boxE I (K 195) sh195))])) xok (TabOk.calls mixed ⟨EntryOk.ref (s194 hI) hI, notQuiet, ⟨EntryOk.ref (s195 hI k195) hI, notQuiet, trivial⟩⟩) mixed hI rfl (by kernel_rfl) rfl rfl ?_; (conv => arg 4; cbv)
    repeat' (first | ((with_reducible refine on_eqs ?_ ?_); (focus (with_reducible rfl)); conv => arg 4; cbv) | (with_reducible refine on_both ?_ ?_ <;> (conv => arg 4; cbv)) | (with_reducible refine on_true (by assumption) ?_; conv => arg 4; cbv) | (with_reducible refine on_false (by assumption) ?_; conv => arg 4; cbv) | (with_reducible refine on_ask (fun g => ?_) (fun g => ?_) <;> (have h := g) <;> (try simp (disch := omega) [hI, k195, en195, an195, hna, hrs, hma, her, hds, hl1, -List.length_eq_zero_iff] at h) <;> (try (exfalso; omega)) <;> (conv => arg 4; cbv)) | ((with_reducible refine on_must ?_ ?_); (focus (first | (simp (disch := omega) [hI, k195, en195, an195, hna, hrs, hma, her, hds, hl1]; done) | (simp (disch := omega) [hI, k195, en195, an195, hna, hrs, hma, her, hds, hl1]; omega) | (simp (disch := omega) [hI, k195, en195, an195, hna, hrs, hma, her, hds, hl1]; assumption) | (simp (disch := omega) [hI, k195, en195, an195, hna, hrs, hma, her, hds, hl1]; (refine And.intro ?_ ?_) <;> (first | omega | assumption)))); conv => arg 4; cbv))
    all_goals ((with_reducible refine on_any ?_); refine W_behind (Y := (Tab.calls [(194, false, callRef I (inlR X I (Tab.calls []) Try.f194)), (195, false, callRef I (boxE I (K 195) sh195))])) xok (TabOk.calls mixed ⟨EntryOk.ref (s194 hI) hI, notQuiet, ⟨EntryOk.ref (s195 hI k195) hI, notQuiet, trivial⟩⟩) Try.func140 rfl 2000 _ hI ?_; (conv => arg 4; cbv))
    repeat' (first | ((with_reducible refine on_eqs ?_ ?_); (focus (with_reducible rfl)); conv => arg 4; cbv) | (with_reducible refine on_both ?_ ?_ <;> (conv => arg 4; cbv)) | (with_reducible refine on_true (by assumption) ?_; conv => arg 4; cbv) | (with_reducible refine on_false (by assumption) ?_; conv => arg 4; cbv) | (with_reducible refine on_ask (fun g => ?_) (fun g => ?_) <;> (have h := g) <;> (try simp (disch := omega) [hI, k195, en195, an195, hna, hrs, hma, her, hds, hl1, -List.length_eq_zero_iff] at h) <;> (try (exfalso; omega)) <;> (conv => arg 4; cbv)) | ((with_reducible refine on_must ?_ ?_); (focus (first | (simp (disch := omega) [hI, k195, en195, an195, hna, hrs, hma, her, hds, hl1]; done) | (simp (disch := omega) [hI, k195, en195, an195, hna, hrs, hma, her, hds, hl1]; omega) | (simp (disch := omega) [hI, k195, en195, an195, hna, hrs, hma, her, hds, hl1]; assumption) | (simp (disch := omega) [hI, k195, en195, an195, hna, hrs, hma, her, hds, hl1]; (refine And.intro ?_ ?_) <;> (first | omega | assumption)))); conv => arg 4; cbv))
    all_goals
      (with_reducible refine on_loop ?_); simp only [List.cons_append, List.nil_append]; refine W_norm [0, 3, 7, 8, 4, 12, 13] ?_ (M140 ds0 s0 r σ nx c hc0 i n acc rs hna hai hic hrs wd hwd rd row wt dd sf hlng hrdi hrdl hX hN k 1 _ [(lngB d s).1] _ _ (lngB d s).2.1 (lngB d s).2.2 (by omega) rfl rfl rfl rfl (lngB_in hd) (Nat.le_trans (lngB_len _ _) hdl) (by rw [← hrow]; rfl) hrd); (conv => lhs; cbv)
      simp (disch := omega) [hI, k195, en195, an195, hna, hrs, hma, her, hds, hl1]
      try rfl


theorem L140f {w : World} {Xs : Nat → Prop} {β0 : Nat → Nat × Nat} {O0 : Nat → List Nat} (ds0 : List (List PV)) (s0 : Bool) (c : Int) (hc0 : 0 ≤ c ∧ c ≤ 255) (fr : List Int × Bool) :
    ∀ (k i n : Nat) (acc : List EntryV) (rs ds : List (List PV)) (d : List Int) (s : Bool), (k : Int) + i = c → n = acc.length → acc.length = i → rs = mapE tEntry_own acc → inB d → d.length ≤ 6000 → ds = tU8.encs d → setQ k d s = fr → setO k d s = none → W Try.prog 140 Try.f140 (EntR w Xs β0 O0 [(0, .box [.pv (.sl false 1 ds0), .pv (.sc (.bool s0))])] 1) (Back (EntR w Xs β0 O0 [(0, .box [.pv (.sl false 1 ds0), .pv (.sc (.bool s0))])] 1) (.one (.pv .nl)) [(0, .box [.pv (.sl false 1 (tU8.encs fr.1)), .pv (.sc (.bool fr.2))])] 1) (place (bodyOf Try.f140) [1,1,0,1,0,0] [])
      ⟨[(0, .one (.ptr 0 0 0)), (3, .one (.arr 1 0 n)), (7, .one (.pv (.sc (.int .i64 c)))), (8, .one (.pv (.sc (.int .i64 ((i : Nat) : Int)))))], [(0, .box [.pv (.sl false 1 ds), .pv (.sc (.bool s))]), (1, .row 2 rs)], 2⟩ := by
  obtain ⟨I, hI⟩ : ∃ I, I = real := ⟨_, rfl⟩; obtain ⟨K, hK⟩ : ∃ K : FuncId → En, K = fun g => (lk g [(195, en195)]).getD default := ⟨_, rfl⟩; have k195 : K 195 = en195 := (by subst hK; rfl); clear hK
  have hma : True := trivial
  have her : True := trivial
  have hl1 : True := trivial
  intro k
  induction k with
  | zero =>
    intro i n acc rs ds d s hk hna hai hrs hd hdl hds hr hf
    simp [setO] at hf
  | succ k ih =>
    intro i n acc rs ds d s hk hna hai hrs hd hdl hds hr hf
    rw [setO] at hf
    rw [setQ] at hr
    have hlng : lngB (rowD (nxB d s).1.toNat (nxB d s).2.1 (nxB d s).2.2).1 (rowD (nxB d s).1.toNat (nxB d s).2.1 (nxB d s).2.2).2 = ((eD d s).1, (eD d s).2.1, (eD d s).2.2) := rfl
    have hnx := nxB_in (s := s) hd
    have hX : (eD d s).2.2 = true → (AV.one (.pv .nl)) = .one (.pv .nl) ∧ ([(0, .box [.pv (.sl false 1 (tU8.encs fr.1)), .pv (.sc (.bool fr.2))])] : Store) = [(0, .box [.pv (.sl false 1 (tU8.encs (eD d s).2.1)), .pv (.sc (.bool true))])] ∧ 1 = 1 := by
      intro hs
      rw [if_pos hs] at hr
      rw [← hr]
      exact ⟨rfl, rfl, rfl⟩
    have hN : (eD d s).2.2 = false → ∀ (n' : Nat) (acc' : List EntryV) (rs' ds' : List (List PV)), n' = acc'.length → acc' = acc ++ [⟨rowV (nxB d s).1.toNat (nxB d s).2.1 (nxB d s).2.2, (eD d s).1⟩] → rs' = mapE tEntry_own acc' → ds' = tU8.encs (eD d s).2.1 → W Try.prog 140 Try.f140 (EntR w Xs β0 O0 [(0, .box [.pv (.sl false 1 ds0), .pv (.sc (.bool s0))])] 1) (Back (EntR w Xs β0 O0 [(0, .box [.pv (.sl false 1 ds0), .pv (.sc (.bool s0))])] 1) (.one (.pv .nl)) [(0, .box [.pv (.sl false 1 (tU8.encs fr.1)), .pv (.sc (.bool fr.2))])] 1) (place (bodyOf Try.f140) [1,1,0,1,0,0] [])
      ⟨[(0, .one (.ptr 0 0 0)), (3, .one (.arr 1 0 n')), (7, .one (.pv (.sc (.int .i64 c)))), (8, .one (.pv (.sc (.int .i64 ((i + 1 : Nat) : Int)))))], [(0, .box [.pv (.sl false 1 ds'), .pv (.sc (.bool false))]), (1, .row 2 rs')], 2⟩ := by
      intro hs n' acc' rs' ds' h1 h2 h3 h4
      have hcn : ¬ ((eD d s).2.2 = true) := by simp [hs]
      rw [if_neg hcn] at hf hr
      rw [hs] at hf hr
      have hf2 : setO k (eD d s).2.1 false = none := by
        cases e : setO k (eD d s).2.1 false with
        | none => rfl
        | some r => rw [e] at hf; cases hf
      exact ih (i + 1) n' acc' rs' ds' (eD d s).2.1 false (by omega) h1 (by rw [h2]; simp; omega) h3 (eD_in hd) (Nat.le_trans (eD_len _ _) hdl) h4 hr hf2
    cases d with
    | nil =>
      refine W_go (Y := (Tab.calls [(194, false, callRef I (inlR X I (Tab.calls []) Try.f194)), (195, false, callRef I (boxE I (K 195) sh195))])) xok (TabOk.calls mixed ⟨EntryOk.ref (s194 hI) hI, notQuiet, ⟨EntryOk.ref (s195 hI k195) hI, notQuiet, trivial⟩⟩) Try.func140 rfl 2000 _ hI ?_; (conv => arg 4; cbv)
      repeat' (first | ((with_reducible refine on_eqs ?_ ?_); (focus (with_reducible rfl)); conv => arg 4; cbv) | (with_reducible refine on_both ?_ ?_ <;> (conv => arg 4; cbv)) | (with_reducible refine on_true (by assumption) ?_; conv => arg 4; cbv) | (with_reducible refine on_false (by assumption) ?_; conv => arg 4; cbv) | (with_reducible refine on_ask (fun g => ?_) (fun g => ?_) <;> (have h := g) <;> (try simp (disch := omega) [hI, k195, en195, an195, hna, hrs, hma, her, hds, hl1, -List.length_eq_zero_iff] at h) <;> (try (exfalso; omega)) <;> (conv => arg 4; cbv)) | ((with_reducible refine on_must ?_ ?_); (focus (first | (simp (disch := omega) [hI, k195, en195, an195, hna, hrs, hma, her, hds, hl1]; done) | (simp (disch := omega) [hI, k195, en195, an195, hna, hrs, hma, her, hds, hl1]; omega) | (simp (disch := omega) [hI, k195, en195, an195, hna, hrs, hma, her, hds, hl1]; assumption) | (simp (disch := omega) [hI, k195, en195, an195, hna, hrs, hma, her, hds, hl1]; (refine And.intro ?_ ?_) <;> (first | omega | assumption)))); conv => arg 4; cbv))
      (with_reducible refine on_loop ?_); simp only [List.cons_append, List.nil_append]; refine W_norm [0, 3, 7, 8, 4, 12, 13] ?_ (N140 ds0 s0 _ _ _ c hc0 i n acc rs hna hai (by omega) hrs 0 (by decide) _ _ _ _ _ hlng (eR_in hd) (Nat.le_trans (eR_len _ _) hdl) hX hN 0 _ [] true rfl rfl inB_nil (by simp) rfl rfl); (conv => lhs; cbv)
      simp (disch := omega) [hI, k195, en195, an195, hna, hrs, hma, her, hds, hl1]
    | cons b d =>
      have hb := inB_hd hd
      have hlc : (b :: d).length = d.length + 1 := rfl
      refine W_go (Y := (Tab.calls [(194, false, callRef I (inlR X I (Tab.calls []) Try.f194)), (195, false, callRef I (boxE I (K 195) sh195))])) xok (TabOk.calls mixed ⟨EntryOk.ref (s194 hI) hI, notQuiet, ⟨EntryOk.ref (s195 hI k195) hI, notQuiet, trivial⟩⟩) Try.func140 rfl 2000 _ hI ?_; (conv => arg 4; cbv)
      repeat' (first | ((with_reducible refine on_eqs ?_ ?_); (focus (with_reducible rfl)); conv => arg 4; cbv) | (with_reducible refine on_both ?_ ?_ <;> (conv => arg 4; cbv)) | (with_reducible refine on_true (by assumption) ?_; conv => arg 4; cbv) | (with_reducible refine on_false (by assumption) ?_; conv => arg 4; cbv) | (with_reducible refine on_ask (fun g => ?_) (fun g => ?_) <;> (have h := g) <;> (try simp (disch := omega) [hI, k195, en195, an195, hna, hrs, hma, her, hds, hl1, -List.length_eq_zero_iff] at h) <;> (try (exfalso; omega)) <;> (conv => arg 4; cbv)) | ((with_reducible refine on_must ?_ ?_); (focus (first | (simp (disch := omega) [hI, k195, en195, an195, hna, hrs, hma, her, hds, hl1]; done) | (simp (disch := omega) [hI, k195, en195, an195, hna, hrs, hma, her, hds, hl1]; omega) | (simp (disch := omega) [hI, k195, en195, an195, hna, hrs, hma, her, hds, hl1]; assumption) | (simp (disch := omega) [hI, k195, en195, an195, hna, hrs, hma, her, hds, hl1]; (refine And.intro ?_ ?_) <;> (first | omega | assumption)))); conv => arg 4; cbv))
      (with_reducible refine on_loop ?_); simp only [List.cons_append, List.nil_append]; refine W_norm [0, 3, 7, 8, 4, 12, 13] ?_ (N140 ds0 s0 _ _ _ c hc0 i n acc rs hna hai (by omega) hrs b hb _ _ _ _ _ hlng (eR_in hd) (Nat.le_trans (eR_len _ _) hdl) hX hN b.toNat _ d s (by omega) rfl (inB_tl hd) (by omega) rfl rfl); (conv => lhs; cbv)
      simp (disch := omega) [hI, k195, en195, an195, hna, hrs, hma, her, hds, hl1, nth, i64w_byte hb]

theorem L140s {w : World} {Xs : Nat → Prop} {β0 : Nat → Nat × Nat} {O0 : Nat → List Nat} (ds0 : List (List PV)) (s0 : Bool) (c : Int) (hc0 : 0 ≤ c ∧ c ≤ 255) (fr : List Int × Bool) (fin : List EntryV) :
    ∀ (k i n : Nat) (acc : List EntryV) (rs ds : List (List PV)) (d : List Int) (s : Bool), (k : Int) + i = c → n = acc.length → acc.length = i → rs = mapE tEntry_own acc → inB d → d.length ≤ 6000 → ds = tU8.encs d → setQ k d s = fr → (setO k d s).map (acc ++ ·) = some fin → W Try.prog 140 Try.f140 (EntR w Xs β0 O0 [(0, .box [.pv (.sl false 1 ds0), .pv (.sc (.bool s0))])] 1) (Back (EntR w Xs β0 O0 [(0, .box [.pv (.sl false 1 ds0), .pv (.sc (.bool s0))])] 1) (.one (.arr 1 0 fin.length)) [(0, .box [.pv (.sl false 1 (tU8.encs fr.1)), .pv (.sc (.bool fr.2))]), (1, .row 2 (mapE tEntry_own fin))] 2) (place (bodyOf Try.f140) [1,1,0,1,0,0] [])
      ⟨[(0, .one (.ptr 0 0 0)), (3, .one (.arr 1 0 n)), (7, .one (.pv (.sc (.int .i64 c)))), (8, .one (.pv (.sc (.int .i64 ((i : Nat) : Int)))))], [(0, .box [.pv (.sl false 1 ds), .pv (.sc (.bool s))]), (1, .row 2 rs)], 2⟩ := by
  obtain ⟨I, hI⟩ : ∃ I, I = real := ⟨_, rfl⟩; obtain ⟨K, hK⟩ : ∃ K : FuncId → En, K = fun g => (lk g [(195, en195)]).getD default := ⟨_, rfl⟩; have k195 : K 195 = en195 := (by subst hK; rfl); clear hK
  have hma : True := trivial
  have her : True := trivial
  have hl1 : True := trivial
  intro k
  induction k with
  | zero =>
    intro i n acc rs ds d s hk hna hai hrs hd hdl hds hr hf
    have hf : acc = fin := by simpa [setO] using hf
    have hr : (d, s) = fr := hr
    refine W_go (Y := (Tab.calls [(194, false, callRef I (inlR X I (Tab.calls []) Try.f194)), (195, false, callRef I (boxE I (K 195) sh195))])) xok (TabOk.calls mixed ⟨EntryOk.ref (s194 hI) hI, notQuiet, ⟨EntryOk.ref (s195 hI k195) hI, notQuiet, trivial⟩⟩) Try.func140 rfl 2000 _ hI ?_; (conv => arg 4; cbv)
    repeat' (first | ((with_reducible refine on_eqs ?_ ?_); (focus (with_reducible rfl)); conv => arg 4; cbv) | (with_reducible refine on_both ?_ ?_ <;> (conv => arg 4; cbv)) | (with_reducible refine on_true (by assumption) ?_; conv => arg 4; cbv) | (with_reducible refine on_false (by assumption) ?_; conv => arg 4; cbv) | (with_reducible refine on_ask (fun g => ?_) (fun g => ?_) <;> (have h := g) <;> (try simp (disch := omega) [hI, k195, en195, an195, hna, hrs, hma, her, hds, hl1, -List.length_eq_zero_iff] at h) <;> (try (exfalso; omega)) <;> (conv => arg 4; cbv)) | ((with_reducible refine on_must ?_ ?_); (focus (first | (simp (disch := omega) [hI, k195, en195, an195, hna, hrs, hma, her, hds, hl1]; done) | (simp (disch := omega) [hI, k195, en195, an195, hna, hrs, hma, her, hds, hl1]; omega) | (simp (disch := omega) [hI, k195, en195, an195, hna, hrs, hma, her, hds, hl1]; assumption) | (simp (disch := omega) [hI, k195, en195, an195, hna, hrs, hma, her, hds, hl1]; (refine And.intro ?_ ?_) <;> (first | omega | assumption)))); conv => arg 4; cbv))
    (with_reducible refine on_ret ?_); refine EndedN_of ?_; (conv => lhs; cbv)
    rw [hrs, hna, hf, hds, ← hr]
    try (simp (disch := omega) [hI, k195, en195, an195, hna, hrs, hma, her, hds, hl1]; done)
  | succ k ih =>
    intro i n acc rs ds d s hk hna hai hrs hd hdl hds hr hf
    rw [setO] at hf
    rw [setQ] at hr
    have hlng : lngB (rowD (nxB d s).1.toNat (nxB d s).2.1 (nxB d s).2.2).1 (rowD (nxB d s).1.toNat (nxB d s).2.1 (nxB d s).2.2).2 = ((eD d s).1, (eD d s).2.1, (eD d s).2.2) := rfl
    have hnx := nxB_in (s := s) hd
    have hX : (eD d s).2.2 = true → (AV.one (.arr 1 0 fin.length)) = .one (.pv .nl) ∧ ([(0, .box [.pv (.sl false 1 (tU8.encs fr.1)), .pv (.sc (.bool fr.2))]), (1, .row 2 (mapE tEntry_own fin))] : Store) = [(0, .box [.pv (.sl false 1 (tU8.encs (eD d s).2.1)), .pv (.sc (.bool true))])] ∧ 2 = 1 := by
      intro hs
      rw [if_pos hs] at hf
      cases hf
    have hN : (eD d s).2.2 = false → ∀ (n' : Nat) (acc' : List EntryV) (rs' ds' : List (List PV)), n' = acc'.length → acc' = acc ++ [⟨rowV (nxB d s).1.toNat (nxB d s).2.1 (nxB d s).2.2, (eD d s).1⟩] → rs' = mapE tEntry_own acc' → ds' = tU8.encs (eD d s).2.1 → W Try.prog 140 Try.f140 (EntR w Xs β0 O0 [(0, .box [.pv (.sl false 1 ds0), .pv (.sc (.bool s0))])] 1) (Back (EntR w Xs β0 O0 [(0, .box [.pv (.sl false 1 ds0), .pv (.sc (.bool s0))])] 1) (.one (.arr 1 0 fin.length)) [(0, .box [.pv (.sl false 1 (tU8.encs fr.1)), .pv (.sc (.bool fr.2))]), (1, .row 2 (mapE tEntry_own fin))] 2) (place (bodyOf Try.f140) [1,1,0,1,0,0] [])
      ⟨[(0, .one (.ptr 0 0 0)), (3, .one (.arr 1 0 n')), (7, .one (.pv (.sc (.int .i64 c)))), (8, .one (.pv (.sc (.int .i64 ((i + 1 : Nat) : Int)))))], [(0, .box [.pv (.sl false 1 ds'), .pv (.sc (.bool false))]), (1, .row 2 rs')], 2⟩ := by
      intro hs n' acc' rs' ds' h1 h2 h3 h4
      have hcn : ¬ ((eD d s).2.2 = true) := by simp [hs]
      rw [if_neg hcn] at hf hr
      rw [hs] at hf hr
      have hf2 : (setO k (eD d s).2.1 false).map (acc' ++ ·) = some fin := by
        rw [← hf, Option.map_map, h2]
        congr 1
        funext r
        simp [eV]
      exact ih (i + 1) n' acc' rs' ds' (eD d s).2.1 false (by omega) h1 (by rw [h2]; simp; omega) h3 (eD_in hd) (Nat.le_trans (eD_len _ _) hdl) h4 hr hf2
    cases d with
    | nil =>
      refine W_go (Y := (Tab.calls [(194, false, callRef I (inlR X I (Tab.calls []) Try.f194)), (195, false, callRef I (boxE I (K 195) sh195))])) xok (TabOk.calls mixed ⟨EntryOk.ref (s194 hI) hI, notQuiet, ⟨EntryOk.ref (s195 hI k195) hI, notQuiet, trivial⟩⟩) Try.func140 rfl 2000 _ hI ?_; (conv => arg 4; cbv)
      repeat' (first | ((with_reducible refine on_eqs ?_ ?_); (focus (with_reducible rfl)); conv => arg 4; cbv) | (with_reducible refine on_both ?_ ?_ <;> (conv => arg 4; cbv)) | (with_reducible refine on_true (by assumption) ?_; conv => arg 4; cbv) | (with_reducible refine on_false (by assumption) ?_; conv => arg 4; cbv) | (with_reducible refine on_ask (fun g => ?_) (fun g => ?_) <;> (have h := g) <;> (try simp (disch := omega) [hI, k195, en195, an195, hna, hrs, hma, her, hds, hl1, -List.length_eq_zero_iff] at h) <;> (try (exfalso; omega)) <;> (conv => arg 4; cbv)) | ((with_reducible refine on_must ?_ ?_); (focus (first | (simp (disch := omega) [hI, k195, en195, an195, hna, hrs, hma, her, hds, hl1]; done) | (simp (disch := omega) [hI, k195, en195, an195, hna, hrs, hma, her, hds, hl1]; omega) | (simp (disch := omega) [hI, k195, en195, an195, hna, hrs, hma, her, hds, hl1]; assumption) | (simp (disch := omega) [hI, k195, en195, an195, hna, hrs, hma, her, hds, hl1]; (refine And.intro ?_ ?_) <;> (first | omega | assumption)))); conv => arg 4; cbv))
      (with_reducible refine on_loop ?_); simp only [List.cons_append, List.nil_append]; refine W_norm [0, 3, 7, 8, 4, 12, 13] ?_ (N140 ds0 s0 _ _ _ c hc0 i n acc rs hna hai (by omega) hrs 0 (by decide) _ _ _ _ _ hlng (eR_in hd) (Nat.le_trans (eR_len _ _) hdl) hX hN 0 _ [] true rfl rfl inB_nil (by simp) rfl rfl); (conv => lhs; cbv)
      simp (disch := omega) [hI, k195, en195, an195, hna, hrs, hma, her, hds, hl1]
    | cons b d =>
      have hb := inB_hd hd
      have hlc : (b :: d).length = d.length + 1 := rfl
      refine W_go (Y := (Tab.calls [(194, false, callRef I (inlR X I (Tab.calls []) Try.f194)), (195, false, callRef I (boxE I (K 195) sh195))])) xok (TabOk.calls mixed ⟨EntryOk.ref (s194 hI) hI, notQuiet, ⟨EntryOk.ref (s195 hI k195) hI, notQuiet, trivial⟩⟩) Try.func140 rfl 2000 _ hI ?_; (conv => arg 4; cbv)
      repeat' (first | ((with_reducible refine on_eqs ?_ ?_); (focus (with_reducible rfl)); conv => arg 4; cbv) | (with_reducible refine on_both ?_ ?_ <;> (conv => arg 4; cbv)) | (with_reducible refine on_true (by assumption) ?_; conv => arg 4; cbv) | (with_reducible refine on_false (by assumption) ?_; conv => arg 4; cbv) | (with_reducible refine on_ask (fun g => ?_) (fun g => ?_) <;> (have h := g) <;> (try simp (disch := omega) [hI, k195, en195, an195, hna, hrs, hma, her, hds, hl1, -List.length_eq_zero_iff] at h) <;> (try (exfalso; omega)) <;> (conv => arg 4; cbv)) | ((with_reducible refine on_must ?_ ?_); (focus (first | (simp (disch := omega) [hI, k195, en195, an195, hna, hrs, hma, her, hds, hl1]; done) | (simp (disch := omega) [hI, k195, en195, an195, hna, hrs, hma, her, hds, hl1]; omega) | (simp (disch := omega) [hI, k195, en195, an195, hna, hrs, hma, her, hds, hl1]; assumption) | (simp (disch := omega) [hI, k195, en195, an195, hna, hrs, hma, her, hds, hl1]; (refine And.intro ?_ ?_) <;> (first | omega | assumption)))); conv => arg 4; cbv))
      (with_reducible refine on_loop ?_); simp only [List.cons_append, List.nil_append]; refine W_norm [0, 3, 7, 8, 4, 12, 13] ?_ (N140 ds0 s0 _ _ _ c hc0 i n acc rs hna hai (by omega) hrs b hb _ _ _ _ _ hlng (eR_in hd) (Nat.le_trans (eR_len _ _) hdl) hX hN b.toNat _ d s (by omega) rfl (inB_tl hd) (by omega) rfl rfl); (conv => lhs; cbv)
      simp (disch := omega) [hI, k195, en195, an195, hna, hrs, hma, her, hds, hl1, nth, i64w_byte hb]

end Go.Proofs.Try
