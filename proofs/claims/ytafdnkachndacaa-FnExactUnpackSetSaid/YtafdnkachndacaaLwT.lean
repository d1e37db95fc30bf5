/- Contracts. -/
import Derived.Test.YtafdnkachndacaaLwS
set_option linter.unusedSimpArgs false
set_option linter.unusedVariables false
namespace Go.Proofs.Try
open Go Go.Aix
set_option maxRecDepth 100000
set_option maxHeartbeats 4000000
set_option linter.unusedSimpArgs false
set_option linter.unusedVariables false
theorem ent134 : Enters Try.prog 134 := ⟨Try.f134, Try.func134, by kernel_rfl, by kernel_rfl⟩
theorem s134 {I : Ops} (hI : I = real)  : SoundR Try.prog 134 (inlR X I (Tab.calls []) Try.f134) :=
  SoundR.inl (Y := (Tab.calls [])) xok (TabOk.calls mixed trivial) ent134 Try.func134 rfl rfl hI
@[simp] theorem pE_U8nil : (pE tU8).dec (.one (.pv (.sl false 1 []))) = some [] := pE_dec tU8 []
theorem i64w_byte {b : Int} (h : 0 ≤ b ∧ b ≤ 255) : IntKind.i64.wrap b = b := by rw [IntKind.wrap_i64]; omega
/-- A count, read off bytes: what is left behind it. -/
def cD (d : List Int) (s : Bool) : Int × List Int × Bool := lngB (lngB (nxB d s).2.1 (nxB d s).2.2).2.1 (lngB (nxB d s).2.1 (nxB d s).2.2).2.2
def cV (d : List Int) (s : Bool) : CountV := ⟨(nxB d s).1, (lngB (nxB d s).2.1 (nxB d s).2.2).1, (cD d s).1⟩
def newsO : Nat → List Int → Bool → Option (List CountV)
  | 0, _, _ => some []
  | k + 1, d, s => if (cD d s).2.2 = true then none else (newsO k (cD d s).2.1 (cD d s).2.2).map (cV d s :: ·)
def newsR : Nat → List Int → Bool → List Int × Bool
  | 0, d, s => (d, s)
  | k + 1, d, s => if (cD d s).2.2 = true then ((cD d s).2.1, true) else newsR k (cD d s).2.1 (cD d s).2.2
theorem lngB_in {d : List Int} {s : Bool} (h : inB d) : inB (lngB d s).2.1 := lngL_in 8 0 h
theorem lngB_len (d : List Int) (s : Bool) : (lngB d s).2.1.length ≤ d.length := lngL_len 8 0 d s
theorem cD_in {d : List Int} {s : Bool} (h : inB d) : inB (cD d s).2.1 := lngB_in (lngB_in (nxB_in h).1)
theorem cD_len (d : List Int) (s : Bool) : (cD d s).2.1.length ≤ d.length := Nat.le_trans (lngB_len _ _) (Nat.le_trans (lngB_len _ _) (nxB_len d s))
def getO (o : Option (List CountV)) : List CountV := match o with
  | some l => l
  | none => []
def unO (d : List Int) (s : Bool) : Option (List CountV) := newsO (nxB d s).1.toNat (nxB d s).2.1 (nxB d s).2.2
def unR (d : List Int) (s : Bool) : List Int × Bool := newsR (nxB d s).1.toNat (nxB d s).2.1 (nxB d s).2.2

noncomputable def an133 : An (List Int × Bool × Unit) where
  pre t := decide (t.1.length ≤ 6000) && t.1.all fun b => decide (0 ≤ b ∧ b ≤ 255)
  b j t := match j with | 0 => (unO t.1 t.2.1).isNone | _ => (unR t.1 t.2.1).2
  l j t := match j with | 0 => tCount.encs (getO (unO t.1 t.2.1)) | _ => tU8.encs (unR t.1 t.2.1).1
noncomputable def en133 : En := mkE (parsC (pE tU8) (parsC pB pars0)) an133
def sh133 : Shp := fun I i b l s => .ask (b 0) fun t => match t with | true => .ok (.one (.pv .nl), [(0, .box [.pv (.sl false 1 (l 1)), .pv (.sc (.bool (b 1)))])], 1) | false => .ok (.one (.arr 1 0 (I.len (l 0))), [(0, .box [.pv (.sl false 1 (l 1)), .pv (.sc (.bool (b 1)))]), (1, .row 3 (l 0))], 2)
theorem ent133 : Enters Try.prog 133 := ⟨Try.f133, Try.func133, by kernel_rfl, by kernel_rfl⟩

theorem L133f {w : World} {Xs : Nat → Prop} {β0 : Nat → Nat × Nat} {O0 : Nat → List Nat} (ds0 : List (List PV)) (s0 : Bool) (c : Int) (hc0 : 0 ≤ c ∧ c ≤ 255) (fr : List Int × Bool) :
    ∀ (k i n : Nat) (acc : List CountV) (rs ds : List (List PV)) (d : List Int) (s : Bool), (k : Int) + i = c → n = acc.length → acc.length = i → rs = tCount.encs acc → inB d → d.length ≤ 6000 → ds = tU8.encs d → newsR k d s = fr → newsO k d s = none → W Try.prog 133 Try.f133 (EntR w Xs β0 O0 [(0, .box [.pv (.sl false 1 ds0), .pv (.sc (.bool s0))])] 1) (Back (EntR w Xs β0 O0 [(0, .box [.pv (.sl false 1 ds0), .pv (.sc (.bool s0))])] 1) (.one (.pv .nl)) [(0, .box [.pv (.sl false 1 (tU8.encs fr.1)), .pv (.sc (.bool fr.2))])] 1) (place (bodyOf Try.f133) [1,1,0,1,0,0] [])
      ⟨[(0, .one (.ptr 0 0 0)), (3, .one (.arr 1 0 n)), (7, .one (.pv (.sc (.int .i64 c)))), (8, .one (.pv (.sc (.int .i64 i))))], [(0, .box [.pv (.sl false 1 ds), .pv (.sc (.bool s))]), (1, .row 3 rs)], 2⟩ := by
  obtain ⟨I, hI⟩ : ∃ I, I = real := ⟨_, rfl⟩; obtain ⟨K, hK⟩ : ∃ K : FuncId → En, K = fun g => (lk g [(195, en195)]).getD default := ⟨_, rfl⟩; have k195 : K 195 = en195 := (by subst hK; rfl); clear hK
  intro k
  induction k with
  | zero =>
    intro i n acc rs ds d s hk hna hai hrs hd hdl hds hr hf
    have hq1 : True := trivial
    have hq2 : True := trivial
    have hq3 : True := trivial
    have hq4 : True := trivial
    have hq5 : True := trivial
    have hcx : True := trivial
    simp [newsO] at hf
  | succ k ih =>
    intro i n acc rs ds d s hk hna hai hrs hd hdl hds hr hf
    rw [newsO] at hf
    rw [newsR] at hr
    have e1 : lngB (lngB (nxB d s).2.1 (nxB d s).2.2).2.1 (lngB (nxB d s).2.1 (nxB d s).2.2).2.2 = cD d s := rfl
    have hq1 : ∀ x ∈ (nxB d s).2.1, 0 ≤ x ∧ x ≤ 255 := (nxB_in hd).1
    have hq2 : (nxB d s).2.1.length ≤ 6000 := Nat.le_trans (nxB_len d s) hdl
    have hq3 : ∀ x ∈ (lngB (nxB d s).2.1 (nxB d s).2.2).2.1, 0 ≤ x ∧ x ≤ 255 := lngB_in hq1
    have hq4 : (lngB (nxB d s).2.1 (nxB d s).2.2).2.1.length ≤ 6000 := Nat.le_trans (lngB_len _ _) hq2
    have hq5 : (nxB d s).2.1.length ≤ 100000 ∧ (lngB (nxB d s).2.1 (nxB d s).2.2).2.1.length ≤ 100000 := ⟨by omega, by omega⟩
    cases hcs : (cD d s).2.2 with
    | true =>
      rw [if_pos hcs] at hf hr
      cases d with
      | nil =>
        have hcx := hcs
        simp only [cD, nxB] at hq1 hq2 hq3 hq4 hq5 hcx
        refine W_go (Y := (Tab.calls [(194, false, callRef I (inlR X I (Tab.calls []) Try.f194)), (195, false, callRef I (boxE I (K 195) sh195))])) xok (TabOk.calls mixed ⟨EntryOk.ref (s194 hI) hI, notQuiet, ⟨EntryOk.ref (s195 hI k195) hI, notQuiet, trivial⟩⟩) Try.func133 rfl 2000 _ hI ?_; (conv => arg 4; cbv)
        repeat' (first | ((with_reducible refine on_eqs ?_ ?_); (focus (with_reducible rfl)); conv => arg 4; cbv) | (with_reducible refine on_both ?_ ?_ <;> (conv => arg 4; cbv)) | (with_reducible refine on_true (by assumption) ?_; conv => arg 4; cbv) | (with_reducible refine on_false (by assumption) ?_; conv => arg 4; cbv) | (with_reducible refine on_ask (fun g => ?_) (fun g => ?_) <;> (have h := g) <;> (try simp (disch := omega) [hI, k195, en195, an195, hds, hna, hrs, hq1, hq2, hq3, hq4, hq5, hcx, -List.length_eq_zero_iff] at h) <;> (try (exfalso; omega)) <;> (conv => arg 4; cbv)) | ((with_reducible refine on_must ?_ ?_); (focus (first | (simp (disch := omega) [hI, k195, en195, an195, hds, hna, hrs, hq1, hq2, hq3, hq4, hq5, hcx]; done) | (simp (disch := omega) [hI, k195, en195, an195, hds, hna, hrs, hq1, hq2, hq3, hq4, hq5, hcx]; omega) | (simp (disch := omega) [hI, k195, en195, an195, hds, hna, hrs, hq1, hq2, hq3, hq4, hq5, hcx]; assumption) | (simp (disch := omega) [hI, k195, en195, an195, hds, hna, hrs, hq1, hq2, hq3, hq4, hq5, hcx]; (refine And.intro ?_ ?_) <;> (first | omega | assumption)))); conv => arg 4; cbv))
        (with_reducible refine on_ret ?_); refine EndedN_of ?_; (conv => lhs; cbv)
        subst hr
        simp (disch := omega) [hI, k195, en195, an195, hds, hna, hrs, hq1, hq2, hq3, hq4, hq5, hcx, cD, nxB]
      | cons b d =>
        have hlc : (b :: d).length = d.length + 1 := rfl
        have hcx := hcs
        simp only [cD, nxB] at hq1 hq2 hq3 hq4 hq5 hcx
        refine W_go (Y := (Tab.calls [(194, false, callRef I (inlR X I (Tab.calls []) Try.f194)), (195, false, callRef I (boxE I (K 195) sh195))])) xok (TabOk.calls mixed ⟨EntryOk.ref (s194 hI) hI, notQuiet, ⟨EntryOk.ref (s195 hI k195) hI, notQuiet, trivial⟩⟩) Try.func133 rfl 2000 _ hI ?_; (conv => arg 4; cbv)
        repeat' (first | ((with_reducible refine on_eqs ?_ ?_); (focus (with_reducible rfl)); conv => arg 4; cbv) | (with_reducible refine on_both ?_ ?_ <;> (conv => arg 4; cbv)) | (with_reducible refine on_true (by assumption) ?_; conv => arg 4; cbv) | (with_reducible refine on_false (by assumption) ?_; conv => arg 4; cbv) | (with_reducible refine on_ask (fun g => ?_) (fun g => ?_) <;> (have h := g) <;> (try simp (disch := omega) [hI, k195, en195, an195, hds, hna, hrs, hq1, hq2, hq3, hq4, hq5, hcx, -List.length_eq_zero_iff] at h) <;> (try (exfalso; omega)) <;> (conv => arg 4; cbv)) | ((with_reducible refine on_must ?_ ?_); (focus (first | (simp (disch := omega) [hI, k195, en195, an195, hds, hna, hrs, hq1, hq2, hq3, hq4, hq5, hcx]; done) | (simp (disch := omega) [hI, k195, en195, an195, hds, hna, hrs, hq1, hq2, hq3, hq4, hq5, hcx]; omega) | (simp (disch := omega) [hI, k195, en195, an195, hds, hna, hrs, hq1, hq2, hq3, hq4, hq5, hcx]; assumption) | (simp (disch := omega) [hI, k195, en195, an195, hds, hna, hrs, hq1, hq2, hq3, hq4, hq5, hcx]; (refine And.intro ?_ ?_) <;> (first | omega | assumption)))); conv => arg 4; cbv))
        (with_reducible refine on_ret ?_); refine EndedN_of ?_; (conv => lhs; cbv)
        subst hr
        simp (disch := omega) [hI, k195, en195, an195, hds, hna, hrs, hq1, hq2, hq3, hq4, hq5, hcx, cD, nxB]
    | false =>
      have hcn : ¬ ((cD d s).2.2 = true) := by simp [hcs]
      rw [if_neg hcn] at hf hr
      have hf2 : newsO k (cD d s).2.1 (cD d s).2.2 = none := by
        cases e : newsO k (cD d s).2.1 (cD d s).2.2 with
        | none => rfl
        | some r => rw [e] at hf; cases hf
      cases d with
      | nil =>
        have hcx := hcs
        simp only [cD, nxB] at hq1 hq2 hq3 hq4 hq5 hcx
        refine W_go (Y := (Tab.calls [(194, false, callRef I (inlR X I (Tab.calls []) Try.f194)), (195, false, callRef I (boxE I (K 195) sh195))])) xok (TabOk.calls mixed ⟨EntryOk.ref (s194 hI) hI, notQuiet, ⟨EntryOk.ref (s195 hI k195) hI, notQuiet, trivial⟩⟩) Try.func133 rfl 2000 _ hI ?_; (conv => arg 4; cbv)
        repeat' (first | ((with_reducible refine on_eqs ?_ ?_); (focus (with_reducible rfl)); conv => arg 4; cbv) | (with_reducible refine on_both ?_ ?_ <;> (conv => arg 4; cbv)) | (with_reducible refine on_true (by assumption) ?_; conv => arg 4; cbv) | (with_reducible refine on_false (by assumption) ?_; conv => arg 4; cbv) | (with_reducible refine on_ask (fun g => ?_) (fun g => ?_) <;> (have h := g) <;> (try simp (disch := omega) [hI, k195, en195, an195, hds, hna, hrs, hq1, hq2, hq3, hq4, hq5, hcx, -List.length_eq_zero_iff] at h) <;> (try (exfalso; omega)) <;> (conv => arg 4; cbv)) | ((with_reducible refine on_must ?_ ?_); (focus (first | (simp (disch := omega) [hI, k195, en195, an195, hds, hna, hrs, hq1, hq2, hq3, hq4, hq5, hcx]; done) | (simp (disch := omega) [hI, k195, en195, an195, hds, hna, hrs, hq1, hq2, hq3, hq4, hq5, hcx]; omega) | (simp (disch := omega) [hI, k195, en195, an195, hds, hna, hrs, hq1, hq2, hq3, hq4, hq5, hcx]; assumption) | (simp (disch := omega) [hI, k195, en195, an195, hds, hna, hrs, hq1, hq2, hq3, hq4, hq5, hcx]; (refine And.intro ?_ ?_) <;> (first | omega | assumption)))); conv => arg 4; cbv))
        (with_reducible refine on_loop ?_); simp only [List.cons_append, List.nil_append]; refine W_norm [0, 3, 7, 8] ?_ (ih (i + 1) _ (acc ++ [cV [] s]) _ _ (cD [] s).2.1 (cD [] s).2.2 (by omega) rfl (by simp; omega) rfl (cD_in hd) (Nat.le_trans (cD_len _ _) hdl) rfl hr hf2); (conv => lhs; cbv)
        simp (disch := omega) [hI, k195, en195, an195, hds, hna, hrs, hq1, hq2, hq3, hq4, hq5, hcx, cV, cD, nxB, tCount.encs_append]
        rfl
      | cons b d =>
        have hlc : (b :: d).length = d.length + 1 := rfl
        have hcx := hcs
        simp only [cD, nxB] at hq1 hq2 hq3 hq4 hq5 hcx
        refine W_go (Y := (Tab.calls [(194, false, callRef I (inlR X I (Tab.calls []) Try.f194)), (195, false, callRef I (boxE I (K 195) sh195))])) xok (TabOk.calls mixed ⟨EntryOk.ref (s194 hI) hI, notQuiet, ⟨EntryOk.ref (s195 hI k195) hI, notQuiet, trivial⟩⟩) Try.func133 rfl 2000 _ hI ?_; (conv => arg 4; cbv)
        repeat' (first | ((with_reducible refine on_eqs ?_ ?_); (focus (with_reducible rfl)); conv => arg 4; cbv) | (with_reducible refine on_both ?_ ?_ <;> (conv => arg 4; cbv)) | (with_reducible refine on_true (by assumption) ?_; conv => arg 4; cbv) | (with_reducible refine on_false (by assumption) ?_; conv => arg 4; cbv) | (with_reducible refine on_ask (fun g => ?_) (fun g => ?_) <;> (have h := g) <;> (try simp (disch := omega) [hI, k195, en195, an195, hds, hna, hrs, hq1, hq2, hq3, hq4, hq5, hcx, -List.length_eq_zero_iff] at h) <;> (try (exfalso; omega)) <;> (conv => arg 4; cbv)) | ((with_reducible refine on_must ?_ ?_); (focus (first | (simp (disch := omega) [hI, k195, en195, an195, hds, hna, hrs, hq1, hq2, hq3, hq4, hq5, hcx]; done) | (simp (disch := omega) [hI, k195, en195, an195, hds, hna, hrs, hq1, hq2, hq3, hq4, hq5, hcx]; omega) | (simp (disch := omega) [hI, k195, en195, an195, hds, hna, hrs, hq1, hq2, hq3, hq4, hq5, hcx]; assumption) | (simp (disch := omega) [hI, k195, en195, an195, hds, hna, hrs, hq1, hq2, hq3, hq4, hq5, hcx]; (refine And.intro ?_ ?_) <;> (first | omega | assumption)))); conv => arg 4; cbv))
        (with_reducible refine on_loop ?_); simp only [List.cons_append, List.nil_append]; refine W_norm [0, 3, 7, 8] ?_ (ih (i + 1) _ (acc ++ [cV (b :: d) s]) _ _ (cD (b :: d) s).2.1 (cD (b :: d) s).2.2 (by omega) rfl (by simp; omega) rfl (cD_in hd) (Nat.le_trans (cD_len _ _) hdl) rfl hr hf2); (conv => lhs; cbv)
        simp (disch := omega) [hI, k195, en195, an195, hds, hna, hrs, hq1, hq2, hq3, hq4, hq5, hcx, cV, cD, nxB, tCount.encs_append]
        rw [show IntKind.i64.wrap (nth (b :: d) 0) = b from i64w_byte (inB_hd hd)]
        rfl

theorem L133s {w : World} {Xs : Nat → Prop} {β0 : Nat → Nat × Nat} {O0 : Nat → List Nat} (ds0 : List (List PV)) (s0 : Bool) (c : Int) (hc0 : 0 ≤ c ∧ c ≤ 255) (fr : List Int × Bool) (fin : List CountV) :
    ∀ (k i n : Nat) (acc : List CountV) (rs ds : List (List PV)) (d : List Int) (s : Bool), (k : Int) + i = c → n = acc.length → acc.length = i → rs = tCount.encs acc → inB d → d.length ≤ 6000 → ds = tU8.encs d → newsR k d s = fr → (newsO k d s).map (acc ++ ·) = some fin → W Try.prog 133 Try.f133 (EntR w Xs β0 O0 [(0, .box [.pv (.sl false 1 ds0), .pv (.sc (.bool s0))])] 1) (Back (EntR w Xs β0 O0 [(0, .box [.pv (.sl false 1 ds0), .pv (.sc (.bool s0))])] 1) (.one (.arr 1 0 fin.length)) [(0, .box [.pv (.sl false 1 (tU8.encs fr.1)), .pv (.sc (.bool fr.2))]), (1, .row 3 (tCount.encs fin))] 2) (place (bodyOf Try.f133) [1,1,0,1,0,0] [])
      ⟨[(0, .one (.ptr 0 0 0)), (3, .one (.arr 1 0 n)), (7, .one (.pv (.sc (.int .i64 c)))), (8, .one (.pv (.sc (.int .i64 i))))], [(0, .box [.pv (.sl false 1 ds), .pv (.sc (.bool s))]), (1, .row 3 rs)], 2⟩ := by
  obtain ⟨I, hI⟩ : ∃ I, I = real := ⟨_, rfl⟩; obtain ⟨K, hK⟩ : ∃ K : FuncId → En, K = fun g => (lk g [(195, en195)]).getD default := ⟨_, rfl⟩; have k195 : K 195 = en195 := (by subst hK; rfl); clear hK
  intro k
  induction k with
  | zero =>
    intro i n acc rs ds d s hk hna hai hrs hd hdl hds hr hf
    have hq1 : True := trivial
    have hq2 : True := trivial
    have hq3 : True := trivial
    have hq4 : True := trivial
    have hq5 : True := trivial
    have hcx : True := trivial
    have hf : acc = fin := by simpa [newsO] using hf
    refine W_go (Y := (Tab.calls [(194, false, callRef I (inlR X I (Tab.calls []) Try.f194)), (195, false, callRef I (boxE I (K 195) sh195))])) xok (TabOk.calls mixed ⟨EntryOk.ref (s194 hI) hI, notQuiet, ⟨EntryOk.ref (s195 hI k195) hI, notQuiet, trivial⟩⟩) Try.func133 rfl 2000 _ hI ?_; (conv => arg 4; cbv)
    repeat' (first | ((with_reducible refine on_eqs ?_ ?_); (focus (with_reducible rfl)); conv => arg 4; cbv) | (with_reducible refine on_both ?_ ?_ <;> (conv => arg 4; cbv)) | (with_reducible refine on_true (by assumption) ?_; conv => arg 4; cbv) | (with_reducible refine on_false (by assumption) ?_; conv => arg 4; cbv) | (with_reducible refine on_ask (fun g => ?_) (fun g => ?_) <;> (have h := g) <;> (try simp (disch := omega) [hI, k195, en195, an195, hds, hna, hrs, hq1, hq2, hq3, hq4, hq5, hcx, -List.length_eq_zero_iff] at h) <;> (try (exfalso; omega)) <;> (conv => arg 4; cbv)) | ((with_reducible refine on_must ?_ ?_); (focus (first | (simp (disch := omega) [hI, k195, en195, an195, hds, hna, hrs, hq1, hq2, hq3, hq4, hq5, hcx]; done) | (simp (disch := omega) [hI, k195, en195, an195, hds, hna, hrs, hq1, hq2, hq3, hq4, hq5, hcx]; omega) | (simp (disch := omega) [hI, k195, en195, an195, hds, hna, hrs, hq1, hq2, hq3, hq4, hq5, hcx]; assumption) | (simp (disch := omega) [hI, k195, en195, an195, hds, hna, hrs, hq1, hq2, hq3, hq4, hq5, hcx]; (refine And.intro ?_ ?_) <;> (first | omega | assumption)))); conv => arg 4; cbv))
    (with_reducible refine on_ret ?_); refine EndedN_of ?_; (conv => lhs; cbv)
    rw [hrs, hna, hf, hds, ← hr]
    simp (disch := omega) [hI, k195, en195, an195, hds, hna, hrs, hq1, hq2, hq3, hq4, hq5, hcx, newsR]
  | succ k ih =>
    intro i n acc rs ds d s hk hna hai hrs hd hdl hds hr hf
    rw [newsO] at hf
    rw [newsR] at hr
    have e1 : lngB (lngB (nxB d s).2.1 (nxB d s).2.2).2.1 (lngB (nxB d s).2.1 (nxB d s).2.2).2.2 = cD d s := rfl
    have hq1 : ∀ x ∈ (nxB d s).2.1, 0 ≤ x ∧ x ≤ 255 := (nxB_in hd).1
    have hq2 : (nxB d s).2.1.length ≤ 6000 := Nat.le_trans (nxB_len d s) hdl
    have hq3 : ∀ x ∈ (lngB (nxB d s).2.1 (nxB d s).2.2).2.1, 0 ≤ x ∧ x ≤ 255 := lngB_in hq1
    have hq4 : (lngB (nxB d s).2.1 (nxB d s).2.2).2.1.length ≤ 6000 := Nat.le_trans (lngB_len _ _) hq2
    have hq5 : (nxB d s).2.1.length ≤ 100000 ∧ (lngB (nxB d s).2.1 (nxB d s).2.2).2.1.length ≤ 100000 := ⟨by omega, by omega⟩
    cases hcs : (cD d s).2.2 with
    | true =>
      rw [if_pos hcs] at hf hr
      cases d with
      | nil =>
        have hcx := hcs
        simp only [cD, nxB] at hq1 hq2 hq3 hq4 hq5 hcx
        refine W_go (Y := (Tab.calls [(194, false, callRef I (inlR X I (Tab.calls []) Try.f194)), (195, false, callRef I (boxE I (K 195) sh195))])) xok (TabOk.calls mixed ⟨EntryOk.ref (s194 hI) hI, notQuiet, ⟨EntryOk.ref (s195 hI k195) hI, notQuiet, trivial⟩⟩) Try.func133 rfl 2000 _ hI ?_; (conv => arg 4; cbv)
        repeat' (first | ((with_reducible refine on_eqs ?_ ?_); (focus (with_reducible rfl)); conv => arg 4; cbv) | (with_reducible refine on_both ?_ ?_ <;> (conv => arg 4; cbv)) | (with_reducible refine on_true (by assumption) ?_; conv => arg 4; cbv) | (with_reducible refine on_false (by assumption) ?_; conv => arg 4; cbv) | (with_reducible refine on_ask (fun g => ?_) (fun g => ?_) <;> (have h := g) <;> (try simp (disch := omega) [hI, k195, en195, an195, hds, hna, hrs, hq1, hq2, hq3, hq4, hq5, hcx, -List.length_eq_zero_iff] at h) <;> (try (exfalso; omega)) <;> (conv => arg 4; cbv)) | ((with_reducible refine on_must ?_ ?_); (focus (first | (simp (disch := omega) [hI, k195, en195, an195, hds, hna, hrs, hq1, hq2, hq3, hq4, hq5, hcx]; done) | (simp (disch := omega) [hI, k195, en195, an195, hds, hna, hrs, hq1, hq2, hq3, hq4, hq5, hcx]; omega) | (simp (disch := omega) [hI, k195, en195, an195, hds, hna, hrs, hq1, hq2, hq3, hq4, hq5, hcx]; assumption) | (simp (disch := omega) [hI, k195, en195, an195, hds, hna, hrs, hq1, hq2, hq3, hq4, hq5, hcx]; (refine And.intro ?_ ?_) <;> (first | omega | assumption)))); conv => arg 4; cbv))
        simp at hf
      | cons b d =>
        have hlc : (b :: d).length = d.length + 1 := rfl
        have hcx := hcs
        simp only [cD, nxB] at hq1 hq2 hq3 hq4 hq5 hcx
        refine W_go (Y := (Tab.calls [(194, false, callRef I (inlR X I (Tab.calls []) Try.f194)), (195, false, callRef I (boxE I (K 195) sh195))])) xok (TabOk.calls mixed ⟨EntryOk.ref (s194 hI) hI, notQuiet, ⟨EntryOk.ref (s195 hI k195) hI, notQuiet, trivial⟩⟩) Try.func133 rfl 2000 _ hI ?_; (conv => arg 4; cbv)
        repeat' (first | ((with_reducible refine on_eqs ?_ ?_); (focus (with_reducible rfl)); conv => arg 4; cbv) | (with_reducible refine on_both ?_ ?_ <;> (conv => arg 4; cbv)) | (with_reducible refine on_true (by assumption) ?_; conv => arg 4; cbv) | (with_reducible refine on_false (by assumption) ?_; conv => arg 4; cbv) | (with_reducible refine on_ask (fun g => ?_) (fun g => ?_) <;> (have h := g) <;> (try simp (disch := omega) [hI, k195, en195, an195, hds, hna, hrs, hq1, hq2, hq3, hq4, hq5, hcx, -List.length_eq_zero_iff] at h) <;> (try (exfalso; omega)) <;> (conv => arg 4; cbv)) | ((with_reducible refine on_must ?_ ?_); (focus (first | (simp (disch := omega) [hI, k195, en195, an195, hds, hna, hrs, hq1, hq2, hq3, hq4, hq5, hcx]; done) | (simp (disch := omega) [hI, k195, en195, an195, hds, hna, hrs, hq1, hq2, hq3, hq4, hq5, hcx]; omega) | (simp (disch := omega) [hI, k195, en195, an195, hds, hna, hrs, hq1, hq2, hq3, hq4, hq5, hcx]; assumption) | (simp (disch := omega) [hI, k195, en195, an195, hds, hna, hrs, hq1, hq2, hq3, hq4, hq5, hcx]; (refine And.intro ?_ ?_) <;> (first | omega | assumption)))); conv => arg 4; cbv))
        simp at hf
    | false =>
      have hcn : ¬ ((cD d s).2.2 = true) := by simp [hcs]
      rw [if_neg hcn] at hf hr
      have hf2 : (newsO k (cD d s).2.1 (cD d s).2.2).map ((acc ++ [cV d s]) ++ ·) = some fin := by
        rw [← hf, Option.map_map]
        congr 1
        funext r
        simp
      cases d with
      | nil =>
        have hcx := hcs
        simp only [cD, nxB] at hq1 hq2 hq3 hq4 hq5 hcx
        refine W_go (Y := (Tab.calls [(194, false, callRef I (inlR X I (Tab.calls []) Try.f194)), (195, false, callRef I (boxE I (K 195) sh195))])) xok (TabOk.calls mixed ⟨EntryOk.ref (s194 hI) hI, notQuiet, ⟨EntryOk.ref (s195 hI k195) hI, notQuiet, trivial⟩⟩) Try.func133 rfl 2000 _ hI ?_; (conv => arg 4; cbv)
        repeat' (first | ((with_reducible refine on_eqs ?_ ?_); (focus (with_reducible rfl)); conv => arg 4; cbv) | (with_reducible refine on_both ?_ ?_ <;> (conv => arg 4; cbv)) | (with_reducible refine on_true (by assumption) ?_; conv => arg 4; cbv) | (with_reducible refine on_false (by assumption) ?_; conv => arg 4; cbv) | (with_reducible refine on_ask (fun g => ?_) (fun g => ?_) <;> (have h := g) <;> (try simp (disch := omega) [hI, k195, en195, an195, hds, hna, hrs, hq1, hq2, hq3, hq4, hq5, hcx, -List.length_eq_zero_iff] at h) <;> (try (exfalso; omega)) <;> (conv => arg 4; cbv)) | ((with_reducible refine on_must ?_ ?_); (focus (first | (simp (disch := omega) [hI, k195, en195, an195, hds, hna, hrs, hq1, hq2, hq3, hq4, hq5, hcx]; done) | (simp (disch := omega) [hI, k195, en195, an195, hds, hna, hrs, hq1, hq2, hq3, hq4, hq5, hcx]; omega) | (simp (disch := omega) [hI, k195, en195, an195, hds, hna, hrs, hq1, hq2, hq3, hq4, hq5, hcx]; assumption) | (simp (disch := omega) [hI, k195, en195, an195, hds, hna, hrs, hq1, hq2, hq3, hq4, hq5, hcx]; (refine And.intro ?_ ?_) <;> (first | omega | assumption)))); conv => arg 4; cbv))
        (with_reducible refine on_loop ?_); simp only [List.cons_append, List.nil_append]; refine W_norm [0, 3, 7, 8] ?_ (ih (i + 1) _ (acc ++ [cV [] s]) _ _ (cD [] s).2.1 (cD [] s).2.2 (by omega) rfl (by simp; omega) rfl (cD_in hd) (Nat.le_trans (cD_len _ _) hdl) rfl hr hf2); (conv => lhs; cbv)
        simp (disch := omega) [hI, k195, en195, an195, hds, hna, hrs, hq1, hq2, hq3, hq4, hq5, hcx, cV, cD, nxB, tCount.encs_append]
        rfl
      | cons b d =>
        have hlc : (b :: d).length = d.length + 1 := rfl
        have hcx := hcs
        simp only [cD, nxB] at hq1 hq2 hq3 hq4 hq5 hcx
        refine W_go (Y := (Tab.calls [(194, false, callRef I (inlR X I (Tab.calls []) Try.f194)), (195, false, callRef I (boxE I (K 195) sh195))])) xok (TabOk.calls mixed ⟨EntryOk.ref (s194 hI) hI, notQuiet, ⟨EntryOk.ref (s195 hI k195) hI, notQuiet, trivial⟩⟩) Try.func133 rfl 2000 _ hI ?_; (conv => arg 4; cbv)
        repeat' (first | ((with_reducible refine on_eqs ?_ ?_); (focus (with_reducible rfl)); conv => arg 4; cbv) | (with_reducible refine on_both ?_ ?_ <;> (conv => arg 4; cbv)) | (with_reducible refine on_true (by assumption) ?_; conv => arg 4; cbv) | (with_reducible refine on_false (by assumption) ?_; conv => arg 4; cbv) | (with_reducible refine on_ask (fun g => ?_) (fun g => ?_) <;> (have h := g) <;> (try simp (disch := omega) [hI, k195, en195, an195, hds, hna, hrs, hq1, hq2, hq3, hq4, hq5, hcx, -List.length_eq_zero_iff] at h) <;> (try (exfalso; omega)) <;> (conv => arg 4; cbv)) | ((with_reducible refine on_must ?_ ?_); (focus (first | (simp (disch := omega) [hI, k195, en195, an195, hds, hna, hrs, hq1, hq2, hq3, hq4, hq5, hcx]; done) | (simp (disch := omega) [hI, k195, en195, an195, hds, hna, hrs, hq1, hq2, hq3, hq4, hq5, hcx]; omega) | (simp (disch := omega) [hI, k195, en195, an195, hds, hna, hrs, hq1, hq2, hq3, hq4, hq5, hcx]; assumption) | (simp (disch := omega) [hI, k195, en195, an195, hds, hna, hrs, hq1, hq2, hq3, hq4, hq5, hcx]; (refine And.intro ?_ ?_) <;> (first | omega | assumption)))); conv => arg 4; cbv))
        (with_reducible refine on_loop ?_); simp only [List.cons_append, List.nil_append]; refine W_norm [0, 3, 7, 8] ?_ (ih (i + 1) _ (acc ++ [cV (b :: d) s]) _ _ (cD (b :: d) s).2.1 (cD (b :: d) s).2.2 (by omega) rfl (by simp; omega) rfl (cD_in hd) (Nat.le_trans (cD_len _ _) hdl) rfl hr hf2); (conv => lhs; cbv)
        simp (disch := omega) [hI, k195, en195, an195, hds, hna, hrs, hq1, hq2, hq3, hq4, hq5, hcx, cV, cD, nxB, tCount.encs_append]
        rw [show IntKind.i64.wrap (nth (b :: d) 0) = b from i64w_byte (inB_hd hd)]
        rfl


theorem okN133 (d : List Int) (s : Bool) (hd : inB d) (hl : d.length ≤ 6000) (hz : unO d s = none) : OkR Try.prog 133 [.one (.ptr 0 0 0)] [(0, .box [.pv (.sl false 1 (tU8.encs d)), .pv (.sc (.bool s))])] 1 (.one (.pv .nl)) [(0, .box [.pv (.sl false 1 (tU8.encs (unR d s).1)), .pv (.sc (.bool (unR d s).2))])] 1 := by
  obtain ⟨I, hI⟩ : ∃ I, I = real := ⟨_, rfl⟩; obtain ⟨K, hK⟩ : ∃ K : FuncId → En, K = fun g => (lk g [(195, en195)]).getD default := ⟨_, rfl⟩; have k195 : K 195 = en195 := (by subst hK; rfl); clear hK
  have hna : True := trivial
  have hrs : True := trivial
  have hq1 : True := trivial
  have hq2 : True := trivial
  have hq3 : True := trivial
  have hq4 : True := trivial
  have hq5 : True := trivial
  have hcx : True := trivial
  obtain ⟨ds, hds⟩ : ∃ ds, ds = tU8.encs d := ⟨_, rfl⟩
  obtain ⟨fr, hfr⟩ : ∃ fr, fr = unR d s := ⟨_, rfl⟩
  suffices hs : OkR Try.prog 133 [.one (.ptr 0 0 0)] [(0, .box [.pv (.sl false 1 ds), .pv (.sc (.bool s))])] 1 (.one (.pv .nl)) [(0, .box [.pv (.sl false 1 (tU8.encs (fr).1)), .pv (.sc (.bool (fr).2))])] 1 by rwa [hds, hfr] at hs
  unfold unO at hz
  unfold unR at hfr
  cases d with
  | nil =>
    refine OkR_run (Y := (Tab.calls [(194, false, callRef I (inlR X I (Tab.calls []) Try.f194)), (195, false, callRef I (boxE I (K 195) sh195))])) xok (TabOk.calls mixed ⟨EntryOk.ref (s194 hI) hI, notQuiet, ⟨EntryOk.ref (s195 hI k195) hI, notQuiet, trivial⟩⟩) Try.func133 rfl rfl rfl 2000 hI fun w Xs β0 O0 => ?_; (conv => arg 4; cbv)
    repeat' (first | ((with_reducible refine on_eqs ?_ ?_); (focus (with_reducible rfl)); conv => arg 4; cbv) | (with_reducible refine on_both ?_ ?_ <;> (conv => arg 4; cbv)) | (with_reducible refine on_true (by assumption) ?_; conv => arg 4; cbv) | (with_reducible refine on_false (by assumption) ?_; conv => arg 4; cbv) | (with_reducible refine on_ask (fun g => ?_) (fun g => ?_) <;> (have h := g) <;> (try simp (disch := omega) [hI, k195, en195, an195, hds, hna, hrs, hq1, hq2, hq3, hq4, hq5, hcx, -List.length_eq_zero_iff] at h) <;> (try (exfalso; omega)) <;> (conv => arg 4; cbv)) | ((with_reducible refine on_must ?_ ?_); (focus (first | (simp (disch := omega) [hI, k195, en195, an195, hds, hna, hrs, hq1, hq2, hq3, hq4, hq5, hcx]; done) | (simp (disch := omega) [hI, k195, en195, an195, hds, hna, hrs, hq1, hq2, hq3, hq4, hq5, hcx]; omega) | (simp (disch := omega) [hI, k195, en195, an195, hds, hna, hrs, hq1, hq2, hq3, hq4, hq5, hcx]; assumption) | (simp (disch := omega) [hI, k195, en195, an195, hds, hna, hrs, hq1, hq2, hq3, hq4, hq5, hcx]; (refine And.intro ?_ ?_) <;> (first | omega | assumption)))); conv => arg 4; cbv))
    (with_reducible refine on_loop ?_); simp only [List.cons_append, List.nil_append]; refine W_norm [0, 3, 7, 8] ?_ (L133f ds s 0 (by decide) fr 0 0 0 [] [] (tU8.encs []) [] true rfl rfl rfl rfl inB_nil (by simp) rfl hfr.symm (by simpa [nxB] using hz)); (conv => lhs; cbv)
    simp (disch := omega) [hI, k195, en195, an195, hds, hna, hrs, hq1, hq2, hq3, hq4, hq5, hcx]
  | cons b d =>
    have hlc : (b :: d).length = d.length + 1 := rfl
    have hb := inB_hd hd
    refine OkR_run (Y := (Tab.calls [(194, false, callRef I (inlR X I (Tab.calls []) Try.f194)), (195, false, callRef I (boxE I (K 195) sh195))])) xok (TabOk.calls mixed ⟨EntryOk.ref (s194 hI) hI, notQuiet, ⟨EntryOk.ref (s195 hI k195) hI, notQuiet, trivial⟩⟩) Try.func133 rfl rfl rfl 2000 hI fun w Xs β0 O0 => ?_; (conv => arg 4; cbv)
    repeat' (first | ((with_reducible refine on_eqs ?_ ?_); (focus (with_reducible rfl)); conv => arg 4; cbv) | (with_reducible refine on_both ?_ ?_ <;> (conv => arg 4; cbv)) | (with_reducible refine on_true (by assumption) ?_; conv => arg 4; cbv) | (with_reducible refine on_false (by assumption) ?_; conv => arg 4; cbv) | (with_reducible refine on_ask (fun g => ?_) (fun g => ?_) <;> (have h := g) <;> (try simp (disch := omega) [hI, k195, en195, an195, hds, hna, hrs, hq1, hq2, hq3, hq4, hq5, hcx, -List.length_eq_zero_iff] at h) <;> (try (exfalso; omega)) <;> (conv => arg 4; cbv)) | ((with_reducible refine on_must ?_ ?_); (focus (first | (simp (disch := omega) [hI, k195, en195, an195, hds, hna, hrs, hq1, hq2, hq3, hq4, hq5, hcx]; done) | (simp (disch := omega) [hI, k195, en195, an195, hds, hna, hrs, hq1, hq2, hq3, hq4, hq5, hcx]; omega) | (simp (disch := omega) [hI, k195, en195, an195, hds, hna, hrs, hq1, hq2, hq3, hq4, hq5, hcx]; assumption) | (simp (disch := omega) [hI, k195, en195, an195, hds, hna, hrs, hq1, hq2, hq3, hq4, hq5, hcx]; (refine And.intro ?_ ?_) <;> (first | omega | assumption)))); conv => arg 4; cbv))
    (with_reducible refine on_loop ?_); simp only [List.cons_append, List.nil_append]; refine W_norm [0, 3, 7, 8] ?_ (L133f ds s b hb fr b.toNat 0 0 [] [] (tU8.encs d) d s (by omega) rfl rfl rfl (inB_tl hd) (by omega) rfl hfr.symm (by simpa [nxB] using hz)); (conv => lhs; cbv)
    simp (disch := omega) [hI, k195, en195, an195, hds, hna, hrs, hq1, hq2, hq3, hq4, hq5, hcx, nth, i64w_byte hb]

theorem okS133 (d : List Int) (s : Bool) (hd : inB d) (hl : d.length ≤ 6000) (fin : List CountV) (hz : unO d s = some fin) : OkR Try.prog 133 [.one (.ptr 0 0 0)] [(0, .box [.pv (.sl false 1 (tU8.encs d)), .pv (.sc (.bool s))])] 1 (.one (.arr 1 0 fin.length)) [(0, .box [.pv (.sl false 1 (tU8.encs (unR d s).1)), .pv (.sc (.bool (unR d s).2))]), (1, .row 3 (tCount.encs fin))] 2 := by
  obtain ⟨I, hI⟩ : ∃ I, I = real := ⟨_, rfl⟩; obtain ⟨K, hK⟩ : ∃ K : FuncId → En, K = fun g => (lk g [(195, en195)]).getD default := ⟨_, rfl⟩; have k195 : K 195 = en195 := (by subst hK; rfl); clear hK
  have hna : True := trivial
  have hrs : True := trivial
  have hq1 : True := trivial
  have hq2 : True := trivial
  have hq3 : True := trivial
  have hq4 : True := trivial
  have hq5 : True := trivial
  have hcx : True := trivial
  obtain ⟨ds, hds⟩ : ∃ ds, ds = tU8.encs d := ⟨_, rfl⟩
  obtain ⟨fr, hfr⟩ : ∃ fr, fr = unR d s := ⟨_, rfl⟩
  suffices hs : OkR Try.prog 133 [.one (.ptr 0 0 0)] [(0, .box [.pv (.sl false 1 ds), .pv (.sc (.bool s))])] 1 (.one (.arr 1 0 fin.length)) [(0, .box [.pv (.sl false 1 (tU8.encs (fr).1)), .pv (.sc (.bool (fr).2))]), (1, .row 3 (tCount.encs fin))] 2 by rwa [hds, hfr] at hs
  unfold unO at hz
  unfold unR at hfr
  cases d with
  | nil =>
    refine OkR_run (Y := (Tab.calls [(194, false, callRef I (inlR X I (Tab.calls []) Try.f194)), (195, false, callRef I (boxE I (K 195) sh195))])) xok (TabOk.calls mixed ⟨EntryOk.ref (s194 hI) hI, notQuiet, ⟨EntryOk.ref (s195 hI k195) hI, notQuiet, trivial⟩⟩) Try.func133 rfl rfl rfl 2000 hI fun w Xs β0 O0 => ?_; (conv => arg 4; cbv)
    repeat' (first | ((with_reducible refine on_eqs ?_ ?_); (focus (with_reducible rfl)); conv => arg 4; cbv) | (with_reducible refine on_both ?_ ?_ <;> (conv => arg 4; cbv)) | (with_reducible refine on_true (by assumption) ?_; conv => arg 4; cbv) | (with_reducible refine on_false (by assumption) ?_; conv => arg 4; cbv) | (with_reducible refine on_ask (fun g => ?_) (fun g => ?_) <;> (have h := g) <;> (try simp (disch := omega) [hI, k195, en195, an195, hds, hna, hrs, hq1, hq2, hq3, hq4, hq5, hcx, -List.length_eq_zero_iff] at h) <;> (try (exfalso; omega)) <;> (conv => arg 4; cbv)) | ((with_reducible refine on_must ?_ ?_); (focus (first | (simp (disch := omega) [hI, k195, en195, an195, hds, hna, hrs, hq1, hq2, hq3, hq4, hq5, hcx]; done) | (simp (disch := omega) [hI, k195, en195, an195, hds, hna, hrs, hq1, hq2, hq3, hq4, hq5, hcx]; omega) | (simp (disch := omega) [hI, k195, en195, an195, hds, hna, hrs, hq1, hq2, hq3, hq4, hq5, hcx]; assumption) | (simp (disch := omega) [hI, k195, en195, an195, hds, hna, hrs, hq1, hq2, hq3, hq4, hq5, hcx]; (refine And.intro ?_ ?_) <;> (first | omega | assumption)))); conv => arg 4; cbv))
    (with_reducible refine on_loop ?_); simp only [List.cons_append, List.nil_append]; refine W_norm [0, 3, 7, 8] ?_ (L133s ds s 0 (by decide) fr fin 0 0 0 [] [] (tU8.encs []) [] true rfl rfl rfl rfl inB_nil (by simp) rfl hfr.symm (by simpa [nxB] using hz)); (conv => lhs; cbv)
    simp (disch := omega) [hI, k195, en195, an195, hds, hna, hrs, hq1, hq2, hq3, hq4, hq5, hcx]
  | cons b d =>
    have hlc : (b :: d).length = d.length + 1 := rfl
    have hb := inB_hd hd
    refine OkR_run (Y := (Tab.calls [(194, false, callRef I (inlR X I (Tab.calls []) Try.f194)), (195, false, callRef I (boxE I (K 195) sh195))])) xok (TabOk.calls mixed ⟨EntryOk.ref (s194 hI) hI, notQuiet, ⟨EntryOk.ref (s195 hI k195) hI, notQuiet, trivial⟩⟩) Try.func133 rfl rfl rfl 2000 hI fun w Xs β0 O0 => ?_; (conv => arg 4; cbv)
    repeat' (first | ((with_reducible refine on_eqs ?_ ?_); (focus (with_reducible rfl)); conv => arg 4; cbv) | (with_reducible refine on_both ?_ ?_ <;> (conv => arg 4; cbv)) | (with_reducible refine on_true (by assumption) ?_; conv => arg 4; cbv) | (with_reducible refine on_false (by assumption) ?_; conv => arg 4; cbv) | (with_reducible refine on_ask (fun g => ?_) (fun g => ?_) <;> (have h := g) <;> (try simp (disch := omega) [hI, k195, en195, an195, hds, hna, hrs, hq1, hq2, hq3, hq4, hq5, hcx, -List.length_eq_zero_iff] at h) <;> (try (exfalso; omega)) <;> (conv => arg 4; cbv)) | ((with_reducible refine on_must ?_ ?_); (focus (first | (simp (disch := omega) [hI, k195, en195, an195, hds, hna, hrs, hq1, hq2, hq3, hq4, hq5, hcx]; done) | (simp (disch := omega) [hI, k195, en195, an195, hds, hna, hrs, hq1, hq2, hq3, hq4, hq5, hcx]; omega) | (simp (disch := omega) [hI, k195, en195, an195, hds, hna, hrs, hq1, hq2, hq3, hq4, hq5, hcx]; assumption) | (simp (disch := omega) [hI, k195, en195, an195, hds, hna, hrs, hq1, hq2, hq3, hq4, hq5, hcx]; (refine And.intro ?_ ?_) <;> (first | omega | assumption)))); conv => arg 4; cbv))
    (with_reducible refine on_loop ?_); simp only [List.cons_append, List.nil_append]; refine W_norm [0, 3, 7, 8] ?_ (L133s ds s b hb fr fin b.toNat 0 0 [] [] (tU8.encs d) d s (by omega) rfl rfl rfl (inB_tl hd) (by omega) rfl hfr.symm (by simpa [nxB] using hz)); (conv => lhs; cbv)
    simp (disch := omega) [hI, k195, en195, an195, hds, hna, hrs, hq1, hq2, hq3, hq4, hq5, hcx, nth, i64w_byte hb]

theorem s133 {I : Ops} (hI : I = real) {e : En} (he : e = en133) : SoundR Try.prog 133 (boxE I e sh133) :=
  SoundR.boxE ent133 (fun d s hp r σ n e => by
    have hp : (decide (d.length ≤ 6000) && d.all fun b => decide (0 ≤ b ∧ b ≤ 255)) = true := hp
    simp only [Bool.and_eq_true, List.all_eq_true, decide_eq_true_eq] at hp
    cases hz : unO d s with
    | none =>
      have e : (R.ok (.one (.pv .nl), [(0, .box [.pv (.sl false 1 (tU8.encs (unR d s).1)), .pv (.sc (.bool (unR d s).2))])], 1) : R (AV × Store × Nat)).val = some (r, σ, n) := by
        rw [← e]
        simp [sh133, an133, hz, val_ask]
      cases e
      exact okN133 d s hp.2 hp.1 hz
    | some fin =>
      have e : (R.ok (.one (.arr 1 0 fin.length), [(0, .box [.pv (.sl false 1 (tU8.encs (unR d s).1)), .pv (.sc (.bool (unR d s).2))]), (1, .row 3 (tCount.encs fin))], 2) : R (AV × Store × Nat)).val = some (r, σ, n) := by
        rw [← e]
        simp [sh133, an133, hz, val_ask, getO]
      cases e
      exact okS133 d s hp.2 hp.1 fin hz) hI he

end Go.Proofs.Try
