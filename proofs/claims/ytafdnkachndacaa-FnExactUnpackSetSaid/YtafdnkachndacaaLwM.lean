/- Contracts. -/
import Derived.Test.YtafdnkachndacaaLwL
set_option linter.unusedSimpArgs false
set_option linter.unusedVariables false
namespace Go.Proofs.Try
open Go Go.Aix
set_option maxRecDepth 100000
set_option maxHeartbeats 4000000
set_option linter.unusedSimpArgs false
set_option linter.unusedVariables false
def setLp (l : List EntryV) : Nat → Nat → Int
  | 0, _ => 0
  | k + 1, i => if rowFault (nth l i).row ≠ 0 then rowFault (nth l i).row
    else if ¬ (-1000000000000 ≤ (nth l i).weight ∧ (nth l i).weight ≤ 1000000000000) ∨ (nth l i).weight = 0 then 3
    else if 0 < i ∧ 0 ≤ cmpR (nth l (i - 1)).row (nth l i).row then 1
    else setLp l k (i + 1)
def setF (l : List EntryV) : Int := if 200 < l.length then 2 else setLp l l.length 0
theorem setLp_ok (l : List EntryV) : ∀ (k i : Nat), k + i = l.length → setLp l k i = 0 → ∀ j, i ≤ j → j < l.length → (nth l j).row.length ≤ 4
  | 0, i, hk, _, j, h1, h2 => by omega
  | k + 1, i, hk, h, j, h1, h2 => by
    rw [setLp] at h
    split at h
    · contradiction
    · rename_i hr
      split at h
      · omega
      · split at h
        · omega
        · by_cases hj : j = i
          · subst hj; exact rowFault_len (by simpa using hr)
          · exact setLp_ok l k (i + 1) (by omega) h j (by omega) h2
theorem setF_ok {l : List EntryV} (h : setF l = 0) : l.length ≤ 200 ∧ ∀ e ∈ l, e.row.length ≤ 4 := by
  unfold setF at h
  split at h
  · omega
  · refine ⟨by omega, fun e he => ?_⟩
    obtain ⟨j, hj, rfl⟩ := List.getElem_of_mem he
    have := setLp_ok l l.length 0 rfl h j (Nat.zero_le _) hj
    simpa [nth, hj] using this

def an136 : An (List EntryV × Unit) where
  pre t := t.1.all fun e => decide (e.row.length < 4611686018427387904)
  i _ t := setF t.1
noncomputable def en136 : En := mkE (parsC (pL tEntry) pars0) an136
def sh136 : Shp := fun I i b l s => .ok (.one (.pv (.sc (.int .i64 (i 0)))), [], 0)
theorem ent136 : Enters Try.prog 136 := ⟨Try.f136, Try.func136, by kernel_rfl, by kernel_rfl⟩

theorem L136 {w : World} {Xs : Nat → Prop} (l : List EntryV) (hl : l.length ≤ 200) (hb : ∀ e ∈ l, e.row.length < 4611686018427387904) (es : List (List PV)) (hes : es = tEntry.encs l) :
    ∀ (k i : Nat), k + i = l.length → W Try.prog 136 Try.f136 (Ent0 w Xs) (Back (Ent0 w Xs) (.one (.pv (.sc (.int .i64 (setLp l k i))))) [] 0) (place (bodyOf Try.f136) [1,1,0,1,0,0] [])
      ⟨[(0, .one (.pv (.sl false 2 es))), (3, .one (.pv (.sc (.int .i64 i))))], [], 0⟩ := by
  obtain ⟨I, hI⟩ : ∃ I, I = real := ⟨_, rfl⟩; obtain ⟨K, hK⟩ : ∃ K : FuncId → En, K = fun g => (lk g [(92, en92), (117, en117)]).getD default := ⟨_, rfl⟩; have k92 : K 92 = en92 := (by subst hK; rfl); have k117 : K 117 = en117 := (by subst hK; rfl); clear hK
  intro k
  induction k with
  | zero =>
    intro i hk
    have hi1 : ((i : Int) - 1).toNat = i - 1 := by omega
    refine W_go (Y := (Tab.calls [(92, true, callRd I (callE I (K 92) sh92)), (93, true, callRd I (inl X I (Tab.calls [(91, true, callRd I (inl X I (Tab.calls []) Try.f91))]) Try.f93)), (117, true, callRd I (callE I (K 117) sh117))])) xok (TabOk.calls mixed ⟨EntryOk.rd (s92 hI k92) hI, fun _ => callRd_quiet _ _, ⟨EntryOk.rd (s93 hI) hI, fun _ => callRd_quiet _ _, ⟨EntryOk.rd (s117 hI k117) hI, fun _ => callRd_quiet _ _, trivial⟩⟩⟩) Try.func136 rfl 2000 _ hI ?_; (conv => arg 4; cbv)
    repeat' (first | ((with_reducible refine on_eqs ?_ ?_); (focus (with_reducible rfl)); conv => arg 4; cbv) | (with_reducible refine on_both ?_ ?_ <;> (conv => arg 4; cbv)) | (with_reducible refine on_true (by assumption) ?_; conv => arg 4; cbv) | (with_reducible refine on_false (by assumption) ?_; conv => arg 4; cbv) | (with_reducible refine on_ask (fun g => ?_) (fun g => ?_) <;> (have h := g) <;> (try simp (disch := omega) [hI, k92, en92, an92, k117, en117, an117, hes, hi1, -List.length_eq_zero_iff] at h) <;> (try (exfalso; omega)) <;> (conv => arg 4; cbv)) | ((with_reducible refine on_must ?_ ?_); (focus (first | (simp (disch := omega) [hI, k92, en92, an92, k117, en117, an117, hes, hi1]; done) | (simp (disch := omega) [hI, k92, en92, an92, k117, en117, an117, hes, hi1]; omega) | (simp (disch := omega) [hI, k92, en92, an92, k117, en117, an117, hes, hi1]; assumption) | (simp (disch := omega) [hI, k92, en92, an92, k117, en117, an117, hes, hi1]; (refine And.intro ?_ ?_) <;> (first | omega | assumption)))); conv => arg 4; cbv))
    (with_reducible refine on_ret ?_); refine Ended_of rfl ?_; (conv => lhs; cbv)
    rfl
  | succ k ih =>
    intro i hk
    have hi1 : ((i : Int) - 1).toNat = i - 1 := by omega
    have hx := hb _ (nth_mem (l := l) (i := i) (by omega))
    have hx' := hb _ (nth_mem (l := l) (i := i - 1) (by omega))
    refine W_go (Y := (Tab.calls [(92, true, callRd I (callE I (K 92) sh92)), (93, true, callRd I (inl X I (Tab.calls [(91, true, callRd I (inl X I (Tab.calls []) Try.f91))]) Try.f93)), (117, true, callRd I (callE I (K 117) sh117))])) xok (TabOk.calls mixed ⟨EntryOk.rd (s92 hI k92) hI, fun _ => callRd_quiet _ _, ⟨EntryOk.rd (s93 hI) hI, fun _ => callRd_quiet _ _, ⟨EntryOk.rd (s117 hI k117) hI, fun _ => callRd_quiet _ _, trivial⟩⟩⟩) Try.func136 rfl 2000 _ hI ?_; (conv => arg 4; cbv)
    repeat' (first | ((with_reducible refine on_eqs ?_ ?_); (focus (with_reducible rfl)); conv => arg 4; cbv) | (with_reducible refine on_both ?_ ?_ <;> (conv => arg 4; cbv)) | (with_reducible refine on_true (by assumption) ?_; conv => arg 4; cbv) | (with_reducible refine on_false (by assumption) ?_; conv => arg 4; cbv) | (with_reducible refine on_ask (fun g => ?_) (fun g => ?_) <;> (have h := g) <;> (try simp (disch := omega) [hI, k92, en92, an92, k117, en117, an117, hes, hi1, -List.length_eq_zero_iff] at h) <;> (try (exfalso; omega)) <;> (conv => arg 4; cbv)) | ((with_reducible refine on_must ?_ ?_); (focus (first | (simp (disch := omega) [hI, k92, en92, an92, k117, en117, an117, hes, hi1]; done) | (simp (disch := omega) [hI, k92, en92, an92, k117, en117, an117, hes, hi1]; omega) | (simp (disch := omega) [hI, k92, en92, an92, k117, en117, an117, hes, hi1]; assumption) | (simp (disch := omega) [hI, k92, en92, an92, k117, en117, an117, hes, hi1]; (refine And.intro ?_ ?_) <;> (first | omega | assumption)))); conv => arg 4; cbv))
    all_goals first
      | ((with_reducible refine on_ret ?_); refine Ended_of rfl ?_; (conv => lhs; cbv); rw [setLp, if_pos (by assumption)]; simp (disch := omega) [hI, k92, en92, an92, k117, en117, an117, hes, hi1]; done)
      | ((with_reducible refine on_ret ?_); refine Ended_of rfl ?_; (conv => lhs; cbv); rw [setLp, if_neg (by omega), if_pos (by omega)]; done)
      | (have hc : 0 < i ∧ 0 ≤ cmpR (nth l (i - 1)).row (nth l i).row := ⟨by omega, by have := cmpR_anti (nth l (i - 1)).row (nth l i).row; omega⟩
         have e : setLp l (k + 1) i = 1 := by rw [setLp, if_neg (by omega), if_neg (by omega), if_pos hc]
         rw [e]
         (with_reducible refine on_ret ?_); refine Ended_of rfl ?_; (conv => lhs; cbv))
      | (have e : setLp l (k + 1) i = setLp l k (i + 1) := by
           rw [setLp, if_neg (by omega), if_neg (by omega), if_neg]
           rintro ⟨h0, h1⟩
           have := cmpR_anti (nth l (i - 1)).row (nth l i).row; omega
         rw [e]
         (with_reducible refine on_loop ?_); simp only [List.cons_append, List.nil_append]; refine W_norm [0, 3] ?_ (ih (i + 1) (by omega)); (conv => lhs; cbv)
         first | (simp (disch := omega) [hI, k92, en92, an92, k117, en117, an117, hes, hi1, *]; done) | ((try simp (disch := omega) [hI, k92, en92, an92, k117, en117, an117, hes, hi1, *]); (repeat' split); all_goals (first | rfl | omega | (simp_all; done) | (exfalso; simp_all; omega))))
theorem ok136 (l : List EntryV) (hb : ∀ e ∈ l, e.row.length < 4611686018427387904) : Ok0 Try.prog 136 [(pL tEntry).enc l] (.one (.pv (.sc (.int .i64 (setF l))))) [] 0 := by
  obtain ⟨I, hI⟩ : ∃ I, I = real := ⟨_, rfl⟩; obtain ⟨K, hK⟩ : ∃ K : FuncId → En, K = fun g => (lk g [(92, en92), (117, en117)]).getD default := ⟨_, rfl⟩; have k92 : K 92 = en92 := (by subst hK; rfl); have k117 : K 117 = en117 := (by subst hK; rfl); clear hK
  have hi1 : True := trivial
  have hnl : True := trivial
  have hx : True := trivial
  have hx' : True := trivial
  obtain ⟨es, hes⟩ : ∃ es, es = tEntry.encs l := ⟨_, rfl⟩
  show Ok0 Try.prog 136 [.one (.pv (.sl false 2 (tEntry.encs l)))] _ [] 0
  rw [← hes]
  refine Ok0_run (Y := (Tab.calls [(92, true, callRd I (callE I (K 92) sh92)), (93, true, callRd I (inl X I (Tab.calls [(91, true, callRd I (inl X I (Tab.calls []) Try.f91))]) Try.f93)), (117, true, callRd I (callE I (K 117) sh117))])) xok (TabOk.calls mixed ⟨EntryOk.rd (s92 hI k92) hI, fun _ => callRd_quiet _ _, ⟨EntryOk.rd (s93 hI) hI, fun _ => callRd_quiet _ _, ⟨EntryOk.rd (s117 hI k117) hI, fun _ => callRd_quiet _ _, trivial⟩⟩⟩) Try.func136 rfl rfl rfl 2000 hI fun w Xs => ?_; (conv => arg 4; cbv)
  repeat' (first | ((with_reducible refine on_eqs ?_ ?_); (focus (with_reducible rfl)); conv => arg 4; cbv) | (with_reducible refine on_both ?_ ?_ <;> (conv => arg 4; cbv)) | (with_reducible refine on_true (by assumption) ?_; conv => arg 4; cbv) | (with_reducible refine on_false (by assumption) ?_; conv => arg 4; cbv) | (with_reducible refine on_ask (fun g => ?_) (fun g => ?_) <;> (have h := g) <;> (try simp (disch := omega) [hI, k92, en92, an92, k117, en117, an117, hes, hi1, -List.length_eq_zero_iff] at h) <;> (try (exfalso; omega)) <;> (conv => arg 4; cbv)) | ((with_reducible refine on_must ?_ ?_); (focus (first | (simp (disch := omega) [hI, k92, en92, an92, k117, en117, an117, hes, hi1]; done) | (simp (disch := omega) [hI, k92, en92, an92, k117, en117, an117, hes, hi1]; omega) | (simp (disch := omega) [hI, k92, en92, an92, k117, en117, an117, hes, hi1]; assumption) | (simp (disch := omega) [hI, k92, en92, an92, k117, en117, an117, hes, hi1]; (refine And.intro ?_ ?_) <;> (first | omega | assumption)))); conv => arg 4; cbv))
  · (with_reducible refine on_ret ?_); refine Ended_of rfl ?_; (conv => lhs; cbv); rw [setF, if_pos (by omega)]
  · rw [setF, if_neg (by omega)]
    (with_reducible refine on_loop ?_); simp only [List.cons_append, List.nil_append]; refine W_norm [0, 3] ?_ (L136 l (by omega) hb es hes l.length 0 rfl); (conv => lhs; cbv)
    first | (simp (disch := omega) [hI, k92, en92, an92, k117, en117, an117, hes, hi1, *]; done) | ((try simp (disch := omega) [hI, k92, en92, an92, k117, en117, an117, hes, hi1, *]); (repeat' split); all_goals (first | rfl | omega | (simp_all; done) | (exfalso; simp_all; omega)))

theorem s136 {I : Ops} (hI : I = real) {e : En} (he : e = en136) : Sound Try.prog 136 (callE I e sh136) := by
  refine Sound.mkE ent136 hI (fun _ => rfl) ?_ he
  rintro ⟨l, ⟨⟩⟩ hp
  
  have hp : (l.all fun e => decide (e.row.length < 4611686018427387904)) = true := hp
  simp only [List.all_eq_true, decide_eq_true_eq] at hp
  exact ok136 l hp
def an118 : An (List EntryV × Unit) where
  pre t := t.1.all fun e => decide (e.row.length < 4611686018427387904)
  i _ t := setF t.1
noncomputable def en118 : En := mkE (parsC (pL tEntry) pars0) an118
def sh118 : Shp := fun I i b l s => .ok (.one (.pv (.sc (.int .i64 (i 0)))), [], 0)
theorem ent118 : Enters Try.prog 118 := ⟨Try.f118, Try.func118, by kernel_rfl, by kernel_rfl⟩

theorem L118 {w : World} {Xs : Nat → Prop} (l : List EntryV) (hl : l.length ≤ 200) (hb : ∀ e ∈ l, e.row.length < 4611686018427387904) (es : List (List PV)) (hes : es = tEntry.encs l) (nl : Nat) (hnl : nl = l.length) :
    ∀ (k i : Nat), k + i = l.length → W Try.prog 118 Try.f118 (Ent0 w Xs) (Back (Ent0 w Xs) (.one (.pv (.sc (.int .i64 (setLp l k i))))) [] 0) (place (bodyOf Try.f118) [1,1,0,1,0,0] [])
      ⟨[(0, .one (.pv (.sl false 2 es))), (9, .one (.pv (.sl false 2 es))), (10, .one (.pv (.sc (.int .i64 nl)))), (11, .one (.pv (.sc (.int .i64 i))))], [], 0⟩ := by
  obtain ⟨I, hI⟩ : ∃ I, I = real := ⟨_, rfl⟩; obtain ⟨K, hK⟩ : ∃ K : FuncId → En, K = fun g => (lk g [(100, en100), (185, en185)]).getD default := ⟨_, rfl⟩; have k100 : K 100 = en100 := (by subst hK; rfl); have k185 : K 185 = en185 := (by subst hK; rfl); clear hK
  intro k
  induction k with
  | zero =>
    intro i hk
    have hi1 : ((i : Int) - 1).toNat = i - 1 := by omega
    refine W_go (Y := (Tab.calls [(100, true, callRd I (callE I (K 100) sh100)), (101, true, callRd I (inl X I (Tab.calls [(98, true, callRd I (inl X I (Tab.calls []) Try.f98))]) Try.f101)), (185, true, callRd I (callE I (K 185) sh185))])) xok (TabOk.calls mixed ⟨EntryOk.rd (s100 hI k100) hI, fun _ => callRd_quiet _ _, ⟨EntryOk.rd (s101 hI) hI, fun _ => callRd_quiet _ _, ⟨EntryOk.rd (s185 hI k185) hI, fun _ => callRd_quiet _ _, trivial⟩⟩⟩) Try.func118 rfl 2000 _ hI ?_; (conv => arg 4; cbv)
    repeat' (first | ((with_reducible refine on_eqs ?_ ?_); (focus (with_reducible rfl)); conv => arg 4; cbv) | (with_reducible refine on_both ?_ ?_ <;> (conv => arg 4; cbv)) | (with_reducible refine on_true (by assumption) ?_; conv => arg 4; cbv) | (with_reducible refine on_false (by assumption) ?_; conv => arg 4; cbv) | (with_reducible refine on_ask (fun g => ?_) (fun g => ?_) <;> (have h := g) <;> (try simp (disch := omega) [hI, k100, en100, an100, k185, en185, an185, hes, hi1, hnl, -List.length_eq_zero_iff] at h) <;> (try (exfalso; omega)) <;> (conv => arg 4; cbv)) | ((with_reducible refine on_must ?_ ?_); (focus (first | (simp (disch := omega) [hI, k100, en100, an100, k185, en185, an185, hes, hi1, hnl]; done) | (simp (disch := omega) [hI, k100, en100, an100, k185, en185, an185, hes, hi1, hnl]; omega) | (simp (disch := omega) [hI, k100, en100, an100, k185, en185, an185, hes, hi1, hnl]; assumption) | (simp (disch := omega) [hI, k100, en100, an100, k185, en185, an185, hes, hi1, hnl]; (refine And.intro ?_ ?_) <;> (first | omega | assumption)))); conv => arg 4; cbv))
    (with_reducible refine on_ret ?_); refine Ended_of rfl ?_; (conv => lhs; cbv)
    rfl
  | succ k ih =>
    intro i hk
    have hi1 : ((i : Int) - 1).toNat = i - 1 := by omega
    have hx := hb _ (nth_mem (l := l) (i := i) (by omega))
    have hx' := hb _ (nth_mem (l := l) (i := i - 1) (by omega))
    refine W_go (Y := (Tab.calls [(100, true, callRd I (callE I (K 100) sh100)), (101, true, callRd I (inl X I (Tab.calls [(98, true, callRd I (inl X I (Tab.calls []) Try.f98))]) Try.f101)), (185, true, callRd I (callE I (K 185) sh185))])) xok (TabOk.calls mixed ⟨EntryOk.rd (s100 hI k100) hI, fun _ => callRd_quiet _ _, ⟨EntryOk.rd (s101 hI) hI, fun _ => callRd_quiet _ _, ⟨EntryOk.rd (s185 hI k185) hI, fun _ => callRd_quiet _ _, trivial⟩⟩⟩) Try.func118 rfl 2000 _ hI ?_; (conv => arg 4; cbv)
    repeat' (first | ((with_reducible refine on_eqs ?_ ?_); (focus (with_reducible rfl)); conv => arg 4; cbv) | (with_reducible refine on_both ?_ ?_ <;> (conv => arg 4; cbv)) | (with_reducible refine on_true (by assumption) ?_; conv => arg 4; cbv) | (with_reducible refine on_false (by assumption) ?_; conv => arg 4; cbv) | (with_reducible refine on_ask (fun g => ?_) (fun g => ?_) <;> (have h := g) <;> (try simp (disch := omega) [hI, k100, en100, an100, k185, en185, an185, hes, hi1, hnl, -List.length_eq_zero_iff] at h) <;> (try (exfalso; omega)) <;> (conv => arg 4; cbv)) | ((with_reducible refine on_must ?_ ?_); (focus (first | (simp (disch := omega) [hI, k100, en100, an100, k185, en185, an185, hes, hi1, hnl]; done) | (simp (disch := omega) [hI, k100, en100, an100, k185, en185, an185, hes, hi1, hnl]; omega) | (simp (disch := omega) [hI, k100, en100, an100, k185, en185, an185, hes, hi1, hnl]; assumption) | (simp (disch := omega) [hI, k100, en100, an100, k185, en185, an185, hes, hi1, hnl]; (refine And.intro ?_ ?_) <;> (first | omega | assumption)))); conv => arg 4; cbv))
    all_goals first
      | ((with_reducible refine on_ret ?_); refine Ended_of rfl ?_; (conv => lhs; cbv); rw [setLp, if_pos (by assumption)]; simp (disch := omega) [hI, k100, en100, an100, k185, en185, an185, hes, hi1, hnl]; done)
      | ((with_reducible refine on_ret ?_); refine Ended_of rfl ?_; (conv => lhs; cbv); rw [setLp, if_neg (by omega), if_pos (by omega)]; done)
      | (have hc : 0 < i ∧ 0 ≤ cmpR (nth l (i - 1)).row (nth l i).row := ⟨by omega, by omega⟩
         have e : setLp l (k + 1) i = 1 := by rw [setLp, if_neg (by omega), if_neg (by omega), if_pos hc]
         rw [e]
         (with_reducible refine on_ret ?_); refine Ended_of rfl ?_; (conv => lhs; cbv))
      | (have e : setLp l (k + 1) i = setLp l k (i + 1) := by
           rw [setLp, if_neg (by omega), if_neg (by omega), if_neg]
           rintro ⟨h0, h1⟩
           omega
         rw [e]
         (with_reducible refine on_loop ?_); simp only [List.cons_append, List.nil_append]; refine W_norm [0, 9, 10, 11] ?_ (ih (i + 1) (by omega)); (conv => lhs; cbv)
         first | (simp (disch := omega) [hI, k100, en100, an100, k185, en185, an185, hes, hi1, hnl, *]; done) | ((try simp (disch := omega) [hI, k100, en100, an100, k185, en185, an185, hes, hi1, hnl, *]); (repeat' split); all_goals (first | rfl | omega | (simp_all; done) | (exfalso; simp_all; omega))))
theorem ok118 (l : List EntryV) (hb : ∀ e ∈ l, e.row.length < 4611686018427387904) : Ok0 Try.prog 118 [(pL tEntry).enc l] (.one (.pv (.sc (.int .i64 (setF l))))) [] 0 := by
  obtain ⟨I, hI⟩ : ∃ I, I = real := ⟨_, rfl⟩; obtain ⟨K, hK⟩ : ∃ K : FuncId → En, K = fun g => (lk g [(100, en100), (185, en185)]).getD default := ⟨_, rfl⟩; have k100 : K 100 = en100 := (by subst hK; rfl); have k185 : K 185 = en185 := (by subst hK; rfl); clear hK
  have hi1 : True := trivial
  have hnl : True := trivial
  have hx : True := trivial
  have hx' : True := trivial
  obtain ⟨es, hes⟩ : ∃ es, es = tEntry.encs l := ⟨_, rfl⟩
  show Ok0 Try.prog 118 [.one (.pv (.sl false 2 (tEntry.encs l)))] _ [] 0
  rw [← hes]
  refine Ok0_run (Y := (Tab.calls [(100, true, callRd I (callE I (K 100) sh100)), (101, true, callRd I (inl X I (Tab.calls [(98, true, callRd I (inl X I (Tab.calls []) Try.f98))]) Try.f101)), (185, true, callRd I (callE I (K 185) sh185))])) xok (TabOk.calls mixed ⟨EntryOk.rd (s100 hI k100) hI, fun _ => callRd_quiet _ _, ⟨EntryOk.rd (s101 hI) hI, fun _ => callRd_quiet _ _, ⟨EntryOk.rd (s185 hI k185) hI, fun _ => callRd_quiet _ _, trivial⟩⟩⟩) Try.func118 rfl rfl rfl 2000 hI fun w Xs => ?_; (conv => arg 4; cbv)
  repeat' (first | ((with_reducible refine on_eqs ?_ ?_); (focus (with_reducible rfl)); conv => arg 4; cbv) | (with_reducible refine on_both ?_ ?_ <;> (conv => arg 4; cbv)) | (with_reducible refine on_true (by assumption) ?_; conv => arg 4; cbv) | (with_reducible refine on_false (by assumption) ?_; conv => arg 4; cbv) | (with_reducible refine on_ask (fun g => ?_) (fun g => ?_) <;> (have h := g) <;> (try simp (disch := omega) [hI, k100, en100, an100, k185, en185, an185, hes, hi1, hnl, -List.length_eq_zero_iff] at h) <;> (try (exfalso; omega)) <;> (conv => arg 4; cbv)) | ((with_reducible refine on_must ?_ ?_); (focus (first | (simp (disch := omega) [hI, k100, en100, an100, k185, en185, an185, hes, hi1, hnl]; done) | (simp (disch := omega) [hI, k100, en100, an100, k185, en185, an185, hes, hi1, hnl]; omega) | (simp (disch := omega) [hI, k100, en100, an100, k185, en185, an185, hes, hi1, hnl]; assumption) | (simp (disch := omega) [hI, k100, en100, an100, k185, en185, an185, hes, hi1, hnl]; (refine And.intro ?_ ?_) <;> (first | omega | assumption)))); conv => arg 4; cbv))
  · (with_reducible refine on_ret ?_); refine Ended_of rfl ?_; (conv => lhs; cbv); rw [setF, if_pos (by omega)]
  · rw [setF, if_neg (by omega)]
    (with_reducible refine on_loop ?_); simp only [List.cons_append, List.nil_append]; refine W_norm [0, 9, 10, 11] ?_ (L118 l (by omega) hb es hes _ rfl l.length 0 rfl); (conv => lhs; cbv)
    first | (simp (disch := omega) [hI, k100, en100, an100, k185, en185, an185, hes, hi1, hnl, *]; done) | ((try simp (disch := omega) [hI, k100, en100, an100, k185, en185, an185, hes, hi1, hnl, *]); (repeat' split); all_goals (first | rfl | omega | (simp_all; done) | (exfalso; simp_all; omega)))

theorem s118 {I : Ops} (hI : I = real) {e : En} (he : e = en118) : Sound Try.prog 118 (callE I e sh118) := by
  refine Sound.mkE ent118 hI (fun _ => rfl) ?_ he
  rintro ⟨l, ⟨⟩⟩ hp
  
  have hp : (l.all fun e => decide (e.row.length < 4611686018427387904)) = true := hp
  simp only [List.all_eq_true, decide_eq_true_eq] at hp
  exact ok118 l hp
end Go.Proofs.Try
