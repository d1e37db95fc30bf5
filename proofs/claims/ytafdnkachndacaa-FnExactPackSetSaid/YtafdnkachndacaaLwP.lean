/- Contracts. -/
import Derived.Test.YtafdnkachndacaaLwO
set_option linter.unusedSimpArgs false
set_option linter.unusedVariables false
namespace Go.Proofs.Try
open Go Go.Aix
set_option maxRecDepth 100000
set_option maxHeartbeats 4000000
set_option linter.unusedSimpArgs false
set_option linter.unusedVariables false
/-! ### Sizes -/
theorem szS_ok {V : Type} {f : V → Int → Int} {B C : V → Prop} (hf : ∀ e m, B e → 0 ≤ m → m ≤ 1048576 → 0 ≤ f e m → C e ∧ f e m ≤ m) : ∀ (l : List V) (m : Int), (∀ e ∈ l, B e) → 0 ≤ m → m ≤ 1048576 → 0 ≤ szS f l m → (∀ e ∈ l, C e) ∧ szS f l m ≤ m
  | [], m, _, _, _, _ => ⟨fun _ he => by simp at he, Int.le_refl _⟩
  | e :: r, m, hb, h0, h1, h => by
    unfold szS at h ⊢
    by_cases hn : f e m < 0
    · rw [if_pos hn] at h; omega
    · rw [if_neg hn] at h ⊢
      obtain ⟨q1, q2⟩ := hf e m (hb e List.mem_cons_self) h0 h1 (by omega)
      obtain ⟨r1, r2⟩ := szS_ok hf r (f e m) (fun e he => hb e (List.mem_cons_of_mem _ he)) (by omega) (by omega) h
      refine ⟨fun x hx => ?_, by omega⟩
      rcases List.mem_cons.1 hx with rfl | hx
      · exact q1
      · exact r1 x hx
theorem szA_ok {V : Type} {f : V → Int → Int} {B C : V → Prop} (hf : ∀ e m, B e → 0 ≤ m → m ≤ 1048576 → 0 ≤ f e m → C e ∧ f e m ≤ m) {l : List V} {m : Int} (hl : l.length ≤ 9223372036854775807) (hb : ∀ e ∈ l, B e) (h0 : 0 ≤ m) (h1 : m ≤ 1048576) (h : 0 ≤ szA f l m) : l.length ≤ 1048576 ∧ (∀ e ∈ l, C e) ∧ szA f l m ≤ m := by
  unfold szA at h ⊢
  by_cases hn : IntKind.i64.wrap (m - l.length) < 0
  · rw [if_pos hn] at h; omega
  · rw [if_neg hn] at h ⊢
    have q : IntKind.i64.wrap (m - l.length) = m - l.length := by
      rw [IntKind.wrap_i64]; omega
    rw [q] at h hn ⊢
    obtain ⟨r1, r2⟩ := szS_ok hf l (m - l.length) hb (by omega) (by omega) h
    exact ⟨by omega, r1, by omega⟩
theorem szL_ok {n : Nat} {m : Int} (hn : n ≤ 9223372036854775807) (h0 : 0 ≤ m) (h1 : m ≤ 1048576) (h : 0 ≤ szL n m) : n ≤ 1048576 ∧ szL n m ≤ m := by
  unfold szL at h ⊢
  rw [IntKind.wrap_i64] at *
  split at h
  · omega
  · rename_i hh
    rw [if_neg hh]
    omega
theorem szEnt_ok (e : EntryV) (m : Int) (hb : e.row.length ≤ 9223372036854775807) (h0 : 0 ≤ m) (h1 : m ≤ 1048576) (h : 0 ≤ szEnt e m) : e.row.length ≤ 1048576 ∧ szEnt e m ≤ m := by
  unfold szEnt at h ⊢
  split at h
  · omega
  · rename_i hh
    rw [if_neg hh]
    exact szL_ok hb h0 h1 h
theorem mkEnt_nn : ∀ (l : List EntryV) (k : Int), 0 ≤ k → (∀ e ∈ l, e.row.length ≤ 1048576) → k + l.length * 1048577 < 4611686018427387904 → 0 ≤ (mkS fEnt l k).2 ∧ (mkS fEnt l k).2 ≤ k + l.length * 1048577
  | [], k, h0, _, _ => by simp [mkS]; omega
  | e :: r, k, h0, hb, h1 => by
    rw [mkS]
    dsimp only
    have hx := hb e List.mem_cons_self
    simp only [List.length_cons] at h1 ⊢
    have q : (fEnt e k).2 = k + e.row.length + 1 := by
      show nx1 (mkS fI64 e.row k).2 = _
      rw [mkI_n e.row k h0 (by omega), nx1_id (by omega) (by omega)]
    rw [q]
    have := mkEnt_nn r (k + e.row.length + 1) (by omega) (fun e he => hb e (List.mem_cons_of_mem _ he)) (by omega)
    omega


theorem law9 (l : List EntryV) (g0 : gL gEntry l) : Ok0 Try.prog 9 [(pL tEntry).enc l] (scal (.bool true)) [] 0 := by
  obtain ⟨I, hI⟩ : ∃ I, I = real := ⟨_, rfl⟩; obtain ⟨K, hK⟩ : ∃ K : FuncId → En, K = fun g => (lk g [(25, en25), (27, en27), (60, en60), (61, en61), (56, en56), (30, en30), (40, en40), (57, en57), (131, en131)]).getD default := ⟨_, rfl⟩; have k25 : K 25 = en25 := (by subst hK; rfl); have k27 : K 27 = en27 := (by subst hK; rfl); have k60 : K 60 = en60 := (by subst hK; rfl); have k61 : K 61 = en61 := (by subst hK; rfl); have k56 : K 56 = en56 := (by subst hK; rfl); have k30 : K 30 = en30 := (by subst hK; rfl); have k40 : K 40 = en40 := (by subst hK; rfl); have k57 : K 57 = en57 := (by subst hK; rfl); have k131 : K 131 = en131 := (by subst hK; rfl); clear hK
  have b0 : l.length ≤ 9223372036854775807 := g0.1
  have c0 : ∀ e ∈ l, e.row.length ≤ 9223372036854775807 := fun e he => (g0.2 e he).1.1
  obtain ⟨es, hes⟩ : ∃ es, es = tEntry.encs l := ⟨_, rfl⟩
  show Ok0 Try.prog 9 [.one (.pv (.sl false 2 (tEntry.encs l)))] _ [] 0
  rw [← hes]
  by_cases h1 : szA szEnt l 1048576 < 0
  · have hm : True := trivial
    have hb1 : True := trivial
    refine Ok0_run (Y := (Tab.calls [(25, true, callRd I (callE I (K 25) sh25)), (27, false, callIce I (callE I (K 27) sh27)), (60, false, callVw I (callE I (K 60) sh60)), (61, false, callVw I (callE I (K 61) sh61)), (47, true, callRd I (inl X I (Tab.calls [(56, true, callRd I (callE I (K 56) sh56))]) Try.f47)), (30, true, callRd I (callE I (K 30) sh30)), (40, false, callRef I (markT I (K 40) 2)), (50, false, callRef I (inlR X I (Tab.calls [(57, false, callRef I (markT I (K 57) 1))]) Try.f50)), (51, true, callRd I (inl X I (Tab.calls [(131, true, callRd I (callE I (K 131) sh131))]) Try.f51))])) xok (TabOk.calls mixed ⟨EntryOk.rd (s25 hI k25) hI, fun _ => callRd_quiet _ _, ⟨EntryOk.own (s27 hI k27) hI, notQuiet, ⟨EntryOk.vw (s60 hI k60) hI, notQuiet, ⟨EntryOk.vw (s61 hI k61) hI, notQuiet, ⟨EntryOk.rd (s47 hI k56) hI, fun _ => callRd_quiet _ _, ⟨EntryOk.rd (s30 hI k30) hI, fun _ => callRd_quiet _ _, ⟨EntryOk.ref (s40 hI k40) hI, notQuiet, ⟨EntryOk.ref (s50 hI k57) hI, notQuiet, ⟨EntryOk.rd (s51 hI k131) hI, fun _ => callRd_quiet _ _, trivial⟩⟩⟩⟩⟩⟩⟩⟩⟩) Try.func9 rfl rfl rfl 2000 hI fun w Xs => ?_; (conv => arg 4; cbv)
    repeat' (first | ((with_reducible refine on_eqs ?_ ?_); (focus (with_reducible rfl)); conv => arg 4; cbv) | (with_reducible refine on_both ?_ ?_ <;> (conv => arg 4; cbv)) | (with_reducible refine on_true (by assumption) ?_; conv => arg 4; cbv) | (with_reducible refine on_false (by assumption) ?_; conv => arg 4; cbv) | (with_reducible refine on_ask (fun g => ?_) (fun g => ?_) <;> (have h := g) <;> (try simp (disch := omega) [hI, k25, en25, an25, k27, en27, an27, k60, en60, an60, k61, en61, an61, k56, en56, an56, k30, en30, an30, k40, en40, an40, k57, en57, an57, k131, en131, an131, hes, hd_mkU8, hm, hb1, -List.length_eq_zero_iff] at h) <;> (try (exfalso; omega)) <;> (conv => arg 4; cbv)) | ((with_reducible refine on_must ?_ ?_); (focus (first | (simp (disch := omega) [hI, k25, en25, an25, k27, en27, an27, k60, en60, an60, k61, en61, an61, k56, en56, an56, k30, en30, an30, k40, en40, an40, k57, en57, an57, k131, en131, an131, hes, hd_mkU8, hm, hb1]; done) | (simp (disch := omega) [hI, k25, en25, an25, k27, en27, an27, k60, en60, an60, k61, en61, an61, k56, en56, an56, k30, en30, an30, k40, en40, an40, k57, en57, an57, k131, en131, an131, hes, hd_mkU8, hm, hb1]; omega) | (simp (disch := omega) [hI, k25, en25, an25, k27, en27, an27, k60, en60, an60, k61, en61, an61, k56, en56, an56, k30, en30, an30, k40, en40, an40, k57, en57, an57, k131, en131, an131, hes, hd_mkU8, hm, hb1]; assumption) | (simp (disch := omega) [hI, k25, en25, an25, k27, en27, an27, k60, en60, an60, k61, en61, an61, k56, en56, an56, k30, en30, an30, k40, en40, an40, k57, en57, an57, k131, en131, an131, hes, hd_mkU8, hm, hb1]; (refine And.intro ?_ ?_) <;> (first | omega | assumption)))); conv => arg 4; cbv))
    (with_reducible refine on_ret ?_); refine Ended_of rfl ?_; (conv => lhs; cbv); rfl
  · obtain ⟨d0, d1, d2⟩ := szA_ok (B := fun e => e.row.length ≤ 9223372036854775807) szEnt_ok b0 c0 (by omega) (by omega) (Int.not_lt.1 h1)
    have d3 : ∀ e ∈ l, e.row.length < 4611686018427387904 := fun e he => Nat.lt_of_le_of_lt (d1 e he) (by omega)
    have hm : ¬ (mkS fEnt l 1).2 < 0 := by
      have := (mkEnt_nn l 1 (by omega) d1 (by omega)).1
      omega
    by_cases hz : setF l = 0
    · obtain ⟨hs, hq⟩ := setF_ok hz
      have hyl := setY_len hq
      have hb1 : ¬ (mkS fU8 (setY l) 1).2 < 0 := by rw [mkU_n (setY l) 1 (by omega) (by omega)]; omega
      refine Ok0_run (Y := (Tab.calls [(25, true, callRd I (callE I (K 25) sh25)), (27, false, callIce I (callE I (K 27) sh27)), (60, false, callVw I (callE I (K 60) sh60)), (61, false, callVw I (callE I (K 61) sh61)), (47, true, callRd I (inl X I (Tab.calls [(56, true, callRd I (callE I (K 56) sh56))]) Try.f47)), (30, true, callRd I (callE I (K 30) sh30)), (40, false, callRef I (markT I (K 40) 2)), (50, false, callRef I (inlR X I (Tab.calls [(57, false, callRef I (markT I (K 57) 1))]) Try.f50)), (51, true, callRd I (inl X I (Tab.calls [(131, true, callRd I (callE I (K 131) sh131))]) Try.f51))])) xok (TabOk.calls mixed ⟨EntryOk.rd (s25 hI k25) hI, fun _ => callRd_quiet _ _, ⟨EntryOk.own (s27 hI k27) hI, notQuiet, ⟨EntryOk.vw (s60 hI k60) hI, notQuiet, ⟨EntryOk.vw (s61 hI k61) hI, notQuiet, ⟨EntryOk.rd (s47 hI k56) hI, fun _ => callRd_quiet _ _, ⟨EntryOk.rd (s30 hI k30) hI, fun _ => callRd_quiet _ _, ⟨EntryOk.ref (s40 hI k40) hI, notQuiet, ⟨EntryOk.ref (s50 hI k57) hI, notQuiet, ⟨EntryOk.rd (s51 hI k131) hI, fun _ => callRd_quiet _ _, trivial⟩⟩⟩⟩⟩⟩⟩⟩⟩) Try.func9 rfl rfl rfl 2000 hI fun w Xs => ?_; (conv => arg 4; cbv)
      repeat' (first | ((with_reducible refine on_eqs ?_ ?_); (focus (with_reducible rfl)); conv => arg 4; cbv) | (with_reducible refine on_both ?_ ?_ <;> (conv => arg 4; cbv)) | (with_reducible refine on_true (by assumption) ?_; conv => arg 4; cbv) | (with_reducible refine on_false (by assumption) ?_; conv => arg 4; cbv) | (with_reducible refine on_ask (fun g => ?_) (fun g => ?_) <;> (have h := g) <;> (try simp (disch := omega) [hI, k25, en25, an25, k27, en27, an27, k60, en60, an60, k61, en61, an61, k56, en56, an56, k30, en30, an30, k40, en40, an40, k57, en57, an57, k131, en131, an131, hes, hd_mkU8, hm, hb1, -List.length_eq_zero_iff] at h) <;> (try (exfalso; omega)) <;> (conv => arg 4; cbv)) | ((with_reducible refine on_must ?_ ?_); (focus (first | (simp (disch := omega) [hI, k25, en25, an25, k27, en27, an27, k60, en60, an60, k61, en61, an61, k56, en56, an56, k30, en30, an30, k40, en40, an40, k57, en57, an57, k131, en131, an131, hes, hd_mkU8, hm, hb1]; done) | (simp (disch := omega) [hI, k25, en25, an25, k27, en27, an27, k60, en60, an60, k61, en61, an61, k56, en56, an56, k30, en30, an30, k40, en40, an40, k57, en57, an57, k131, en131, an131, hes, hd_mkU8, hm, hb1]; omega) | (simp (disch := omega) [hI, k25, en25, an25, k27, en27, an27, k60, en60, an60, k61, en61, an61, k56, en56, an56, k30, en30, an30, k40, en40, an40, k57, en57, an57, k131, en131, an131, hes, hd_mkU8, hm, hb1]; assumption) | (simp (disch := omega) [hI, k25, en25, an25, k27, en27, an27, k60, en60, an60, k61, en61, an61, k56, en56, an56, k30, en30, an30, k40, en40, an40, k57, en57, an57, k131, en131, an131, hes, hd_mkU8, hm, hb1]; (refine And.intro ?_ ?_) <;> (first | omega | assumption)))); conv => arg 4; cbv))
      all_goals first
        | ((with_reducible refine on_ret ?_); refine Ended_of rfl ?_; (conv => lhs; cbv); rfl)
        | (exfalso; omega)
        | (exfalso; simp_all; done)
        | (exfalso; simp_all; omega)
    · have hb1 : True := trivial
      refine Ok0_run (Y := (Tab.calls [(25, true, callRd I (callE I (K 25) sh25)), (27, false, callIce I (callE I (K 27) sh27)), (60, false, callVw I (callE I (K 60) sh60)), (61, false, callVw I (callE I (K 61) sh61)), (47, true, callRd I (inl X I (Tab.calls [(56, true, callRd I (callE I (K 56) sh56))]) Try.f47)), (30, true, callRd I (callE I (K 30) sh30)), (40, false, callRef I (markT I (K 40) 2)), (50, false, callRef I (inlR X I (Tab.calls [(57, false, callRef I (markT I (K 57) 1))]) Try.f50)), (51, true, callRd I (inl X I (Tab.calls [(131, true, callRd I (callE I (K 131) sh131))]) Try.f51))])) xok (TabOk.calls mixed ⟨EntryOk.rd (s25 hI k25) hI, fun _ => callRd_quiet _ _, ⟨EntryOk.own (s27 hI k27) hI, notQuiet, ⟨EntryOk.vw (s60 hI k60) hI, notQuiet, ⟨EntryOk.vw (s61 hI k61) hI, notQuiet, ⟨EntryOk.rd (s47 hI k56) hI, fun _ => callRd_quiet _ _, ⟨EntryOk.rd (s30 hI k30) hI, fun _ => callRd_quiet _ _, ⟨EntryOk.ref (s40 hI k40) hI, notQuiet, ⟨EntryOk.ref (s50 hI k57) hI, notQuiet, ⟨EntryOk.rd (s51 hI k131) hI, fun _ => callRd_quiet _ _, trivial⟩⟩⟩⟩⟩⟩⟩⟩⟩) Try.func9 rfl rfl rfl 2000 hI fun w Xs => ?_; (conv => arg 4; cbv)
      repeat' (first | ((with_reducible refine on_eqs ?_ ?_); (focus (with_reducible rfl)); conv => arg 4; cbv) | (with_reducible refine on_both ?_ ?_ <;> (conv => arg 4; cbv)) | (with_reducible refine on_true (by assumption) ?_; conv => arg 4; cbv) | (with_reducible refine on_false (by assumption) ?_; conv => arg 4; cbv) | (with_reducible refine on_ask (fun g => ?_) (fun g => ?_) <;> (have h := g) <;> (try simp (disch := omega) [hI, k25, en25, an25, k27, en27, an27, k60, en60, an60, k61, en61, an61, k56, en56, an56, k30, en30, an30, k40, en40, an40, k57, en57, an57, k131, en131, an131, hes, hd_mkU8, hm, hb1, -List.length_eq_zero_iff] at h) <;> (try (exfalso; omega)) <;> (conv => arg 4; cbv)) | ((with_reducible refine on_must ?_ ?_); (focus (first | (simp (disch := omega) [hI, k25, en25, an25, k27, en27, an27, k60, en60, an60, k61, en61, an61, k56, en56, an56, k30, en30, an30, k40, en40, an40, k57, en57, an57, k131, en131, an131, hes, hd_mkU8, hm, hb1]; done) | (simp (disch := omega) [hI, k25, en25, an25, k27, en27, an27, k60, en60, an60, k61, en61, an61, k56, en56, an56, k30, en30, an30, k40, en40, an40, k57, en57, an57, k131, en131, an131, hes, hd_mkU8, hm, hb1]; omega) | (simp (disch := omega) [hI, k25, en25, an25, k27, en27, an27, k60, en60, an60, k61, en61, an61, k56, en56, an56, k30, en30, an30, k40, en40, an40, k57, en57, an57, k131, en131, an131, hes, hd_mkU8, hm, hb1]; assumption) | (simp (disch := omega) [hI, k25, en25, an25, k27, en27, an27, k60, en60, an60, k61, en61, an61, k56, en56, an56, k30, en30, an30, k40, en40, an40, k57, en57, an57, k131, en131, an131, hes, hd_mkU8, hm, hb1]; (refine And.intro ?_ ?_) <;> (first | omega | assumption)))); conv => arg 4; cbv))
      all_goals first
        | ((with_reducible refine on_ret ?_); refine Ended_of rfl ?_; (conv => lhs; cbv); rfl)
        | (exfalso; omega)
        | (exfalso; simp_all; done)
        | (exfalso; simp_all; omega)

end Go.Proofs.Try
