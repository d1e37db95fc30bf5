/- Contracts. -/
import Derived.Test.YtiieincddkhcdaaGreatBg
set_option linter.unusedSimpArgs false
set_option linter.unusedVariables false
namespace Go.Proofs.Tryz
open Go Go.Aix
set_option maxRecDepth 100000
set_option maxHeartbeats 4000000
def an112 : An (List Int × Unit) where
  pre t := decide (t.1.length ≤ 1048576)
  l _ t := tI64.encs t.1
noncomputable def en112 : En := mkE (parsC (pL tI64) pars0) an112
attribute [simp] en112 an112
def sh112 : Shp := fun I i b l s => .ok (.one (.arr 0 0 (I.len (l 0))), [(0, .row 1 (l 0))], 1)
theorem ent112 : Enters Tryz.prog 112 := ⟨Tryz.f112, Tryz.func112, by kernel_rfl, by kernel_rfl⟩
theorem L112 {w : World} {Xs : Nat → Prop} (l : List Int) (hl : l.length ≤ 1048576) (es : List (List PV)) (hes : es = tI64.encs l) (n : Nat) (hn : n = l.length) :
    ∀ (k i : Nat) (rs : List (List PV)), rs = pad tI64.enc [.sc (.int .i64 0)] l i → k + i = l.length → W Tryz.prog 112 Tryz.f112 (Ent0 w Xs) (Back (Ent0 w Xs) (.one (.arr 0 0 l.length)) [(0, .row 1 (tI64.encs l))] 1) (place (bodyOf Tryz.f112) [1,1,0,1,0,0] [])
      ⟨[(0, .one (.pv (.sl false 1 es))), (3, .one (.arr 0 0 n)), (4, .one (.pv (.sc (.int .i64 i))))], [(0, .row 1 rs)], 1⟩ := by
  obtain ⟨I, hI⟩ : ∃ I, I = real := ⟨_, rfl⟩
  intro k
  induction k with
  | zero =>
    intro i rs hrs hk
    refine W_go (Y := (Tab.calls [])) xok (TabOk.calls mixed trivial) Tryz.func112 rfl 2000 _ hI ?_; (conv => arg 4; cbv)
    repeat' ((first | ((with_reducible refine on_eqs ?_ ?_); (focus (with_reducible rfl))) | (with_reducible refine on_both ?_ ?_) | (with_reducible refine on_true (by assumption) ?_) | (with_reducible refine on_false (by assumption) ?_) | (with_reducible refine on_ask (fun g => ?_) (fun g => ?_) <;> (have h := g) <;> (try simp (disch := omega) [hI, hes, hrs, hn, -List.length_eq_zero_iff] at h) <;> (try (exfalso; omega))) | ((with_reducible refine on_must ?_ ?_); (focus (simp (disch := omega) [hI, hes, hrs, hn] <;> exact mt)))) <;> (conv => arg 4; cbv))
    (with_reducible refine on_ret ?_); refine Ended_of rfl ?_; (conv => lhs; cbv)
    rw [hrs, hn, pad_done _ _ _ _ (by omega), mapE_map, Ty.encs_map]
  | succ k ih =>
    intro i rs hrs hk
    refine W_go (Y := (Tab.calls [])) xok (TabOk.calls mixed trivial) Tryz.func112 rfl 2000 _ hI ?_; (conv => arg 4; cbv)
    have hp := pad_length tI64.enc [.sc (.int .i64 0)] l i (by omega)
    repeat' ((first | ((with_reducible refine on_eqs ?_ ?_); (focus (with_reducible rfl))) | (with_reducible refine on_both ?_ ?_) | (with_reducible refine on_true (by assumption) ?_) | (with_reducible refine on_false (by assumption) ?_) | (with_reducible refine on_ask (fun g => ?_) (fun g => ?_) <;> (have h := g) <;> (try simp (disch := omega) [hI, hes, hrs, hn, -List.length_eq_zero_iff] at h) <;> (try (exfalso; omega))) | ((with_reducible refine on_must ?_ ?_); (focus (simp (disch := omega) [hI, hes, hrs, hn] <;> exact mt)))) <;> (conv => arg 4; cbv))
    (with_reducible refine on_loop ?_); simp only [List.cons_append, List.nil_append]; refine W_norm [0, 3, 4] ?_ (ih (i + 1) _ rfl (by omega)); (conv => lhs; cbv)
    rw [← pad_set tI64.enc [.sc (.int .i64 0)] l i (by omega) _ rfl]
    simp (disch := omega) [hI, hes, hrs, hn, *]
    try rfl
theorem ok112 (l : List Int) (hl : l.length ≤ 1048576) : Ok0 Tryz.prog 112 [(pL tI64).enc l] (.one (.arr 0 0 (real.len (tI64.encs l)))) [(0, .row 1 (tI64.encs l))] 1 := by
  obtain ⟨I, hI⟩ : ∃ I, I = real := ⟨_, rfl⟩
  have hrs : True := trivial
  have hn : True := trivial
  obtain ⟨es, hes⟩ : ∃ es, es = tI64.encs l := ⟨_, rfl⟩
  rw [tI64.len_encs]
  show Ok0 Tryz.prog 112 [.one (.pv (.sl false 1 (tI64.encs l)))] _ [(0, .row 1 (tI64.encs l))] 1
  refine RAVs_nothing (l' := [.one (.pv (.sl false 1 es))]) ?_ (fun h => by rw [hes]; exact h)
  refine Ok0_run (Y := (Tab.calls [])) xok (TabOk.calls mixed trivial) Tryz.func112 rfl rfl rfl 2000 hI fun w Xs => ?_; (conv => arg 4; cbv)
  repeat' ((first | ((with_reducible refine on_eqs ?_ ?_); (focus (with_reducible rfl))) | (with_reducible refine on_both ?_ ?_) | (with_reducible refine on_true (by assumption) ?_) | (with_reducible refine on_false (by assumption) ?_) | (with_reducible refine on_ask (fun g => ?_) (fun g => ?_) <;> (have h := g) <;> (try simp (disch := omega) [hI, hes, hrs, hn, -List.length_eq_zero_iff] at h) <;> (try (exfalso; omega))) | ((with_reducible refine on_must ?_ ?_); (focus (simp (disch := omega) [hI, hes, hrs, hn] <;> exact mt)))) <;> (conv => arg 4; cbv))
  (with_reducible refine on_loop ?_); simp only [List.cons_append, List.nil_append]; refine W_norm [0, 3, 4] ?_ (L112 l hl es hes l.length rfl l.length 0 _ rfl rfl); (conv => lhs; cbv)
  rw [← pad_zero tI64.enc [.sc (.int .i64 0)] l l.length rfl]
  simp (disch := omega) [hI, hes, hrs, hn, *]
theorem s112 {I : Ops} (hI : I = real) {e : En} (he : e = en112) : Sound Tryz.prog 112 (callE I e sh112) := by
  refine Sound.mkE ent112 hI (fun _ => rfl) ?_ he
  rintro ⟨l, ⟨⟩⟩ hp
  exact ok112 l (of_decide_eq_true hp)
theorem tCount_owns : ∀ l, mapE tCount_own l = tCount.encs l
  | [] => rfl
  | a :: l => by show _ :: mapE tCount_own l = _ :: tCount.encs l; rw [tCount_owns l]; rfl
@[simp] theorem pO_Count (l : List CountV) : (pO tCount).dec (.one (.pv (.sl true 3 (tCount.encs l)))) = some l := by rw [← tCount_owns]; exact pO_dec tCount l
theorem ent147 : Enters Tryz.prog 147 := ⟨Tryz.f147, Tryz.func147, by kernel_rfl, by kernel_rfl⟩
theorem s147 {I : Ops} (hI : I = real)  : Sound Tryz.prog 147 (inl X I (Tab.calls []) Tryz.f147) :=
  Sound.inl (Y := (Tab.calls [])) xok (TabOk.calls mixed trivial) ent147 Tryz.func147 rfl rfl hI
def an113 : An (List CountV × Unit) where
  pre t := decide (t.1.length ≤ 1048576)
  l _ t := tCount.encs t.1
noncomputable def en113 : En := mkE (parsC (pL tCount) pars0) an113
attribute [simp] en113 an113
def sh113 : Shp := fun I i b l s => .ok (.one (.arr 0 0 (I.len (l 0))), [(0, .row 3 (l 0))], 1)
theorem ent113 : Enters Tryz.prog 113 := ⟨Tryz.f113, Tryz.func113, by kernel_rfl, by kernel_rfl⟩
noncomputable def Y113 (I : Ops) : CallsA := (Tab.calls [(147, true, callRd I (inl X I (Tab.calls []) Tryz.f147))])
theorem tY113 {I : Ops} (hI : I = real)  : CallsOk Tryz.prog (Y113 I) := (TabOk.calls mixed ⟨EntryOk.rd (s147 hI) hI, fun _ => callRd_quiet _ _, trivial⟩)
theorem L113 {w : World} {Xs : Nat → Prop} (l : List CountV) (hl : l.length ≤ 1048576) (es : List (List PV)) (hes : es = tCount.encs l) (n : Nat) (hn : n = l.length) :
    ∀ (k i : Nat) (rs : List (List PV)), rs = pad tCount.enc [.sc (.int .i64 0), .sc (.int .i64 0), .sc (.int .i64 0)] l i → k + i = l.length → W Tryz.prog 113 Tryz.f113 (Ent0 w Xs) (Back (Ent0 w Xs) (.one (.arr 0 0 l.length)) [(0, .row 3 (tCount.encs l))] 1) (place (bodyOf Tryz.f113) [1,1,0,1,0,0] [])
      ⟨[(0, .one (.pv (.sl false 3 es))), (3, .one (.arr 0 0 n)), (4, .one (.pv (.sc (.int .i64 i))))], [(0, .row 3 rs)], 1⟩ := by
  obtain ⟨I, hI⟩ : ∃ I, I = real := ⟨_, rfl⟩
  intro k
  induction k with
  | zero =>
    intro i rs hrs hk
    refine W_go (Y := (Y113 I)) xok (tY113 hI) Tryz.func113 rfl 2000 _ hI ?_; (conv => arg 4; cbv)
    repeat' ((first | ((with_reducible refine on_eqs ?_ ?_); (focus (with_reducible rfl))) | (with_reducible refine on_both ?_ ?_) | (with_reducible refine on_true (by assumption) ?_) | (with_reducible refine on_false (by assumption) ?_) | (with_reducible refine on_ask (fun g => ?_) (fun g => ?_) <;> (have h := g) <;> (try simp (disch := omega) [hI, hes, hrs, hn, -List.length_eq_zero_iff] at h) <;> (try (exfalso; omega))) | ((with_reducible refine on_must ?_ ?_); (focus (simp (disch := omega) [hI, hes, hrs, hn] <;> exact mt)))) <;> (conv => arg 4; cbv))
    (with_reducible refine on_ret ?_); refine Ended_of rfl ?_; (conv => lhs; cbv)
    rw [hrs, hn, pad_done _ _ _ _ (by omega), mapE_map, Ty.encs_map]
  | succ k ih =>
    intro i rs hrs hk
    refine W_go (Y := (Y113 I)) xok (tY113 hI) Tryz.func113 rfl 2000 _ hI ?_; (conv => arg 4; cbv)
    have hp := pad_length tCount.enc [.sc (.int .i64 0), .sc (.int .i64 0), .sc (.int .i64 0)] l i (by omega)
    repeat' ((first | ((with_reducible refine on_eqs ?_ ?_); (focus (with_reducible rfl))) | (with_reducible refine on_both ?_ ?_) | (with_reducible refine on_true (by assumption) ?_) | (with_reducible refine on_false (by assumption) ?_) | (with_reducible refine on_ask (fun g => ?_) (fun g => ?_) <;> (have h := g) <;> (try simp (disch := omega) [hI, hes, hrs, hn, -List.length_eq_zero_iff] at h) <;> (try (exfalso; omega))) | ((with_reducible refine on_must ?_ ?_); (focus (simp (disch := omega) [hI, hes, hrs, hn] <;> exact mt)))) <;> (conv => arg 4; cbv))
    (with_reducible refine on_loop ?_); simp only [List.cons_append, List.nil_append]; refine W_norm [0, 3, 4] ?_ (ih (i + 1) _ rfl (by omega)); (conv => lhs; cbv)
    rw [← pad_set tCount.enc [.sc (.int .i64 0), .sc (.int .i64 0), .sc (.int .i64 0)] l i (by omega) _ rfl]
    simp (disch := omega) [hI, hes, hrs, hn, *]
    try rfl
theorem ok113 (l : List CountV) (hl : l.length ≤ 1048576) : Ok0 Tryz.prog 113 [(pL tCount).enc l] (.one (.arr 0 0 (real.len (tCount.encs l)))) [(0, .row 3 (tCount.encs l))] 1 := by
  obtain ⟨I, hI⟩ : ∃ I, I = real := ⟨_, rfl⟩
  have hrs : True := trivial
  have hn : True := trivial
  obtain ⟨es, hes⟩ : ∃ es, es = tCount.encs l := ⟨_, rfl⟩
  rw [tCount.len_encs]
  show Ok0 Tryz.prog 113 [.one (.pv (.sl false 3 (tCount.encs l)))] _ [(0, .row 3 (tCount.encs l))] 1
  refine RAVs_nothing (l' := [.one (.pv (.sl false 3 es))]) ?_ (fun h => by rw [hes]; exact h)
  refine Ok0_run (Y := (Y113 I)) xok (tY113 hI) Tryz.func113 rfl rfl rfl 2000 hI fun w Xs => ?_; (conv => arg 4; cbv)
  repeat' ((first | ((with_reducible refine on_eqs ?_ ?_); (focus (with_reducible rfl))) | (with_reducible refine on_both ?_ ?_) | (with_reducible refine on_true (by assumption) ?_) | (with_reducible refine on_false (by assumption) ?_) | (with_reducible refine on_ask (fun g => ?_) (fun g => ?_) <;> (have h := g) <;> (try simp (disch := omega) [hI, hes, hrs, hn, -List.length_eq_zero_iff] at h) <;> (try (exfalso; omega))) | ((with_reducible refine on_must ?_ ?_); (focus (simp (disch := omega) [hI, hes, hrs, hn] <;> exact mt)))) <;> (conv => arg 4; cbv))
  (with_reducible refine on_loop ?_); simp only [List.cons_append, List.nil_append]; refine W_norm [0, 3, 4] ?_ (L113 l hl es hes l.length rfl l.length 0 _ rfl rfl); (conv => lhs; cbv)
  rw [← pad_zero tCount.enc [.sc (.int .i64 0), .sc (.int .i64 0), .sc (.int .i64 0)] l l.length rfl]
  simp (disch := omega) [hI, hes, hrs, hn, *]
theorem s113 {I : Ops} (hI : I = real) {e : En} (he : e = en113) : Sound Tryz.prog 113 (callE I e sh113) := by
  refine Sound.mkE ent113 hI (fun _ => rfl) ?_ he
  rintro ⟨l, ⟨⟩⟩ hp
  exact ok113 l (of_decide_eq_true hp)
theorem ent169 : Enters Tryz.prog 169 := ⟨Tryz.f169, Tryz.func169, by kernel_rfl, by kernel_rfl⟩
noncomputable def Y169 (I : Ops) (K : FuncId → En) : CallsA := (Tab.calls [(112, false, callIce I (callE I (K 112) sh112))])
theorem tY169 {I : Ops} (hI : I = real) {K : FuncId → En} (k112 : K 112 = en112) : CallsOk Tryz.prog (Y169 I K) := (TabOk.calls mixed ⟨EntryOk.own (s112 hI k112) hI, notQuiet, trivial⟩)
theorem s169 {I : Ops} (hI : I = real) {K : FuncId → En} (k112 : K 112 = en112) : Sound Tryz.prog 169 (inl X I (Y169 I K) Tryz.f169) :=
  Sound.inl (Y := (Y169 I K)) xok (tY169 hI k112) ent169 Tryz.func169 rfl rfl hI
def an150 : An (List EntryV × Unit) where
  pre t := bEntryS t.1
  l _ t := mapE tEntry_own t.1
noncomputable def en150 : En := mkE (parsC (pL tEntry) pars0) an150
attribute [simp] en150 an150
def sh150 : Shp := fun I i b l s => .ok (.one (.arr 0 0 (I.len (l 0))), [(0, .row 2 (l 0))], 1)
theorem ent150 : Enters Tryz.prog 150 := ⟨Tryz.f150, Tryz.func150, by kernel_rfl, by kernel_rfl⟩
noncomputable def Y150 (I : Ops) (K : FuncId → En) : CallsA := (Tab.calls [(169, false, callIce I (inl X I (Y169 I K) Tryz.f169))])
theorem tY150 {I : Ops} (hI : I = real) {K : FuncId → En} (k112 : K 112 = en112) : CallsOk Tryz.prog (Y150 I K) := (TabOk.calls mixed ⟨EntryOk.own (s169 hI k112) hI, notQuiet, trivial⟩)
theorem L150 {w : World} {Xs : Nat → Prop} (l : List EntryV) (hl : l.length ≤ 1048576) (hb : bEntryS l = true) (es : List (List PV)) (hes : es = tEntry.encs l) (n : Nat) (hn : n = l.length) :
    ∀ (k i : Nat) (rs : List (List PV)), rs = pad tEntry_own [.nl, .sc (.int .i64 0)] l i → k + i = l.length → W Tryz.prog 150 Tryz.f150 (Ent0 w Xs) (Back (Ent0 w Xs) (.one (.arr 0 0 l.length)) [(0, .row 2 (mapE tEntry_own l))] 1) (place (bodyOf Tryz.f150) [1,1,0,1,0,0] [])
      ⟨[(0, .one (.pv (.sl false 2 es))), (3, .one (.arr 0 0 n)), (4, .one (.pv (.sc (.int .i64 i))))], [(0, .row 2 rs)], 1⟩ := by
  obtain ⟨I, hI⟩ : ∃ I, I = real := ⟨_, rfl⟩; obtain ⟨K, k112⟩ : ∃ K : FuncId → En, K 112 = en112 := ⟨fun g => (lk g [(112, en112)]).getD default, rfl⟩
  intro k
  induction k with
  | zero =>
    intro i rs hrs hk
    refine W_go (Y := (Y150 I K)) xok (tY150 hI k112) Tryz.func150 rfl 2000 _ hI ?_; (conv => arg 4; cbv)
    repeat' ((first | ((with_reducible refine on_eqs ?_ ?_); (focus (with_reducible rfl))) | (with_reducible refine on_both ?_ ?_) | (with_reducible refine on_true (by assumption) ?_) | (with_reducible refine on_false (by assumption) ?_) | (with_reducible refine on_ask (fun g => ?_) (fun g => ?_) <;> (have h := g) <;> (try simp (disch := omega) [hI, k112, en112, an112, hes, hrs, hn, -List.length_eq_zero_iff] at h) <;> (try (exfalso; omega))) | ((with_reducible refine on_must ?_ ?_); (focus (simp (disch := omega) [hI, k112, en112, an112, hes, hrs, hn] <;> exact mt)))) <;> (conv => arg 4; cbv))
    (with_reducible refine on_ret ?_); refine Ended_of rfl ?_; (conv => lhs; cbv)
    rw [hrs, hn, pad_done _ _ _ _ (by omega)]
  | succ k ih =>
    intro i rs hrs hk
    refine W_go (Y := (Y150 I K)) xok (tY150 hI k112) Tryz.func150 rfl 2000 _ hI ?_; (conv => arg 4; cbv)
    have hp := pad_length tEntry_own [.nl, .sc (.int .i64 0)] l i (by omega)
    have hx := bEntryS_nth hb (i := i) (by omega)
    have x0 := bEntry_p hx
    have y0 := bI_len x0
    repeat' ((first | ((with_reducible refine on_eqs ?_ ?_); (focus (with_reducible rfl))) | (with_reducible refine on_both ?_ ?_) | (with_reducible refine on_true (by assumption) ?_) | (with_reducible refine on_false (by assumption) ?_) | (with_reducible refine on_ask (fun g => ?_) (fun g => ?_) <;> (have h := g) <;> (try simp (disch := omega) [hI, k112, en112, an112, hes, hrs, hn, -List.length_eq_zero_iff] at h) <;> (try (exfalso; omega))) | ((with_reducible refine on_must ?_ ?_); (focus (simp (disch := omega) [hI, k112, en112, an112, hes, hrs, hn] <;> exact mt)))) <;> (conv => arg 4; cbv))
    (with_reducible refine on_loop ?_); simp only [List.cons_append, List.nil_append]; refine W_norm [0, 3, 4] ?_ (ih (i + 1) _ rfl (by omega)); (conv => lhs; cbv)
    rw [← pad_set tEntry_own [.nl, .sc (.int .i64 0)] l i (by omega) _ rfl]
    clear ih
    simp (disch := omega) [hI, k112, en112, an112, hes, hrs, hn, hrs, hes, hn, tEntry_own]
    try rfl
theorem ok150 (l : List EntryV) (hb : bEntryS l = true) : Ok0 Tryz.prog 150 [(pL tEntry).enc l] (.one (.arr 0 0 (real.len (mapE tEntry_own l)))) [(0, .row 2 (mapE tEntry_own l))] 1 := by
  obtain ⟨I, hI⟩ : ∃ I, I = real := ⟨_, rfl⟩; obtain ⟨K, k112⟩ : ∃ K : FuncId → En, K 112 = en112 := ⟨fun g => (lk g [(112, en112)]).getD default, rfl⟩
  have hl := bEntryS_len hb
  have hrs : True := trivial
  have hn : True := trivial
  obtain ⟨es, hes⟩ : ∃ es, es = tEntry.encs l := ⟨_, rfl⟩
  rw [r_len, mapE_length]
  show Ok0 Tryz.prog 150 [.one (.pv (.sl false 2 (tEntry.encs l)))] _ _ 1
  rw [← hes]
  refine Ok0_run (Y := (Y150 I K)) xok (tY150 hI k112) Tryz.func150 rfl rfl rfl 2000 hI fun w Xs => ?_; (conv => arg 4; cbv)
  repeat' ((first | ((with_reducible refine on_eqs ?_ ?_); (focus (with_reducible rfl))) | (with_reducible refine on_both ?_ ?_) | (with_reducible refine on_true (by assumption) ?_) | (with_reducible refine on_false (by assumption) ?_) | (with_reducible refine on_ask (fun g => ?_) (fun g => ?_) <;> (have h := g) <;> (try simp (disch := omega) [hI, k112, en112, an112, hes, hrs, hn, -List.length_eq_zero_iff] at h) <;> (try (exfalso; omega))) | ((with_reducible refine on_must ?_ ?_); (focus (simp (disch := omega) [hI, k112, en112, an112, hes, hrs, hn] <;> exact mt)))) <;> (conv => arg 4; cbv))
  (with_reducible refine on_loop ?_); simp only [List.cons_append, List.nil_append]; refine W_norm [0, 3, 4] ?_ (L150 l hl hb es hes l.length rfl l.length 0 _ rfl rfl); (conv => lhs; cbv)
  rw [← pad_zero tEntry_own [.nl, .sc (.int .i64 0)] l l.length rfl]
  simp (disch := omega) [hI, k112, en112, an112, hes, hrs, hn, *]
theorem s150 {I : Ops} (hI : I = real) {e : En} (he : e = en150) : Sound Tryz.prog 150 (callE I e sh150) := by
  refine Sound.mkE ent150 hI (fun _ => rfl) ?_ he
  rintro ⟨l, ⟨⟩⟩ hp
  exact ok150 l hp
theorem ent78 : Enters Tryz.prog 78 := ⟨Tryz.f78, Tryz.func78, by kernel_rfl, by kernel_rfl⟩
noncomputable def Y78 (I : Ops) (K : FuncId → En) : CallsA := (Tab.calls [(112, false, callIce I (callE I (K 112) sh112))])
theorem tY78 {I : Ops} (hI : I = real) {K : FuncId → En} (k112 : K 112 = en112) : CallsOk Tryz.prog (Y78 I K) := (TabOk.calls mixed ⟨EntryOk.own (s112 hI k112) hI, notQuiet, trivial⟩)
theorem s78 {I : Ops} (hI : I = real) {K : FuncId → En} (k112 : K 112 = en112) : Sound Tryz.prog 78 (inl X I (Y78 I K) Tryz.f78) :=
  Sound.inl (Y := (Y78 I K)) xok (tY78 hI k112) ent78 Tryz.func78 rfl rfl hI
def an43 : An (List NodeV × Unit) where
  pre t := bNodeS t.1
  l _ t := mapE tNode_own t.1
noncomputable def en43 : En := mkE (parsC (pL tNode) pars0) an43
attribute [simp] en43 an43
def sh43 : Shp := fun I i b l s => .ok (.one (.arr 0 0 (I.len (l 0))), [(0, .row 7 (l 0))], 1)
theorem ent43 : Enters Tryz.prog 43 := ⟨Tryz.f43, Tryz.func43, by kernel_rfl, by kernel_rfl⟩
noncomputable def Y43 (I : Ops) (K : FuncId → En) : CallsA := (Tab.calls [(78, false, callIce I (inl X I (Y78 I K) Tryz.f78))])
theorem tY43 {I : Ops} (hI : I = real) {K : FuncId → En} (k112 : K 112 = en112) : CallsOk Tryz.prog (Y43 I K) := (TabOk.calls mixed ⟨EntryOk.own (s78 hI k112) hI, notQuiet, trivial⟩)
theorem L43 {w : World} {Xs : Nat → Prop} (l : List NodeV) (hl : l.length ≤ 1048576) (hb : bNodeS l = true) (es : List (List PV)) (hes : es = tNode.encs l) (n : Nat) (hn : n = l.length) :
    ∀ (k i : Nat) (rs : List (List PV)), rs = pad tNode_own [.sc (.int .i64 0), .sc (.int .i64 0), .sc (.int .i64 0), .sc (.int .i64 0), .sc (.int .i64 0), .sc (.int .i64 0), .nl] l i → k + i = l.length → W Tryz.prog 43 Tryz.f43 (Ent0 w Xs) (Back (Ent0 w Xs) (.one (.arr 0 0 l.length)) [(0, .row 7 (mapE tNode_own l))] 1) (place (bodyOf Tryz.f43) [1,1,0,1,0,0] [])
      ⟨[(0, .one (.pv (.sl false 7 es))), (3, .one (.arr 0 0 n)), (4, .one (.pv (.sc (.int .i64 i))))], [(0, .row 7 rs)], 1⟩ := by
  obtain ⟨I, hI⟩ : ∃ I, I = real := ⟨_, rfl⟩; obtain ⟨K, k112⟩ : ∃ K : FuncId → En, K 112 = en112 := ⟨fun g => (lk g [(112, en112)]).getD default, rfl⟩
  intro k
  induction k with
  | zero =>
    intro i rs hrs hk
    refine W_go (Y := (Y43 I K)) xok (tY43 hI k112) Tryz.func43 rfl 2000 _ hI ?_; (conv => arg 4; cbv)
    repeat' ((first | ((with_reducible refine on_eqs ?_ ?_); (focus (with_reducible rfl))) | (with_reducible refine on_both ?_ ?_) | (with_reducible refine on_true (by assumption) ?_) | (with_reducible refine on_false (by assumption) ?_) | (with_reducible refine on_ask (fun g => ?_) (fun g => ?_) <;> (have h := g) <;> (try simp (disch := omega) [hI, k112, en112, an112, hes, hrs, hn, -List.length_eq_zero_iff] at h) <;> (try (exfalso; omega))) | ((with_reducible refine on_must ?_ ?_); (focus (simp (disch := omega) [hI, k112, en112, an112, hes, hrs, hn] <;> exact mt)))) <;> (conv => arg 4; cbv))
    (with_reducible refine on_ret ?_); refine Ended_of rfl ?_; (conv => lhs; cbv)
    rw [hrs, hn, pad_done _ _ _ _ (by omega)]
  | succ k ih =>
    intro i rs hrs hk
    refine W_go (Y := (Y43 I K)) xok (tY43 hI k112) Tryz.func43 rfl 2000 _ hI ?_; (conv => arg 4; cbv)
    have hp := pad_length tNode_own [.sc (.int .i64 0), .sc (.int .i64 0), .sc (.int .i64 0), .sc (.int .i64 0), .sc (.int .i64 0), .sc (.int .i64 0), .nl] l i (by omega)
    have hx := bNodeS_nth hb (i := i) (by omega)
    have x0 := bNode_p hx
    have y0 := bI_len x0
    repeat' ((first | ((with_reducible refine on_eqs ?_ ?_); (focus (with_reducible rfl))) | (with_reducible refine on_both ?_ ?_) | (with_reducible refine on_true (by assumption) ?_) | (with_reducible refine on_false (by assumption) ?_) | (with_reducible refine on_ask (fun g => ?_) (fun g => ?_) <;> (have h := g) <;> (try simp (disch := omega) [hI, k112, en112, an112, hes, hrs, hn, -List.length_eq_zero_iff] at h) <;> (try (exfalso; omega))) | ((with_reducible refine on_must ?_ ?_); (focus (simp (disch := omega) [hI, k112, en112, an112, hes, hrs, hn] <;> exact mt)))) <;> (conv => arg 4; cbv))
    (with_reducible refine on_loop ?_); simp only [List.cons_append, List.nil_append]; refine W_norm [0, 3, 4] ?_ (ih (i + 1) _ rfl (by omega)); (conv => lhs; cbv)
    rw [← pad_set tNode_own [.sc (.int .i64 0), .sc (.int .i64 0), .sc (.int .i64 0), .sc (.int .i64 0), .sc (.int .i64 0), .sc (.int .i64 0), .nl] l i (by omega) _ rfl]
    clear ih
    simp (disch := omega) [hI, k112, en112, an112, hes, hrs, hn, hrs, hes, hn, tNode_own]
    try rfl
theorem ok43 (l : List NodeV) (hb : bNodeS l = true) : Ok0 Tryz.prog 43 [(pL tNode).enc l] (.one (.arr 0 0 (real.len (mapE tNode_own l)))) [(0, .row 7 (mapE tNode_own l))] 1 := by
  obtain ⟨I, hI⟩ : ∃ I, I = real := ⟨_, rfl⟩; obtain ⟨K, k112⟩ : ∃ K : FuncId → En, K 112 = en112 := ⟨fun g => (lk g [(112, en112)]).getD default, rfl⟩
  have hl := bNodeS_len hb
  have hrs : True := trivial
  have hn : True := trivial
  obtain ⟨es, hes⟩ : ∃ es, es = tNode.encs l := ⟨_, rfl⟩
  rw [r_len, mapE_length]
  show Ok0 Tryz.prog 43 [.one (.pv (.sl false 7 (tNode.encs l)))] _ _ 1
  rw [← hes]
  refine Ok0_run (Y := (Y43 I K)) xok (tY43 hI k112) Tryz.func43 rfl rfl rfl 2000 hI fun w Xs => ?_; (conv => arg 4; cbv)
  repeat' ((first | ((with_reducible refine on_eqs ?_ ?_); (focus (with_reducible rfl))) | (with_reducible refine on_both ?_ ?_) | (with_reducible refine on_true (by assumption) ?_) | (with_reducible refine on_false (by assumption) ?_) | (with_reducible refine on_ask (fun g => ?_) (fun g => ?_) <;> (have h := g) <;> (try simp (disch := omega) [hI, k112, en112, an112, hes, hrs, hn, -List.length_eq_zero_iff] at h) <;> (try (exfalso; omega))) | ((with_reducible refine on_must ?_ ?_); (focus (simp (disch := omega) [hI, k112, en112, an112, hes, hrs, hn] <;> exact mt)))) <;> (conv => arg 4; cbv))
  (with_reducible refine on_loop ?_); simp only [List.cons_append, List.nil_append]; refine W_norm [0, 3, 4] ?_ (L43 l hl hb es hes l.length rfl l.length 0 _ rfl rfl); (conv => lhs; cbv)
  rw [← pad_zero tNode_own [.sc (.int .i64 0), .sc (.int .i64 0), .sc (.int .i64 0), .sc (.int .i64 0), .sc (.int .i64 0), .sc (.int .i64 0), .nl] l l.length rfl]
  simp (disch := omega) [hI, k112, en112, an112, hes, hrs, hn, *]
theorem s43 {I : Ops} (hI : I = real) {e : En} (he : e = en43) : Sound Tryz.prog 43 (callE I e sh43) := by
  refine Sound.mkE ent43 hI (fun _ => rfl) ?_ he
  rintro ⟨l, ⟨⟩⟩ hp
  exact ok43 l hp
theorem ent180 : Enters Tryz.prog 180 := ⟨Tryz.f180, Tryz.func180, by kernel_rfl, by kernel_rfl⟩
noncomputable def Y180 (I : Ops) (K : FuncId → En) : CallsA := (Tab.calls [(150, false, callIce I (callE I (K 150) sh150))])
theorem tY180 {I : Ops} (hI : I = real) {K : FuncId → En} (k150 : K 150 = en150) : CallsOk Tryz.prog (Y180 I K) := (TabOk.calls mixed ⟨EntryOk.own (s150 hI k150) hI, notQuiet, trivial⟩)
theorem s180 {I : Ops} (hI : I = real) {K : FuncId → En} (k150 : K 150 = en150) : Sound Tryz.prog 180 (inl X I (Y180 I K) Tryz.f180) :=
  Sound.inl (Y := (Y180 I K)) xok (tY180 hI k150) ent180 Tryz.func180 rfl rfl hI
def an168 : An (List BatchV × Unit) where
  pre t := bBatchS t.1
  l _ t := mapE tBatch_own t.1
noncomputable def en168 : En := mkE (parsC (pL tBatch) pars0) an168
attribute [simp] en168 an168
def sh168 : Shp := fun I i b l s => .ok (.one (.arr 0 0 (I.len (l 0))), [(0, .row 3 (l 0))], 1)
theorem ent168 : Enters Tryz.prog 168 := ⟨Tryz.f168, Tryz.func168, by kernel_rfl, by kernel_rfl⟩
noncomputable def Y168 (I : Ops) (K : FuncId → En) : CallsA := (Tab.calls [(180, false, callIce I (inl X I (Y180 I K) Tryz.f180))])
theorem tY168 {I : Ops} (hI : I = real) {K : FuncId → En} (k150 : K 150 = en150) : CallsOk Tryz.prog (Y168 I K) := (TabOk.calls mixed ⟨EntryOk.own (s180 hI k150) hI, notQuiet, trivial⟩)
theorem L168 {w : World} {Xs : Nat → Prop} (l : List BatchV) (hl : l.length ≤ 1048576) (hb : bBatchS l = true) (es : List (List PV)) (hes : es = tBatch.encs l) (n : Nat) (hn : n = l.length) :
    ∀ (k i : Nat) (rs : List (List PV)), rs = pad tBatch_own [.sc (.int .i64 0), .sc (.int .i64 0), .nl] l i → k + i = l.length → W Tryz.prog 168 Tryz.f168 (Ent0 w Xs) (Back (Ent0 w Xs) (.one (.arr 0 0 l.length)) [(0, .row 3 (mapE tBatch_own l))] 1) (place (bodyOf Tryz.f168) [1,1,0,1,0,0] [])
      ⟨[(0, .one (.pv (.sl false 3 es))), (3, .one (.arr 0 0 n)), (4, .one (.pv (.sc (.int .i64 i))))], [(0, .row 3 rs)], 1⟩ := by
  obtain ⟨I, hI⟩ : ∃ I, I = real := ⟨_, rfl⟩; obtain ⟨K, k150⟩ : ∃ K : FuncId → En, K 150 = en150 := ⟨fun g => (lk g [(150, en150)]).getD default, rfl⟩
  intro k
  induction k with
  | zero =>
    intro i rs hrs hk
    refine W_go (Y := (Y168 I K)) xok (tY168 hI k150) Tryz.func168 rfl 2000 _ hI ?_; (conv => arg 4; cbv)
    repeat' ((first | ((with_reducible refine on_eqs ?_ ?_); (focus (with_reducible rfl))) | (with_reducible refine on_both ?_ ?_) | (with_reducible refine on_true (by assumption) ?_) | (with_reducible refine on_false (by assumption) ?_) | (with_reducible refine on_ask (fun g => ?_) (fun g => ?_) <;> (have h := g) <;> (try simp (disch := omega) [hI, k150, en150, an150, hes, hrs, hn, -List.length_eq_zero_iff] at h) <;> (try (exfalso; omega))) | ((with_reducible refine on_must ?_ ?_); (focus (simp (disch := omega) [hI, k150, en150, an150, hes, hrs, hn] <;> exact mt)))) <;> (conv => arg 4; cbv))
    (with_reducible refine on_ret ?_); refine Ended_of rfl ?_; (conv => lhs; cbv)
    rw [hrs, hn, pad_done _ _ _ _ (by omega)]
  | succ k ih =>
    intro i rs hrs hk
    refine W_go (Y := (Y168 I K)) xok (tY168 hI k150) Tryz.func168 rfl 2000 _ hI ?_; (conv => arg 4; cbv)
    have hp := pad_length tBatch_own [.sc (.int .i64 0), .sc (.int .i64 0), .nl] l i (by omega)
    have hx := bBatchS_nth hb (i := i) (by omega)
    have x0 := bBatch_p hx
    have y0 := bEntryS_len x0
    repeat' ((first | ((with_reducible refine on_eqs ?_ ?_); (focus (with_reducible rfl))) | (with_reducible refine on_both ?_ ?_) | (with_reducible refine on_true (by assumption) ?_) | (with_reducible refine on_false (by assumption) ?_) | (with_reducible refine on_ask (fun g => ?_) (fun g => ?_) <;> (have h := g) <;> (try simp (disch := omega) [hI, k150, en150, an150, hes, hrs, hn, -List.length_eq_zero_iff] at h) <;> (try (exfalso; omega))) | ((with_reducible refine on_must ?_ ?_); (focus (simp (disch := omega) [hI, k150, en150, an150, hes, hrs, hn] <;> exact mt)))) <;> (conv => arg 4; cbv))
    (with_reducible refine on_loop ?_); simp only [List.cons_append, List.nil_append]; refine W_norm [0, 3, 4] ?_ (ih (i + 1) _ rfl (by omega)); (conv => lhs; cbv)
    rw [← pad_set tBatch_own [.sc (.int .i64 0), .sc (.int .i64 0), .nl] l i (by omega) _ rfl]
    clear ih
    simp (disch := omega) [hI, k150, en150, an150, hes, hrs, hn, hrs, hes, hn, tBatch_own]
    try rfl
theorem ok168 (l : List BatchV) (hb : bBatchS l = true) : Ok0 Tryz.prog 168 [(pL tBatch).enc l] (.one (.arr 0 0 (real.len (mapE tBatch_own l)))) [(0, .row 3 (mapE tBatch_own l))] 1 := by
  obtain ⟨I, hI⟩ : ∃ I, I = real := ⟨_, rfl⟩; obtain ⟨K, k150⟩ : ∃ K : FuncId → En, K 150 = en150 := ⟨fun g => (lk g [(150, en150)]).getD default, rfl⟩
  have hl := bBatchS_len hb
  have hrs : True := trivial
  have hn : True := trivial
  obtain ⟨es, hes⟩ : ∃ es, es = tBatch.encs l := ⟨_, rfl⟩
  rw [r_len, mapE_length]
  show Ok0 Tryz.prog 168 [.one (.pv (.sl false 3 (tBatch.encs l)))] _ _ 1
  rw [← hes]
  refine Ok0_run (Y := (Y168 I K)) xok (tY168 hI k150) Tryz.func168 rfl rfl rfl 2000 hI fun w Xs => ?_; (conv => arg 4; cbv)
  repeat' ((first | ((with_reducible refine on_eqs ?_ ?_); (focus (with_reducible rfl))) | (with_reducible refine on_both ?_ ?_) | (with_reducible refine on_true (by assumption) ?_) | (with_reducible refine on_false (by assumption) ?_) | (with_reducible refine on_ask (fun g => ?_) (fun g => ?_) <;> (have h := g) <;> (try simp (disch := omega) [hI, k150, en150, an150, hes, hrs, hn, -List.length_eq_zero_iff] at h) <;> (try (exfalso; omega))) | ((with_reducible refine on_must ?_ ?_); (focus (simp (disch := omega) [hI, k150, en150, an150, hes, hrs, hn] <;> exact mt)))) <;> (conv => arg 4; cbv))
  (with_reducible refine on_loop ?_); simp only [List.cons_append, List.nil_append]; refine W_norm [0, 3, 4] ?_ (L168 l hl hb es hes l.length rfl l.length 0 _ rfl rfl); (conv => lhs; cbv)
  rw [← pad_zero tBatch_own [.sc (.int .i64 0), .sc (.int .i64 0), .nl] l l.length rfl]
  simp (disch := omega) [hI, k150, en150, an150, hes, hrs, hn, *]
theorem s168 {I : Ops} (hI : I = real) {e : En} (he : e = en168) : Sound Tryz.prog 168 (callE I e sh168) := by
  refine Sound.mkE ent168 hI (fun _ => rfl) ?_ he
  rintro ⟨l, ⟨⟩⟩ hp
  exact ok168 l hp
end Go.Proofs.Tryz
