/- Contracts. -/
import Derived.Test.YtiieincddkhcdaaGreatBh
set_option linter.unusedSimpArgs false
set_option linter.unusedVariables false
namespace Go.Proofs.Tryz
open Go Go.Aix
set_option maxRecDepth 100000
set_option maxHeartbeats 4000000
theorem ent148 : Enters Tryz.prog 148 := ⟨Tryz.f148, Tryz.func148, by kernel_rfl, by kernel_rfl⟩
noncomputable def Y148 (I : Ops) (K : FuncId → En) : CallsA := (Tab.calls [(150, false, callIce I (callE I (K 150) sh150)), (168, false, callIce I (callE I (K 168) sh168))])
theorem tY148 {I : Ops} (hI : I = real) {K : FuncId → En} (k150 : K 150 = en150) (k168 : K 168 = en168) : CallsOk Tryz.prog (Y148 I K) := (TabOk.calls mixed ⟨EntryOk.own (s150 hI k150) hI, notQuiet, ⟨EntryOk.own (s168 hI k168) hI, notQuiet, trivial⟩⟩)
theorem s148 {I : Ops} (hI : I = real) {K : FuncId → En} (k150 : K 150 = en150) (k168 : K 168 = en168) : Sound Tryz.prog 148 (inl X I (Y148 I K) Tryz.f148) :=
  Sound.inl (Y := (Y148 I K)) xok (tY148 hI k150 k168) ent148 Tryz.func148 rfl rfl hI
def an114 : An (List HeldV × Unit) where
  pre t := bHeldS t.1
  l _ t := mapE tHeld_own t.1
noncomputable def en114 : En := mkE (parsC (pL tHeld) pars0) an114
attribute [simp] en114 an114
def sh114 : Shp := fun I i b l s => .ok (.one (.arr 0 0 (I.len (l 0))), [(0, .row 4 (l 0))], 1)
theorem ent114 : Enters Tryz.prog 114 := ⟨Tryz.f114, Tryz.func114, by kernel_rfl, by kernel_rfl⟩
noncomputable def Y114 (I : Ops) (K : FuncId → En) : CallsA := (Tab.calls [(148, false, callIce I (inl X I (Y148 I K) Tryz.f148))])
theorem tY114 {I : Ops} (hI : I = real) {K : FuncId → En} (k150 : K 150 = en150) (k168 : K 168 = en168) : CallsOk Tryz.prog (Y114 I K) := (TabOk.calls mixed ⟨EntryOk.own (s148 hI k150 k168) hI, notQuiet, trivial⟩)
theorem L114 {w : World} {Xs : Nat → Prop} (l : List HeldV) (hl : l.length ≤ 1048576) (hb : bHeldS l = true) (es : List (List PV)) (hes : es = tHeld.encs l) (n : Nat) (hn : n = l.length) :
    ∀ (k i : Nat) (rs : List (List PV)), rs = pad tHeld_own [.nl, .nl, .nl, .sc (.int .i64 0)] l i → k + i = l.length → W Tryz.prog 114 Tryz.f114 (Ent0 w Xs) (Back (Ent0 w Xs) (.one (.arr 0 0 l.length)) [(0, .row 4 (mapE tHeld_own l))] 1) (place (bodyOf Tryz.f114) [1,1,0,1,0,0] [])
      ⟨[(0, .one (.pv (.sl false 4 es))), (3, .one (.arr 0 0 n)), (4, .one (.pv (.sc (.int .i64 i))))], [(0, .row 4 rs)], 1⟩ := by
  obtain ⟨I, hI⟩ : ∃ I, I = real := ⟨_, rfl⟩; obtain ⟨K, k150, k168⟩ : ∃ K : FuncId → En, K 150 = en150 ∧ K 168 = en168 := ⟨fun g => (lk g [(150, en150), (168, en168)]).getD default, rfl, rfl⟩
  intro k
  induction k with
  | zero =>
    intro i rs hrs hk
    refine W_go (Y := (Y114 I K)) xok (tY114 hI k150 k168) Tryz.func114 rfl 2000 _ hI ?_; (conv => arg 4; cbv)
    repeat' ((first | ((with_reducible refine on_eqs ?_ ?_); (focus (with_reducible rfl))) | (with_reducible refine on_both ?_ ?_) | (with_reducible refine on_true (by assumption) ?_) | (with_reducible refine on_false (by assumption) ?_) | (with_reducible refine on_ask (fun g => ?_) (fun g => ?_) <;> (have h := g) <;> (try simp (disch := omega) [hI, k150, en150, an150, k168, en168, an168, hes, hrs, hn, -List.length_eq_zero_iff] at h) <;> (try (exfalso; omega))) | ((with_reducible refine on_must ?_ ?_); (focus (simp (disch := omega) [hI, k150, en150, an150, k168, en168, an168, hes, hrs, hn] <;> exact mt)))) <;> (conv => arg 4; cbv))
    (with_reducible refine on_ret ?_); refine Ended_of rfl ?_; (conv => lhs; cbv)
    rw [hrs, hn, pad_done _ _ _ _ (by omega)]
  | succ k ih =>
    intro i rs hrs hk
    refine W_go (Y := (Y114 I K)) xok (tY114 hI k150 k168) Tryz.func114 rfl 2000 _ hI ?_; (conv => arg 4; cbv)
    have hp := pad_length tHeld_own [.nl, .nl, .nl, .sc (.int .i64 0)] l i (by omega)
    have hx := bHeldS_nth hb (i := i) (by omega)
    obtain ⟨x0, x1, x2⟩ := bHeld_p hx
    have y0 := bEntryS_len x0
    have y1 := bEntryS_len x1
    have y2 := bBatchS_len x2
    repeat' ((first | ((with_reducible refine on_eqs ?_ ?_); (focus (with_reducible rfl))) | (with_reducible refine on_both ?_ ?_) | (with_reducible refine on_true (by assumption) ?_) | (with_reducible refine on_false (by assumption) ?_) | (with_reducible refine on_ask (fun g => ?_) (fun g => ?_) <;> (have h := g) <;> (try simp (disch := omega) [hI, k150, en150, an150, k168, en168, an168, hes, hrs, hn, -List.length_eq_zero_iff] at h) <;> (try (exfalso; omega))) | ((with_reducible refine on_must ?_ ?_); (focus (simp (disch := omega) [hI, k150, en150, an150, k168, en168, an168, hes, hrs, hn] <;> exact mt)))) <;> (conv => arg 4; cbv))
    (with_reducible refine on_loop ?_); simp only [List.cons_append, List.nil_append]; refine W_norm [0, 3, 4] ?_ (ih (i + 1) _ rfl (by omega)); (conv => lhs; cbv)
    rw [← pad_set tHeld_own [.nl, .nl, .nl, .sc (.int .i64 0)] l i (by omega) _ rfl]
    clear ih
    simp (disch := omega) [hI, k150, en150, an150, k168, en168, an168, hes, hrs, hn, hrs, hes, hn, tHeld_own]
    try rfl
theorem ok114 (l : List HeldV) (hb : bHeldS l = true) : Ok0 Tryz.prog 114 [(pL tHeld).enc l] (.one (.arr 0 0 (real.len (mapE tHeld_own l)))) [(0, .row 4 (mapE tHeld_own l))] 1 := by
  obtain ⟨I, hI⟩ : ∃ I, I = real := ⟨_, rfl⟩; obtain ⟨K, k150, k168⟩ : ∃ K : FuncId → En, K 150 = en150 ∧ K 168 = en168 := ⟨fun g => (lk g [(150, en150), (168, en168)]).getD default, rfl, rfl⟩
  have hl := bHeldS_len hb
  have hrs : True := trivial
  have hn : True := trivial
  obtain ⟨es, hes⟩ : ∃ es, es = tHeld.encs l := ⟨_, rfl⟩
  rw [r_len, mapE_length]
  show Ok0 Tryz.prog 114 [.one (.pv (.sl false 4 (tHeld.encs l)))] _ _ 1
  rw [← hes]
  refine Ok0_run (Y := (Y114 I K)) xok (tY114 hI k150 k168) Tryz.func114 rfl rfl rfl 2000 hI fun w Xs => ?_; (conv => arg 4; cbv)
  repeat' ((first | ((with_reducible refine on_eqs ?_ ?_); (focus (with_reducible rfl))) | (with_reducible refine on_both ?_ ?_) | (with_reducible refine on_true (by assumption) ?_) | (with_reducible refine on_false (by assumption) ?_) | (with_reducible refine on_ask (fun g => ?_) (fun g => ?_) <;> (have h := g) <;> (try simp (disch := omega) [hI, k150, en150, an150, k168, en168, an168, hes, hrs, hn, -List.length_eq_zero_iff] at h) <;> (try (exfalso; omega))) | ((with_reducible refine on_must ?_ ?_); (focus (simp (disch := omega) [hI, k150, en150, an150, k168, en168, an168, hes, hrs, hn] <;> exact mt)))) <;> (conv => arg 4; cbv))
  (with_reducible refine on_loop ?_); simp only [List.cons_append, List.nil_append]; refine W_norm [0, 3, 4] ?_ (L114 l hl hb es hes l.length rfl l.length 0 _ rfl rfl); (conv => lhs; cbv)
  rw [← pad_zero tHeld_own [.nl, .nl, .nl, .sc (.int .i64 0)] l l.length rfl]
  simp (disch := omega) [hI, k150, en150, an150, k168, en168, an168, hes, hrs, hn, *]
theorem s114 {I : Ops} (hI : I = real) {e : En} (he : e = en114) : Sound Tryz.prog 114 (callE I e sh114) := by
  refine Sound.mkE ent114 hI (fun _ => rfl) ?_ he
  rintro ⟨l, ⟨⟩⟩ hp
  exact ok114 l hp
theorem ent149 : Enters Tryz.prog 149 := ⟨Tryz.f149, Tryz.func149, by kernel_rfl, by kernel_rfl⟩
noncomputable def Y149 (I : Ops) (K : FuncId → En) : CallsA := (Tab.calls [(150, false, callIce I (callE I (K 150) sh150))])
theorem tY149 {I : Ops} (hI : I = real) {K : FuncId → En} (k150 : K 150 = en150) : CallsOk Tryz.prog (Y149 I K) := (TabOk.calls mixed ⟨EntryOk.own (s150 hI k150) hI, notQuiet, trivial⟩)
theorem s149 {I : Ops} (hI : I = real) {K : FuncId → En} (k150 : K 150 = en150) : Sound Tryz.prog 149 (inl X I (Y149 I K) Tryz.f149) :=
  Sound.inl (Y := (Y149 I K)) xok (tY149 hI k150) ent149 Tryz.func149 rfl rfl hI
def an115 : An (List ReleaseV × Unit) where
  pre t := bReleaseS t.1
  l _ t := mapE tRelease_own t.1
noncomputable def en115 : En := mkE (parsC (pL tRelease) pars0) an115
attribute [simp] en115 an115
def sh115 : Shp := fun I i b l s => .ok (.one (.arr 0 0 (I.len (l 0))), [(0, .row 3 (l 0))], 1)
theorem ent115 : Enters Tryz.prog 115 := ⟨Tryz.f115, Tryz.func115, by kernel_rfl, by kernel_rfl⟩
noncomputable def Y115 (I : Ops) (K : FuncId → En) : CallsA := (Tab.calls [(149, false, callIce I (inl X I (Y149 I K) Tryz.f149))])
theorem tY115 {I : Ops} (hI : I = real) {K : FuncId → En} (k150 : K 150 = en150) : CallsOk Tryz.prog (Y115 I K) := (TabOk.calls mixed ⟨EntryOk.own (s149 hI k150) hI, notQuiet, trivial⟩)
theorem L115 {w : World} {Xs : Nat → Prop} (l : List ReleaseV) (hl : l.length ≤ 1048576) (hb : bReleaseS l = true) (es : List (List PV)) (hes : es = tRelease.encs l) (n : Nat) (hn : n = l.length) :
    ∀ (k i : Nat) (rs : List (List PV)), rs = pad tRelease_own [.sc (.int .i64 0), .sc (.int .i64 0), .nl] l i → k + i = l.length → W Tryz.prog 115 Tryz.f115 (Ent0 w Xs) (Back (Ent0 w Xs) (.one (.arr 0 0 l.length)) [(0, .row 3 (mapE tRelease_own l))] 1) (place (bodyOf Tryz.f115) [1,1,0,1,0,0] [])
      ⟨[(0, .one (.pv (.sl false 3 es))), (3, .one (.arr 0 0 n)), (4, .one (.pv (.sc (.int .i64 i))))], [(0, .row 3 rs)], 1⟩ := by
  obtain ⟨I, hI⟩ : ∃ I, I = real := ⟨_, rfl⟩; obtain ⟨K, k150⟩ : ∃ K : FuncId → En, K 150 = en150 := ⟨fun g => (lk g [(150, en150)]).getD default, rfl⟩
  intro k
  induction k with
  | zero =>
    intro i rs hrs hk
    refine W_go (Y := (Y115 I K)) xok (tY115 hI k150) Tryz.func115 rfl 2000 _ hI ?_; (conv => arg 4; cbv)
    repeat' ((first | ((with_reducible refine on_eqs ?_ ?_); (focus (with_reducible rfl))) | (with_reducible refine on_both ?_ ?_) | (with_reducible refine on_true (by assumption) ?_) | (with_reducible refine on_false (by assumption) ?_) | (with_reducible refine on_ask (fun g => ?_) (fun g => ?_) <;> (have h := g) <;> (try simp (disch := omega) [hI, k150, en150, an150, hes, hrs, hn, -List.length_eq_zero_iff] at h) <;> (try (exfalso; omega))) | ((with_reducible refine on_must ?_ ?_); (focus (simp (disch := omega) [hI, k150, en150, an150, hes, hrs, hn] <;> exact mt)))) <;> (conv => arg 4; cbv))
    (with_reducible refine on_ret ?_); refine Ended_of rfl ?_; (conv => lhs; cbv)
    rw [hrs, hn, pad_done _ _ _ _ (by omega)]
  | succ k ih =>
    intro i rs hrs hk
    refine W_go (Y := (Y115 I K)) xok (tY115 hI k150) Tryz.func115 rfl 2000 _ hI ?_; (conv => arg 4; cbv)
    have hp := pad_length tRelease_own [.sc (.int .i64 0), .sc (.int .i64 0), .nl] l i (by omega)
    have hx := bReleaseS_nth hb (i := i) (by omega)
    have x0 := bRelease_p hx
    have y0 := bEntryS_len x0
    repeat' ((first | ((with_reducible refine on_eqs ?_ ?_); (focus (with_reducible rfl))) | (with_reducible refine on_both ?_ ?_) | (with_reducible refine on_true (by assumption) ?_) | (with_reducible refine on_false (by assumption) ?_) | (with_reducible refine on_ask (fun g => ?_) (fun g => ?_) <;> (have h := g) <;> (try simp (disch := omega) [hI, k150, en150, an150, hes, hrs, hn, -List.length_eq_zero_iff] at h) <;> (try (exfalso; omega))) | ((with_reducible refine on_must ?_ ?_); (focus (simp (disch := omega) [hI, k150, en150, an150, hes, hrs, hn] <;> exact mt)))) <;> (conv => arg 4; cbv))
    (with_reducible refine on_loop ?_); simp only [List.cons_append, List.nil_append]; refine W_norm [0, 3, 4] ?_ (ih (i + 1) _ rfl (by omega)); (conv => lhs; cbv)
    rw [← pad_set tRelease_own [.sc (.int .i64 0), .sc (.int .i64 0), .nl] l i (by omega) _ rfl]
    clear ih
    simp (disch := omega) [hI, k150, en150, an150, hes, hrs, hn, hrs, hes, hn, tRelease_own]
    try rfl
theorem ok115 (l : List ReleaseV) (hb : bReleaseS l = true) : Ok0 Tryz.prog 115 [(pL tRelease).enc l] (.one (.arr 0 0 (real.len (mapE tRelease_own l)))) [(0, .row 3 (mapE tRelease_own l))] 1 := by
  obtain ⟨I, hI⟩ : ∃ I, I = real := ⟨_, rfl⟩; obtain ⟨K, k150⟩ : ∃ K : FuncId → En, K 150 = en150 := ⟨fun g => (lk g [(150, en150)]).getD default, rfl⟩
  have hl := bReleaseS_len hb
  have hrs : True := trivial
  have hn : True := trivial
  obtain ⟨es, hes⟩ : ∃ es, es = tRelease.encs l := ⟨_, rfl⟩
  rw [r_len, mapE_length]
  show Ok0 Tryz.prog 115 [.one (.pv (.sl false 3 (tRelease.encs l)))] _ _ 1
  rw [← hes]
  refine Ok0_run (Y := (Y115 I K)) xok (tY115 hI k150) Tryz.func115 rfl rfl rfl 2000 hI fun w Xs => ?_; (conv => arg 4; cbv)
  repeat' ((first | ((with_reducible refine on_eqs ?_ ?_); (focus (with_reducible rfl))) | (with_reducible refine on_both ?_ ?_) | (with_reducible refine on_true (by assumption) ?_) | (with_reducible refine on_false (by assumption) ?_) | (with_reducible refine on_ask (fun g => ?_) (fun g => ?_) <;> (have h := g) <;> (try simp (disch := omega) [hI, k150, en150, an150, hes, hrs, hn, -List.length_eq_zero_iff] at h) <;> (try (exfalso; omega))) | ((with_reducible refine on_must ?_ ?_); (focus (simp (disch := omega) [hI, k150, en150, an150, hes, hrs, hn] <;> exact mt)))) <;> (conv => arg 4; cbv))
  (with_reducible refine on_loop ?_); simp only [List.cons_append, List.nil_append]; refine W_norm [0, 3, 4] ?_ (L115 l hl hb es hes l.length rfl l.length 0 _ rfl rfl); (conv => lhs; cbv)
  rw [← pad_zero tRelease_own [.sc (.int .i64 0), .sc (.int .i64 0), .nl] l l.length rfl]
  simp (disch := omega) [hI, k150, en150, an150, hes, hrs, hn, *]
theorem s115 {I : Ops} (hI : I = real) {e : En} (he : e = en115) : Sound Tryz.prog 115 (callE I e sh115) := by
  refine Sound.mkE ent115 hI (fun _ => rfl) ?_ he
  rintro ⟨l, ⟨⟩⟩ hp
  exact ok115 l hp
theorem ent116 : Enters Tryz.prog 116 := ⟨Tryz.f116, Tryz.func116, by kernel_rfl, by kernel_rfl⟩
noncomputable def Y116 (I : Ops) (K : FuncId → En) : CallsA := (Tab.calls [(150, false, callIce I (callE I (K 150) sh150)), (113, false, callIce I (callE I (K 113) sh113))])
theorem tY116 {I : Ops} (hI : I = real) {K : FuncId → En} (k150 : K 150 = en150) (k113 : K 113 = en113) : CallsOk Tryz.prog (Y116 I K) := (TabOk.calls mixed ⟨EntryOk.own (s150 hI k150) hI, notQuiet, ⟨EntryOk.own (s113 hI k113) hI, notQuiet, trivial⟩⟩)
theorem s116 {I : Ops} (hI : I = real) {K : FuncId → En} (k150 : K 150 = en150) (k113 : K 113 = en113) : Sound Tryz.prog 116 (inl X I (Y116 I K) Tryz.f116) :=
  Sound.inl (Y := (Y116 I K)) xok (tY116 hI k150 k113) ent116 Tryz.func116 rfl rfl hI
def an80 : An (List FrameV × Unit) where
  pre t := bFrameS t.1
  l _ t := mapE tFrame_own t.1
noncomputable def en80 : En := mkE (parsC (pL tFrame) pars0) an80
attribute [simp] en80 an80
def sh80 : Shp := fun I i b l s => .ok (.one (.arr 0 0 (I.len (l 0))), [(0, .row 6 (l 0))], 1)
theorem ent80 : Enters Tryz.prog 80 := ⟨Tryz.f80, Tryz.func80, by kernel_rfl, by kernel_rfl⟩
noncomputable def Y80 (I : Ops) (K : FuncId → En) : CallsA := (Tab.calls [(116, false, callIce I (inl X I (Y116 I K) Tryz.f116))])
theorem tY80 {I : Ops} (hI : I = real) {K : FuncId → En} (k150 : K 150 = en150) (k113 : K 113 = en113) : CallsOk Tryz.prog (Y80 I K) := (TabOk.calls mixed ⟨EntryOk.own (s116 hI k150 k113) hI, notQuiet, trivial⟩)
theorem L80 {w : World} {Xs : Nat → Prop} (l : List FrameV) (hl : l.length ≤ 1048576) (hb : bFrameS l = true) (es : List (List PV)) (hes : es = tFrame.encs l) (n : Nat) (hn : n = l.length) :
    ∀ (k i : Nat) (rs : List (List PV)), rs = pad tFrame_own [.sc (.int .i64 0), .sc (.int .i64 0), .sc (.int .i64 0), .sc (.int .i64 0), .nl, .nl] l i → k + i = l.length → W Tryz.prog 80 Tryz.f80 (Ent0 w Xs) (Back (Ent0 w Xs) (.one (.arr 0 0 l.length)) [(0, .row 6 (mapE tFrame_own l))] 1) (place (bodyOf Tryz.f80) [1,1,0,1,0,0] [])
      ⟨[(0, .one (.pv (.sl false 6 es))), (3, .one (.arr 0 0 n)), (4, .one (.pv (.sc (.int .i64 i))))], [(0, .row 6 rs)], 1⟩ := by
  obtain ⟨I, hI⟩ : ∃ I, I = real := ⟨_, rfl⟩; obtain ⟨K, k150, k113⟩ : ∃ K : FuncId → En, K 150 = en150 ∧ K 113 = en113 := ⟨fun g => (lk g [(150, en150), (113, en113)]).getD default, rfl, rfl⟩
  intro k
  induction k with
  | zero =>
    intro i rs hrs hk
    refine W_go (Y := (Y80 I K)) xok (tY80 hI k150 k113) Tryz.func80 rfl 2000 _ hI ?_; (conv => arg 4; cbv)
    repeat' ((first | ((with_reducible refine on_eqs ?_ ?_); (focus (with_reducible rfl))) | (with_reducible refine on_both ?_ ?_) | (with_reducible refine on_true (by assumption) ?_) | (with_reducible refine on_false (by assumption) ?_) | (with_reducible refine on_ask (fun g => ?_) (fun g => ?_) <;> (have h := g) <;> (try simp (disch := omega) [hI, k150, en150, an150, k113, en113, an113, hes, hrs, hn, -List.length_eq_zero_iff] at h) <;> (try (exfalso; omega))) | ((with_reducible refine on_must ?_ ?_); (focus (simp (disch := omega) [hI, k150, en150, an150, k113, en113, an113, hes, hrs, hn] <;> exact mt)))) <;> (conv => arg 4; cbv))
    (with_reducible refine on_ret ?_); refine Ended_of rfl ?_; (conv => lhs; cbv)
    rw [hrs, hn, pad_done _ _ _ _ (by omega)]
  | succ k ih =>
    intro i rs hrs hk
    refine W_go (Y := (Y80 I K)) xok (tY80 hI k150 k113) Tryz.func80 rfl 2000 _ hI ?_; (conv => arg 4; cbv)
    have hp := pad_length tFrame_own [.sc (.int .i64 0), .sc (.int .i64 0), .sc (.int .i64 0), .sc (.int .i64 0), .nl, .nl] l i (by omega)
    have hx := bFrameS_nth hb (i := i) (by omega)
    obtain ⟨x0, x1⟩ := bFrame_p hx
    have y0 := bEntryS_len x0
    have y1 := bCountS_len x1
    repeat' ((first | ((with_reducible refine on_eqs ?_ ?_); (focus (with_reducible rfl))) | (with_reducible refine on_both ?_ ?_) | (with_reducible refine on_true (by assumption) ?_) | (with_reducible refine on_false (by assumption) ?_) | (with_reducible refine on_ask (fun g => ?_) (fun g => ?_) <;> (have h := g) <;> (try simp (disch := omega) [hI, k150, en150, an150, k113, en113, an113, hes, hrs, hn, -List.length_eq_zero_iff] at h) <;> (try (exfalso; omega))) | ((with_reducible refine on_must ?_ ?_); (focus (simp (disch := omega) [hI, k150, en150, an150, k113, en113, an113, hes, hrs, hn] <;> exact mt)))) <;> (conv => arg 4; cbv))
    (with_reducible refine on_loop ?_); simp only [List.cons_append, List.nil_append]; refine W_norm [0, 3, 4] ?_ (ih (i + 1) _ rfl (by omega)); (conv => lhs; cbv)
    rw [← pad_set tFrame_own [.sc (.int .i64 0), .sc (.int .i64 0), .sc (.int .i64 0), .sc (.int .i64 0), .nl, .nl] l i (by omega) _ rfl]
    clear ih
    simp (disch := omega) [hI, k150, en150, an150, k113, en113, an113, hes, hrs, hn, hrs, hes, hn, tFrame_own]
    try rfl
theorem ok80 (l : List FrameV) (hb : bFrameS l = true) : Ok0 Tryz.prog 80 [(pL tFrame).enc l] (.one (.arr 0 0 (real.len (mapE tFrame_own l)))) [(0, .row 6 (mapE tFrame_own l))] 1 := by
  obtain ⟨I, hI⟩ : ∃ I, I = real := ⟨_, rfl⟩; obtain ⟨K, k150, k113⟩ : ∃ K : FuncId → En, K 150 = en150 ∧ K 113 = en113 := ⟨fun g => (lk g [(150, en150), (113, en113)]).getD default, rfl, rfl⟩
  have hl := bFrameS_len hb
  have hrs : True := trivial
  have hn : True := trivial
  obtain ⟨es, hes⟩ : ∃ es, es = tFrame.encs l := ⟨_, rfl⟩
  rw [r_len, mapE_length]
  show Ok0 Tryz.prog 80 [.one (.pv (.sl false 6 (tFrame.encs l)))] _ _ 1
  rw [← hes]
  refine Ok0_run (Y := (Y80 I K)) xok (tY80 hI k150 k113) Tryz.func80 rfl rfl rfl 2000 hI fun w Xs => ?_; (conv => arg 4; cbv)
  repeat' ((first | ((with_reducible refine on_eqs ?_ ?_); (focus (with_reducible rfl))) | (with_reducible refine on_both ?_ ?_) | (with_reducible refine on_true (by assumption) ?_) | (with_reducible refine on_false (by assumption) ?_) | (with_reducible refine on_ask (fun g => ?_) (fun g => ?_) <;> (have h := g) <;> (try simp (disch := omega) [hI, k150, en150, an150, k113, en113, an113, hes, hrs, hn, -List.length_eq_zero_iff] at h) <;> (try (exfalso; omega))) | ((with_reducible refine on_must ?_ ?_); (focus (simp (disch := omega) [hI, k150, en150, an150, k113, en113, an113, hes, hrs, hn] <;> exact mt)))) <;> (conv => arg 4; cbv))
  (with_reducible refine on_loop ?_); simp only [List.cons_append, List.nil_append]; refine W_norm [0, 3, 4] ?_ (L80 l hl hb es hes l.length rfl l.length 0 _ rfl rfl); (conv => lhs; cbv)
  rw [← pad_zero tFrame_own [.sc (.int .i64 0), .sc (.int .i64 0), .sc (.int .i64 0), .sc (.int .i64 0), .nl, .nl] l l.length rfl]
  simp (disch := omega) [hI, k150, en150, an150, k113, en113, an113, hes, hrs, hn, *]
theorem s80 {I : Ops} (hI : I = real) {e : En} (he : e = en80) : Sound Tryz.prog 80 (callE I e sh80) := by
  refine Sound.mkE ent80 hI (fun _ => rfl) ?_ he
  rintro ⟨l, ⟨⟩⟩ hp
  exact ok80 l hp
def an45 : An (List LinkV × Unit) where
  pre t := bLinkS t.1
  l _ t := mapE tLink_own t.1
noncomputable def en45 : En := mkE (parsC (pL tLink) pars0) an45
attribute [simp] en45 an45
def sh45 : Shp := fun I i b l s => .ok (.one (.arr 0 0 (I.len (l 0))), [(0, .row 1 (l 0))], 1)
theorem ent45 : Enters Tryz.prog 45 := ⟨Tryz.f45, Tryz.func45, by kernel_rfl, by kernel_rfl⟩
noncomputable def Y45 (I : Ops) (K : FuncId → En) : CallsA := (Tab.calls [(80, false, callIce I (callE I (K 80) sh80))])
theorem tY45 {I : Ops} (hI : I = real) {K : FuncId → En} (k80 : K 80 = en80) : CallsOk Tryz.prog (Y45 I K) := (TabOk.calls mixed ⟨EntryOk.own (s80 hI k80) hI, notQuiet, trivial⟩)
theorem L45 {w : World} {Xs : Nat → Prop} (l : List LinkV) (hl : l.length ≤ 1048576) (hb : bLinkS l = true) (es : List (List PV)) (hes : es = tLink.encs l) (n : Nat) (hn : n = l.length) :
    ∀ (k i : Nat) (rs : List (List PV)), rs = pad tLink_own [.nl] l i → k + i = l.length → W Tryz.prog 45 Tryz.f45 (Ent0 w Xs) (Back (Ent0 w Xs) (.one (.arr 0 0 l.length)) [(0, .row 1 (mapE tLink_own l))] 1) (place (bodyOf Tryz.f45) [1,1,0,1,0,0] [])
      ⟨[(0, .one (.pv (.sl false 1 es))), (3, .one (.arr 0 0 n)), (4, .one (.pv (.sc (.int .i64 i))))], [(0, .row 1 rs)], 1⟩ := by
  obtain ⟨I, hI⟩ : ∃ I, I = real := ⟨_, rfl⟩; obtain ⟨K, k80⟩ : ∃ K : FuncId → En, K 80 = en80 := ⟨fun g => (lk g [(80, en80)]).getD default, rfl⟩
  intro k
  induction k with
  | zero =>
    intro i rs hrs hk
    refine W_go (Y := (Y45 I K)) xok (tY45 hI k80) Tryz.func45 rfl 2000 _ hI ?_; (conv => arg 4; cbv)
    repeat' ((first | ((with_reducible refine on_eqs ?_ ?_); (focus (with_reducible rfl))) | (with_reducible refine on_both ?_ ?_) | (with_reducible refine on_true (by assumption) ?_) | (with_reducible refine on_false (by assumption) ?_) | (with_reducible refine on_ask (fun g => ?_) (fun g => ?_) <;> (have h := g) <;> (try simp (disch := omega) [hI, k80, en80, an80, hes, hrs, hn, -List.length_eq_zero_iff] at h) <;> (try (exfalso; omega))) | ((with_reducible refine on_must ?_ ?_); (focus (simp (disch := omega) [hI, k80, en80, an80, hes, hrs, hn] <;> exact mt)))) <;> (conv => arg 4; cbv))
    (with_reducible refine on_ret ?_); refine Ended_of rfl ?_; (conv => lhs; cbv)
    rw [hrs, hn, pad_done _ _ _ _ (by omega)]
  | succ k ih =>
    intro i rs hrs hk
    refine W_go (Y := (Y45 I K)) xok (tY45 hI k80) Tryz.func45 rfl 2000 _ hI ?_; (conv => arg 4; cbv)
    have hp := pad_length tLink_own [.nl] l i (by omega)
    have hx := bLinkS_nth hb (i := i) (by omega)
    have x0 := bLink_p hx
    have y0 := bFrameS_len x0
    repeat' ((first | ((with_reducible refine on_eqs ?_ ?_); (focus (with_reducible rfl))) | (with_reducible refine on_both ?_ ?_) | (with_reducible refine on_true (by assumption) ?_) | (with_reducible refine on_false (by assumption) ?_) | (with_reducible refine on_ask (fun g => ?_) (fun g => ?_) <;> (have h := g) <;> (try simp (disch := omega) [hI, k80, en80, an80, hes, hrs, hn, -List.length_eq_zero_iff] at h) <;> (try (exfalso; omega))) | ((with_reducible refine on_must ?_ ?_); (focus (simp (disch := omega) [hI, k80, en80, an80, hes, hrs, hn] <;> exact mt)))) <;> (conv => arg 4; cbv))
    (with_reducible refine on_loop ?_); simp only [List.cons_append, List.nil_append]; refine W_norm [0, 3, 4] ?_ (ih (i + 1) _ rfl (by omega)); (conv => lhs; cbv)
    rw [← pad_set tLink_own [.nl] l i (by omega) _ rfl]
    clear ih
    simp (disch := omega) [hI, k80, en80, an80, hes, hrs, hn, hrs, hes, hn, tLink_own]
    try rfl
theorem ok45 (l : List LinkV) (hb : bLinkS l = true) : Ok0 Tryz.prog 45 [(pL tLink).enc l] (.one (.arr 0 0 (real.len (mapE tLink_own l)))) [(0, .row 1 (mapE tLink_own l))] 1 := by
  obtain ⟨I, hI⟩ : ∃ I, I = real := ⟨_, rfl⟩; obtain ⟨K, k80⟩ : ∃ K : FuncId → En, K 80 = en80 := ⟨fun g => (lk g [(80, en80)]).getD default, rfl⟩
  have hl := bLinkS_len hb
  have hrs : True := trivial
  have hn : True := trivial
  obtain ⟨es, hes⟩ : ∃ es, es = tLink.encs l := ⟨_, rfl⟩
  rw [r_len, mapE_length]
  show Ok0 Tryz.prog 45 [.one (.pv (.sl false 1 (tLink.encs l)))] _ _ 1
  rw [← hes]
  refine Ok0_run (Y := (Y45 I K)) xok (tY45 hI k80) Tryz.func45 rfl rfl rfl 2000 hI fun w Xs => ?_; (conv => arg 4; cbv)
  repeat' ((first | ((with_reducible refine on_eqs ?_ ?_); (focus (with_reducible rfl))) | (with_reducible refine on_both ?_ ?_) | (with_reducible refine on_true (by assumption) ?_) | (with_reducible refine on_false (by assumption) ?_) | (with_reducible refine on_ask (fun g => ?_) (fun g => ?_) <;> (have h := g) <;> (try simp (disch := omega) [hI, k80, en80, an80, hes, hrs, hn, -List.length_eq_zero_iff] at h) <;> (try (exfalso; omega))) | ((with_reducible refine on_must ?_ ?_); (focus (simp (disch := omega) [hI, k80, en80, an80, hes, hrs, hn] <;> exact mt)))) <;> (conv => arg 4; cbv))
  (with_reducible refine on_loop ?_); simp only [List.cons_append, List.nil_append]; refine W_norm [0, 3, 4] ?_ (L45 l hl hb es hes l.length rfl l.length 0 _ rfl rfl); (conv => lhs; cbv)
  rw [← pad_zero tLink_own [.nl] l l.length rfl]
  simp (disch := omega) [hI, k80, en80, an80, hes, hrs, hn, *]
theorem s45 {I : Ops} (hI : I = real) {e : En} (he : e = en45) : Sound Tryz.prog 45 (callE I e sh45) := by
  refine Sound.mkE ent45 hI (fun _ => rfl) ?_ he
  rintro ⟨l, ⟨⟩⟩ hp
  exact ok45 l hp
theorem ent79 : Enters Tryz.prog 79 := ⟨Tryz.f79, Tryz.func79, by kernel_rfl, by kernel_rfl⟩
noncomputable def Y79 (I : Ops) (K : FuncId → En) : CallsA := (Tab.calls [(80, false, callIce I (callE I (K 80) sh80)), (113, false, callIce I (callE I (K 113) sh113)), (114, false, callIce I (callE I (K 114) sh114)), (115, false, callIce I (callE I (K 115) sh115))])
theorem tY79 {I : Ops} (hI : I = real) {K : FuncId → En} (k80 : K 80 = en80) (k113 : K 113 = en113) (k114 : K 114 = en114) (k115 : K 115 = en115) : CallsOk Tryz.prog (Y79 I K) := (TabOk.calls mixed ⟨EntryOk.own (s80 hI k80) hI, notQuiet, ⟨EntryOk.own (s113 hI k113) hI, notQuiet, ⟨EntryOk.own (s114 hI k114) hI, notQuiet, ⟨EntryOk.own (s115 hI k115) hI, notQuiet, trivial⟩⟩⟩⟩)
theorem s79 {I : Ops} (hI : I = real) {K : FuncId → En} (k80 : K 80 = en80) (k113 : K 113 = en113) (k114 : K 114 = en114) (k115 : K 115 = en115) : Sound Tryz.prog 79 (inl X I (Y79 I K) Tryz.f79) :=
  Sound.inl (Y := (Y79 I K)) xok (tY79 hI k80 k113 k114 k115) ent79 Tryz.func79 rfl rfl hI
def an44 : An (List WorkerV × Unit) where
  pre t := bWorkerS t.1
  l _ t := mapE tWorker_own t.1
noncomputable def en44 : En := mkE (parsC (pL tWorker) pars0) an44
attribute [simp] en44 an44
def sh44 : Shp := fun I i b l s => .ok (.one (.arr 0 0 (I.len (l 0))), [(0, .row 7 (l 0))], 1)
theorem ent44 : Enters Tryz.prog 44 := ⟨Tryz.f44, Tryz.func44, by kernel_rfl, by kernel_rfl⟩
noncomputable def Y44 (I : Ops) (K : FuncId → En) : CallsA := (Tab.calls [(79, false, callIce I (inl X I (Y79 I K) Tryz.f79))])
theorem tY44 {I : Ops} (hI : I = real) {K : FuncId → En} (k80 : K 80 = en80) (k113 : K 113 = en113) (k114 : K 114 = en114) (k115 : K 115 = en115) : CallsOk Tryz.prog (Y44 I K) := (TabOk.calls mixed ⟨EntryOk.own (s79 hI k80 k113 k114 k115) hI, notQuiet, trivial⟩)
theorem L44 {w : World} {Xs : Nat → Prop} (l : List WorkerV) (hl : l.length ≤ 1048576) (hb : bWorkerS l = true) (es : List (List PV)) (hes : es = tWorker.encs l) (n : Nat) (hn : n = l.length) :
    ∀ (k i : Nat) (rs : List (List PV)), rs = pad tWorker_own [.nl, .nl, .nl, .sc (.int .i64 0), .sc (.int .i64 0), .nl, .sc (.bool false)] l i → k + i = l.length → W Tryz.prog 44 Tryz.f44 (Ent0 w Xs) (Back (Ent0 w Xs) (.one (.arr 0 0 l.length)) [(0, .row 7 (mapE tWorker_own l))] 1) (place (bodyOf Tryz.f44) [1,1,0,1,0,0] [])
      ⟨[(0, .one (.pv (.sl false 7 es))), (3, .one (.arr 0 0 n)), (4, .one (.pv (.sc (.int .i64 i))))], [(0, .row 7 rs)], 1⟩ := by
  obtain ⟨I, hI⟩ : ∃ I, I = real := ⟨_, rfl⟩; obtain ⟨K, k80, k113, k114, k115⟩ : ∃ K : FuncId → En, K 80 = en80 ∧ K 113 = en113 ∧ K 114 = en114 ∧ K 115 = en115 := ⟨fun g => (lk g [(80, en80), (113, en113), (114, en114), (115, en115)]).getD default, rfl, rfl, rfl, rfl⟩
  intro k
  induction k with
  | zero =>
    intro i rs hrs hk
    refine W_go (Y := (Y44 I K)) xok (tY44 hI k80 k113 k114 k115) Tryz.func44 rfl 2000 _ hI ?_; (conv => arg 4; cbv)
    repeat' ((first | ((with_reducible refine on_eqs ?_ ?_); (focus (with_reducible rfl))) | (with_reducible refine on_both ?_ ?_) | (with_reducible refine on_true (by assumption) ?_) | (with_reducible refine on_false (by assumption) ?_) | (with_reducible refine on_ask (fun g => ?_) (fun g => ?_) <;> (have h := g) <;> (try simp (disch := omega) [hI, k80, en80, an80, k113, en113, an113, k114, en114, an114, k115, en115, an115, hes, hrs, hn, -List.length_eq_zero_iff] at h) <;> (try (exfalso; omega))) | ((with_reducible refine on_must ?_ ?_); (focus (simp (disch := omega) [hI, k80, en80, an80, k113, en113, an113, k114, en114, an114, k115, en115, an115, hes, hrs, hn] <;> exact mt)))) <;> (conv => arg 4; cbv))
    (with_reducible refine on_ret ?_); refine Ended_of rfl ?_; (conv => lhs; cbv)
    rw [hrs, hn, pad_done _ _ _ _ (by omega)]
  | succ k ih =>
    intro i rs hrs hk
    refine W_go (Y := (Y44 I K)) xok (tY44 hI k80 k113 k114 k115) Tryz.func44 rfl 2000 _ hI ?_; (conv => arg 4; cbv)
    have hp := pad_length tWorker_own [.nl, .nl, .nl, .sc (.int .i64 0), .sc (.int .i64 0), .nl, .sc (.bool false)] l i (by omega)
    have hx := bWorkerS_nth hb (i := i) (by omega)
    obtain ⟨x0, x1, x2, x3⟩ := bWorker_p hx
    have y0 := bFrameS_len x0
    have y1 := bCountS_len x1
    have y2 := bHeldS_len x2
    have y3 := bReleaseS_len x3
    repeat' ((first | ((with_reducible refine on_eqs ?_ ?_); (focus (with_reducible rfl))) | (with_reducible refine on_both ?_ ?_) | (with_reducible refine on_true (by assumption) ?_) | (with_reducible refine on_false (by assumption) ?_) | (with_reducible refine on_ask (fun g => ?_) (fun g => ?_) <;> (have h := g) <;> (try simp (disch := omega) [hI, k80, en80, an80, k113, en113, an113, k114, en114, an114, k115, en115, an115, hes, hrs, hn, -List.length_eq_zero_iff] at h) <;> (try (exfalso; omega))) | ((with_reducible refine on_must ?_ ?_); (focus (simp (disch := omega) [hI, k80, en80, an80, k113, en113, an113, k114, en114, an114, k115, en115, an115, hes, hrs, hn] <;> exact mt)))) <;> (conv => arg 4; cbv))
    (with_reducible refine on_loop ?_); simp only [List.cons_append, List.nil_append]; refine W_norm [0, 3, 4] ?_ (ih (i + 1) _ rfl (by omega)); (conv => lhs; cbv)
    rw [← pad_set tWorker_own [.nl, .nl, .nl, .sc (.int .i64 0), .sc (.int .i64 0), .nl, .sc (.bool false)] l i (by omega) _ rfl]
    clear ih
    simp (disch := omega) [hI, k80, en80, an80, k113, en113, an113, k114, en114, an114, k115, en115, an115, hes, hrs, hn, hrs, hes, hn, tWorker_own]
    try rfl
theorem ok44 (l : List WorkerV) (hb : bWorkerS l = true) : Ok0 Tryz.prog 44 [(pL tWorker).enc l] (.one (.arr 0 0 (real.len (mapE tWorker_own l)))) [(0, .row 7 (mapE tWorker_own l))] 1 := by
  obtain ⟨I, hI⟩ : ∃ I, I = real := ⟨_, rfl⟩; obtain ⟨K, k80, k113, k114, k115⟩ : ∃ K : FuncId → En, K 80 = en80 ∧ K 113 = en113 ∧ K 114 = en114 ∧ K 115 = en115 := ⟨fun g => (lk g [(80, en80), (113, en113), (114, en114), (115, en115)]).getD default, rfl, rfl, rfl, rfl⟩
  have hl := bWorkerS_len hb
  have hrs : True := trivial
  have hn : True := trivial
  obtain ⟨es, hes⟩ : ∃ es, es = tWorker.encs l := ⟨_, rfl⟩
  rw [r_len, mapE_length]
  show Ok0 Tryz.prog 44 [.one (.pv (.sl false 7 (tWorker.encs l)))] _ _ 1
  rw [← hes]
  refine Ok0_run (Y := (Y44 I K)) xok (tY44 hI k80 k113 k114 k115) Tryz.func44 rfl rfl rfl 2000 hI fun w Xs => ?_; (conv => arg 4; cbv)
  repeat' ((first | ((with_reducible refine on_eqs ?_ ?_); (focus (with_reducible rfl))) | (with_reducible refine on_both ?_ ?_) | (with_reducible refine on_true (by assumption) ?_) | (with_reducible refine on_false (by assumption) ?_) | (with_reducible refine on_ask (fun g => ?_) (fun g => ?_) <;> (have h := g) <;> (try simp (disch := omega) [hI, k80, en80, an80, k113, en113, an113, k114, en114, an114, k115, en115, an115, hes, hrs, hn, -List.length_eq_zero_iff] at h) <;> (try (exfalso; omega))) | ((with_reducible refine on_must ?_ ?_); (focus (simp (disch := omega) [hI, k80, en80, an80, k113, en113, an113, k114, en114, an114, k115, en115, an115, hes, hrs, hn] <;> exact mt)))) <;> (conv => arg 4; cbv))
  (with_reducible refine on_loop ?_); simp only [List.cons_append, List.nil_append]; refine W_norm [0, 3, 4] ?_ (L44 l hl hb es hes l.length rfl l.length 0 _ rfl rfl); (conv => lhs; cbv)
  rw [← pad_zero tWorker_own [.nl, .nl, .nl, .sc (.int .i64 0), .sc (.int .i64 0), .nl, .sc (.bool false)] l l.length rfl]
  simp (disch := omega) [hI, k80, en80, an80, k113, en113, an113, k114, en114, an114, k115, en115, an115, hes, hrs, hn, *]
theorem s44 {I : Ops} (hI : I = real) {e : En} (he : e = en44) : Sound Tryz.prog 44 (callE I e sh44) := by
  refine Sound.mkE ent44 hI (fun _ => rfl) ?_ he
  rintro ⟨l, ⟨⟩⟩ hp
  exact ok44 l hp
end Go.Proofs.Tryz
