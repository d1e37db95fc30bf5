/- Contracts. -/
import Derived.Test.YtiieincddkhcdaaGreatBn
import Derived.Test.YtiieincddkhcdaaGreatBo
set_option linter.unusedSimpArgs false
set_option linter.unusedVariables false
namespace Go.Proofs.Tryz
open Go Go.Aix
set_option maxRecDepth 100000
set_option maxHeartbeats 4000000
def an65 : An (List Int × Int × Unit) where
  pre t := decide (t.1.length < 4611686018427387904)
  i _ t := hdS hI64 t.1 t.2.1
noncomputable def en65 : En := mkE (parsC (pL tI64) (parsC pI pars0)) an65
attribute [simp] en65 an65
def sh65 : Shp := fun I i b l s => .ok (.one (.pv (.sc (.int .i64 (i 0)))), [], 0)
theorem ent65 : Enters Tryz.prog 65 := ⟨Tryz.f65, Tryz.func65, by kernel_rfl, by kernel_rfl⟩
theorem L65 {w : World} {Xs : Nat → Prop} (l : List Int) (hl : l.length < 4611686018427387904) (es : List (List PV)) (hes : es = tI64.encs l) :
    ∀ (kk i : Nat) (m : Int), kk + i = l.length → W Tryz.prog 65 Tryz.f65 (Ent0 w Xs) (Back (Ent0 w Xs) (.one (.pv (.sc (.int .i64 (hdS hI64 (l.drop i) m))))) [] 0) (place (bodyOf Tryz.f65) [1,0,1,0,0] [])
      ⟨[(0, .one (.pv (.sl false 1 es))), (1, .one (.pv (.sc (.int .i64 m)))), (5, .one (.pv (.sc (.int .i64 i))))], [], 0⟩ := by
  obtain ⟨I, hI⟩ : ∃ I, I = real := ⟨_, rfl⟩
  intro kk
  induction kk with
  | zero =>
    intro i m hk
    refine W_go (Y := (Tab.calls [])) xok (TabOk.calls mixed trivial) Tryz.func65 rfl 2000 _ hI ?_; (conv => arg 4; cbv)
    repeat' ((first | ((with_reducible refine on_eqs ?_ ?_); (focus (with_reducible rfl))) | (with_reducible refine on_both ?_ ?_) | (with_reducible refine on_true (by assumption) ?_) | (with_reducible refine on_false (by assumption) ?_) | (with_reducible refine on_ask (fun g => ?_) (fun g => ?_) <;> (have h := g) <;> (try simp (disch := omega) [hI, hes, -List.length_eq_zero_iff] at h) <;> (try (exfalso; omega))) | ((with_reducible refine on_must ?_ ?_); (focus (simp (disch := omega) [hI, hes] <;> exact mt)))) <;> (conv => arg 4; cbv))
    (with_reducible refine on_ret ?_); refine Ended_of rfl ?_; (conv => lhs; cbv)
    have h1 : l.drop i = [] := List.drop_of_length_le (by omega)
    simp [h1, hdS]
  | succ kk ih =>
    intro i m hk
    have hd : l.drop i = nth l i :: l.drop (i + 1) := nth_drop (by omega)
    refine W_go (Y := (Tab.calls [])) xok (TabOk.calls mixed trivial) Tryz.func65 rfl 2000 _ hI ?_; (conv => arg 4; cbv)
    repeat' ((first | ((with_reducible refine on_eqs ?_ ?_); (focus (with_reducible rfl))) | (with_reducible refine on_both ?_ ?_) | (with_reducible refine on_true (by assumption) ?_) | (with_reducible refine on_false (by assumption) ?_) | (with_reducible refine on_ask (fun g => ?_) (fun g => ?_) <;> (have h := g) <;> (try simp (disch := omega) [hI, hes, -List.length_eq_zero_iff] at h) <;> (try (exfalso; omega))) | ((with_reducible refine on_must ?_ ?_); (focus (simp (disch := omega) [hI, hes] <;> exact mt)))) <;> (conv => arg 4; cbv))
    all_goals first
      | ((with_reducible refine on_ret ?_); refine Ended_of rfl ?_; (conv => lhs; cbv); rw [hd, hdS, show hI64 (nth l i) m = none from by simp only [hI64]; first | ((repeat' (first | rw [if_neg (by omega)] | rw [if_pos (by first | assumption | omega)])); done) | (simp [*]; done) | ((repeat' (refine ite_go (fun q => ?_) (fun q => ?_))) <;> first | rfl | (exfalso; first | contradiction | omega))])
      | (have e : hdS hI64 (l.drop i) m = hdS hI64 (l.drop (i + 1)) (nx1 m) := by rw [hd, hdS, show hI64 (nth l i) m = some (nx1 m) from by simp only [hI64]; first | ((repeat' (first | rw [if_neg (by omega)] | rw [if_pos (by first | assumption | omega)])); done) | (simp [*]; done) | ((repeat' (refine ite_go (fun q => ?_) (fun q => ?_))) <;> first | rfl | (exfalso; first | contradiction | omega))]
         rw [e]
         (with_reducible refine on_loop ?_); simp only [List.cons_append, List.nil_append]; refine W_norm [0, 1, 5] ?_ (ih (i + 1) _ (by omega)); (conv => lhs; cbv)
         first | (simp (disch := omega) [hI, hes, *, nx1]; done) | ((try simp (disch := omega) [hI, hes, *, nx1]); (repeat' split); all_goals (first | rfl | omega | (simp_all; done) | (exfalso; simp_all; omega))))
theorem ok65 (l : List Int) (k : Int) (hl : l.length < 4611686018427387904) : Ok0 Tryz.prog 65 [(pL tI64).enc l, pI.enc k] (.one (.pv (.sc (.int .i64 (hdS hI64 l k))))) [] 0 := by
  obtain ⟨I, hI⟩ : ∃ I, I = real := ⟨_, rfl⟩
  obtain ⟨es, hes⟩ : ∃ es, es = tI64.encs l := ⟨_, rfl⟩
  show Ok0 Tryz.prog 65 [.one (.pv (.sl false 1 (tI64.encs l))), .one (.pv (.sc (.int .i64 k)))] _ [] 0
  rw [← hes]
  refine Ok0_run (Y := (Tab.calls [])) xok (TabOk.calls mixed trivial) Tryz.func65 rfl rfl rfl 2000 hI fun w Xs => ?_; (conv => arg 4; cbv)
  repeat' ((first | ((with_reducible refine on_eqs ?_ ?_); (focus (with_reducible rfl))) | (with_reducible refine on_both ?_ ?_) | (with_reducible refine on_true (by assumption) ?_) | (with_reducible refine on_false (by assumption) ?_) | (with_reducible refine on_ask (fun g => ?_) (fun g => ?_) <;> (have h := g) <;> (try simp (disch := omega) [hI, hes, -List.length_eq_zero_iff] at h) <;> (try (exfalso; omega))) | ((with_reducible refine on_must ?_ ?_); (focus (simp (disch := omega) [hI, hes] <;> exact mt)))) <;> (conv => arg 4; cbv))
  (with_reducible refine on_loop ?_); simp only [List.cons_append, List.nil_append]; refine W_norm [0, 1, 5] ?_ (L65 l hl es hes l.length 0 _ rfl); (conv => lhs; cbv)
  first | (simp (disch := omega) [hI, hes, *]; done) | ((try simp (disch := omega) [hI, hes, *]); (repeat' split); all_goals (first | rfl | omega | (simp_all; done) | (exfalso; simp_all; omega)))
theorem s65 {I : Ops} (hI : I = real) {e : En} (he : e = en65) : Sound Tryz.prog 65 (callE I e sh65) := by
  refine Sound.mkE ent65 hI (fun _ => rfl) ?_ he
  rintro ⟨l, k, ⟨⟩⟩ hp
  have hp : (decide (l.length < 4611686018427387904)) = true := hp
  simp only [Bool.and_eq_true, List.all_eq_true, decide_eq_true_eq] at hp
  exact ok65 l k hp
theorem ent23 : Enters Tryz.prog 23 := ⟨Tryz.f23, Tryz.func23, by kernel_rfl, by kernel_rfl⟩
noncomputable def Y23 (I : Ops) (K : FuncId → En) : CallsA := (Tab.calls [(61, false, callRef I (markT I (K 61) 7)), (62, false, callRef I (markT I (K 62) 7)), (63, false, callRef I (markT I (K 63) 1))])
theorem tY23 {I : Ops} (hI : I = real) {K : FuncId → En} (k61 : K 61 = en61) (k62 : K 62 = en62) (k63 : K 63 = en63) : CallsOk Tryz.prog (Y23 I K) := (TabOk.calls mixed ⟨EntryOk.ref (s61 hI k61) hI, notQuiet, ⟨EntryOk.ref (s62 hI k62) hI, notQuiet, ⟨EntryOk.ref (s63 hI k63) hI, notQuiet, trivial⟩⟩⟩)
theorem s23 {I : Ops} (hI : I = real) {K : FuncId → En} (k61 : K 61 = en61) (k62 : K 62 = en62) (k63 : K 63 = en63) : SoundR Tryz.prog 23 (inlR X I (Y23 I K) Tryz.f23) :=
  SoundR.inl (Y := (Y23 I K)) xok (tY23 hI k61 k62 k63) ent23 Tryz.func23 rfl rfl hI
theorem ent22 : Enters Tryz.prog 22 := ⟨Tryz.f22, Tryz.func22, by kernel_rfl, by kernel_rfl⟩
noncomputable def Y22 (I : Ops) (K : FuncId → En) : CallsA := (Tab.calls [(60, true, callRd I (callE I (K 60) sh60))])
theorem tY22 {I : Ops} (hI : I = real) {K : FuncId → En} (k60 : K 60 = en60) : CallsOk Tryz.prog (Y22 I K) := (TabOk.calls mixed ⟨EntryOk.rd (s60 hI k60) hI, fun _ => callRd_quiet _ _, trivial⟩)
theorem s22 {I : Ops} (hI : I = real) {K : FuncId → En} (k60 : K 60 = en60) : Sound Tryz.prog 22 (inl X I (Y22 I K) Tryz.f22) :=
  Sound.inl (Y := (Y22 I K)) xok (tY22 hI k60) ent22 Tryz.func22 rfl rfl hI
theorem ent24 : Enters Tryz.prog 24 := ⟨Tryz.f24, Tryz.func24, by kernel_rfl, by kernel_rfl⟩
noncomputable def Y24 (I : Ops) (K : FuncId → En) : CallsA := (Tab.calls [(64, false, callRef I (markT I (K 64) 1))])
theorem tY24 {I : Ops} (hI : I = real) {K : FuncId → En} (k64 : K 64 = en64) : CallsOk Tryz.prog (Y24 I K) := (TabOk.calls mixed ⟨EntryOk.ref (s64 hI k64) hI, notQuiet, trivial⟩)
theorem s24 {I : Ops} (hI : I = real) {K : FuncId → En} (k64 : K 64 = en64) : SoundR Tryz.prog 24 (inlR X I (Y24 I K) Tryz.f24) :=
  SoundR.inl (Y := (Y24 I K)) xok (tY24 hI k64) ent24 Tryz.func24 rfl rfl hI
theorem ent25 : Enters Tryz.prog 25 := ⟨Tryz.f25, Tryz.func25, by kernel_rfl, by kernel_rfl⟩
noncomputable def Y25 (I : Ops) (K : FuncId → En) : CallsA := (Tab.calls [(65, true, callRd I (callE I (K 65) sh65))])
theorem tY25 {I : Ops} (hI : I = real) {K : FuncId → En} (k65 : K 65 = en65) : CallsOk Tryz.prog (Y25 I K) := (TabOk.calls mixed ⟨EntryOk.rd (s65 hI k65) hI, fun _ => callRd_quiet _ _, trivial⟩)
theorem s25 {I : Ops} (hI : I = real) {K : FuncId → En} (k65 : K 65 = en65) : Sound Tryz.prog 25 (inl X I (Y25 I K) Tryz.f25) :=
  Sound.inl (Y := (Y25 I K)) xok (tY25 hI k65) ent25 Tryz.func25 rfl rfl hI
end Go.Proofs.Tryz
