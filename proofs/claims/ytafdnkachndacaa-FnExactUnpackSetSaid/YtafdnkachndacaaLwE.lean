/- Contracts. -/
import Derived.Test.YtafdnkachndacaaLwD
set_option linter.unusedSimpArgs false
set_option linter.unusedVariables false
namespace Go.Proofs.Try
open Go Go.Aix
set_option maxRecDepth 100000
set_option maxHeartbeats 4000000
set_option linter.unusedSimpArgs false
set_option linter.unusedVariables false
theorem wrapu_id {n : Int} (h : 0 ≤ n ∧ n ≤ 18446744073709551615) : IntKind.u64.wrap n = n := by rw [IntKind.wrap_u64]; omega
def byteU (v k : Int) : Int := IntKind.u8.wrap (v.fdiv (2 ^ (min k.toNat IntKind.u64.bits)))
def longU (v : Int) : Nat → List Int
  | 0 => []
  | m + 1 => byteU v (8 * m) :: longU v m
theorem longU_len (v : Int) : ∀ m, (longU v m).length = m
  | 0 => rfl
  | m + 1 => by simp [longU, longU_len v m]

def an190 : An (Int × Unit) where
  l _ t := tU8.encs (longU (IntKind.u64.wrap (IntKind.i64.wrap (t.1 + 4611686018427387904))) 8)
noncomputable def en190 : En := mkE (parsC pI pars0) an190
def sh190 : Shp := fun I i b l s => .ok (.one (.arr 0 0 (I.len (l 0))), [(0, .row 1 (l 0))], 1)
theorem ent190 : Enters Try.prog 190 := ⟨Try.f190, Try.func190, by kernel_rfl, by kernel_rfl⟩

theorem L190 {w : World} {Xs : Nat → Prop} (v : Int) :
    ∀ (m : Nat) (q : Int) (n : Nat) (rs : List (List PV)), m ≤ 8 → q = m - 1 → n = rs.length → rs.length + m ≤ 1048576 → W Try.prog 190 Try.f190 (Ent0 w Xs) (Back (Ent0 w Xs) (.one (.arr 0 0 (rs.length + m))) [(0, .row 1 (rs ++ tU8.encs (longU v m)))] 1) (place (bodyOf Try.f190) [1,1,1,0,1,0,0] [])
      ⟨[(3, .one (.arr 0 0 n)), (4, .one (.pv (.sc (.int .u64 v)))), (5, .one (.pv (.sc (.int .i64 q))))], [(0, .row 1 rs)], 1⟩ := by
  obtain ⟨I, hI⟩ : ∃ I, I = real := ⟨_, rfl⟩
  intro m
  induction m with
  | zero =>
    intro q n rs hm hq hn hb
    refine W_go (Y := (Tab.calls [])) xok (TabOk.calls mixed trivial) Try.func190 rfl 2000 _ hI ?_; (conv => arg 4; cbv)
    repeat' (first | ((with_reducible refine on_eqs ?_ ?_); (focus (with_reducible rfl)); conv => arg 4; cbv) | (with_reducible refine on_both ?_ ?_ <;> (conv => arg 4; cbv)) | (with_reducible refine on_true (by assumption) ?_; conv => arg 4; cbv) | (with_reducible refine on_false (by assumption) ?_; conv => arg 4; cbv) | (with_reducible refine on_ask (fun g => ?_) (fun g => ?_) <;> (have h := g) <;> (try simp (disch := omega) [hI, hn, hq, r_shr, wrapu_id, -List.length_eq_zero_iff] at h) <;> (try (exfalso; omega)) <;> (conv => arg 4; cbv)) | ((with_reducible refine on_must ?_ ?_); (focus (first | (simp (disch := omega) [hI, hn, hq, r_shr, wrapu_id]; done) | (simp (disch := omega) [hI, hn, hq, r_shr, wrapu_id]; omega) | (simp (disch := omega) [hI, hn, hq, r_shr, wrapu_id]; assumption) | (simp (disch := omega) [hI, hn, hq, r_shr, wrapu_id]; (refine And.intro ?_ ?_) <;> (first | omega | assumption)))); conv => arg 4; cbv))
    (with_reducible refine on_ret ?_); refine Ended_of rfl ?_; (conv => lhs; cbv)
    simp [longU, Ty.encs_nil, hn]
  | succ m ih =>
    intro q n rs hm hq hn hb
    have hz : ((m + 1 : Nat) : Int) - 1 = m := by omega
    refine W_go (Y := (Tab.calls [])) xok (TabOk.calls mixed trivial) Try.func190 rfl 2000 _ hI ?_; (conv => arg 4; cbv)
    repeat' (first | ((with_reducible refine on_eqs ?_ ?_); (focus (with_reducible rfl)); conv => arg 4; cbv) | (with_reducible refine on_both ?_ ?_ <;> (conv => arg 4; cbv)) | (with_reducible refine on_true (by assumption) ?_; conv => arg 4; cbv) | (with_reducible refine on_false (by assumption) ?_; conv => arg 4; cbv) | (with_reducible refine on_ask (fun g => ?_) (fun g => ?_) <;> (have h := g) <;> (try simp (disch := omega) [hI, hn, hq, r_shr, wrapu_id, -List.length_eq_zero_iff] at h) <;> (try (exfalso; omega)) <;> (conv => arg 4; cbv)) | ((with_reducible refine on_must ?_ ?_); (focus (first | (simp (disch := omega) [hI, hn, hq, r_shr, wrapu_id]; done) | (simp (disch := omega) [hI, hn, hq, r_shr, wrapu_id]; omega) | (simp (disch := omega) [hI, hn, hq, r_shr, wrapu_id]; assumption) | (simp (disch := omega) [hI, hn, hq, r_shr, wrapu_id]; (refine And.intro ?_ ?_) <;> (first | omega | assumption)))); conv => arg 4; cbv))
    have e1 : rs ++ tU8.encs (longU v (m + 1)) = (rs ++ [[.sc (.int .u8 (byteU v (8 * m)))]]) ++ tU8.encs (longU v m) := by
      rw [longU]
      show rs ++ (tU8.enc _ :: tU8.encs _) = _
      simp [tU8]
    have e2 : rs.length + (m + 1) = (rs ++ [[PV.sc (.int .u8 (byteU v (8 * m)))]]).length + m := by simp; omega
    rw [e1, e2]
    (with_reducible refine on_loop ?_); simp only [List.cons_append, List.nil_append]; refine W_norm [3, 4, 5] ?_ (ih _ _ _ (by omega) rfl rfl (by simp; omega)); (conv => lhs; cbv)
    simp (disch := omega) [hI, hn, hq, r_shr, wrapu_id, byteU, hz]
theorem ok190 (n0 : Int) : Ok0 Try.prog 190 [pI.enc n0] (.one (.arr 0 0 (real.len (tU8.encs (longU (IntKind.u64.wrap (IntKind.i64.wrap (n0 + 4611686018427387904))) 8))))) [(0, .row 1 (tU8.encs (longU (IntKind.u64.wrap (IntKind.i64.wrap (n0 + 4611686018427387904))) 8)))] 1 := by
  obtain ⟨I, hI⟩ : ∃ I, I = real := ⟨_, rfl⟩
  have hq : True := trivial
  have hn : True := trivial
  rw [r_len, Ty.encs_length, longU_len]
  show Ok0 Try.prog 190 [.one (.pv (.sc (.int .i64 n0)))] _ _ 1
  refine Ok0_run (Y := (Tab.calls [])) xok (TabOk.calls mixed trivial) Try.func190 rfl rfl rfl 2000 hI fun w Xs => ?_; (conv => arg 4; cbv)
  repeat' (first | ((with_reducible refine on_eqs ?_ ?_); (focus (with_reducible rfl)); conv => arg 4; cbv) | (with_reducible refine on_both ?_ ?_ <;> (conv => arg 4; cbv)) | (with_reducible refine on_true (by assumption) ?_; conv => arg 4; cbv) | (with_reducible refine on_false (by assumption) ?_; conv => arg 4; cbv) | (with_reducible refine on_ask (fun g => ?_) (fun g => ?_) <;> (have h := g) <;> (try simp (disch := omega) [hI, hn, hq, r_shr, wrapu_id, -List.length_eq_zero_iff] at h) <;> (try (exfalso; omega)) <;> (conv => arg 4; cbv)) | ((with_reducible refine on_must ?_ ?_); (focus (first | (simp (disch := omega) [hI, hn, hq, r_shr, wrapu_id]; done) | (simp (disch := omega) [hI, hn, hq, r_shr, wrapu_id]; omega) | (simp (disch := omega) [hI, hn, hq, r_shr, wrapu_id]; assumption) | (simp (disch := omega) [hI, hn, hq, r_shr, wrapu_id]; (refine And.intro ?_ ?_) <;> (first | omega | assumption)))); conv => arg 4; cbv))
  generalize hv : IntKind.u64.wrap (IntKind.i64.wrap (n0 + 4611686018427387904)) = v
  (with_reducible refine on_loop ?_); simp only [List.cons_append, List.nil_append]; refine W_norm [3, 4, 5] ?_ (L190 v 8 7 0 [] (by omega) rfl rfl (by simp)); (conv => lhs; cbv)
  simp (disch := omega) [hI, hn, hq, r_shr, wrapu_id, hv]

theorem s190 {I : Ops} (hI : I = real) {e : En} (he : e = en190) : Sound Try.prog 190 (callE I e sh190) := by
  refine Sound.mkE ent190 hI (fun _ => rfl) ?_ he
  rintro ⟨n, ⟨⟩⟩ hp
  exact ok190 n
def lu (n : Int) : List Int := longU (IntKind.u64.wrap (IntKind.i64.wrap (n + 4611686018427387904))) 8
def newsB : List CountV → List Int
  | [] => []
  | c :: r => ([IntKind.u8.wrap c.place] ++ lu c.epoch ++ lu c.n) ++ newsB r
theorem longU_take (v : Int) : (longU v 8).take 8 = longU v 8 := List.take_of_length_le (by rw [longU_len]; omega)
theorem tU8_cons (a : Int) (l : List Int) : tU8.encs (a :: l) = [.sc (.int .u8 a)] :: tU8.encs l := rfl
theorem newsB_len : ∀ l, (newsB l).length = 17 * l.length
  | [] => rfl
  | c :: r => by simp [newsB, newsB_len r, lu, longU_len]; omega

def an126 : An (List CountV × Unit) where
  pre t := decide (t.1.length ≤ 1000)
  l _ t := tU8.encs ([IntKind.u8.wrap t.1.length] ++ newsB t.1)
noncomputable def en126 : En := mkE (parsC (pL tCount) pars0) an126
def sh126 : Shp := fun I i b l s => .ok (.one (.arr 0 0 (I.len (l 0))), [(0, .row 1 (l 0))], 1)
theorem ent126 : Enters Try.prog 126 := ⟨Try.f126, Try.func126, by kernel_rfl, by kernel_rfl⟩

theorem L126 {w : World} {Xs : Nat → Prop} (l : List CountV) (hl : l.length ≤ 1000) (es : List (List PV)) (hes : es = tCount.encs l) :
    ∀ (k i n : Nat) (acc : List Int) (rs : List (List PV)), k + i = l.length → n = acc.length → rs = tU8.encs acc → acc.length = 1 + 17 * i → W Try.prog 126 Try.f126 (Ent0 w Xs) (Back (Ent0 w Xs) (.one (.arr 0 0 (acc.length + 17 * k))) [(0, .row 1 (tU8.encs (acc ++ newsB (l.drop i))))] 1) (place (bodyOf Try.f126) [1,1,0,1,0,0] [])
      ⟨[(0, .one (.pv (.sl false 3 es))), (3, .one (.arr 0 0 n)), (4, .one (.pv (.sc (.int .i64 i))))], [(0, .row 1 rs)], 1⟩ := by
  obtain ⟨I, hI⟩ : ∃ I, I = real := ⟨_, rfl⟩; obtain ⟨K, hK⟩ : ∃ K : FuncId → En, K = fun g => (lk g [(190, en190)]).getD default := ⟨_, rfl⟩; have k190 : K 190 = en190 := (by subst hK; rfl); clear hK
  intro k
  induction k with
  | zero =>
    intro i n acc rs hk hn hrs hb
    refine W_go (Y := (Tab.calls [(190, false, callIce I (callE I (K 190) sh190))])) xok (TabOk.calls mixed ⟨EntryOk.own (s190 hI k190) hI, notQuiet, trivial⟩) Try.func126 rfl 2000 _ hI ?_; (conv => arg 4; cbv)
    repeat' (first | ((with_reducible refine on_eqs ?_ ?_); (focus (with_reducible rfl)); conv => arg 4; cbv) | (with_reducible refine on_both ?_ ?_ <;> (conv => arg 4; cbv)) | (with_reducible refine on_true (by assumption) ?_; conv => arg 4; cbv) | (with_reducible refine on_false (by assumption) ?_; conv => arg 4; cbv) | (with_reducible refine on_ask (fun g => ?_) (fun g => ?_) <;> (have h := g) <;> (try simp (disch := omega) [hI, k190, en190, an190, hes, hn, hrs, longU_len, -List.length_eq_zero_iff] at h) <;> (try (exfalso; omega)) <;> (conv => arg 4; cbv)) | ((with_reducible refine on_must ?_ ?_); (focus (first | (simp (disch := omega) [hI, k190, en190, an190, hes, hn, hrs, longU_len]; done) | (simp (disch := omega) [hI, k190, en190, an190, hes, hn, hrs, longU_len]; omega) | (simp (disch := omega) [hI, k190, en190, an190, hes, hn, hrs, longU_len]; assumption) | (simp (disch := omega) [hI, k190, en190, an190, hes, hn, hrs, longU_len]; (refine And.intro ?_ ?_) <;> (first | omega | assumption)))); conv => arg 4; cbv))
    (with_reducible refine on_ret ?_); refine Ended_of rfl ?_; (conv => lhs; cbv)
    have h1 : l.drop i = [] := List.drop_of_length_le (by omega)
    simp [h1, newsB, hn, hrs]
  | succ k ih =>
    intro i n acc rs hk hn hrs hb
    have hd : l.drop i = nth l i :: l.drop (i + 1) := nth_drop (by omega)
    have h8 : ∀ v, (longU v 8).length = 8 := fun v => longU_len v 8
    refine W_go (Y := (Tab.calls [(190, false, callIce I (callE I (K 190) sh190))])) xok (TabOk.calls mixed ⟨EntryOk.own (s190 hI k190) hI, notQuiet, trivial⟩) Try.func126 rfl 2000 _ hI ?_; (conv => arg 4; cbv)
    repeat' (first | ((with_reducible refine on_eqs ?_ ?_); (focus (with_reducible rfl)); conv => arg 4; cbv) | (with_reducible refine on_both ?_ ?_ <;> (conv => arg 4; cbv)) | (with_reducible refine on_true (by assumption) ?_; conv => arg 4; cbv) | (with_reducible refine on_false (by assumption) ?_; conv => arg 4; cbv) | (with_reducible refine on_ask (fun g => ?_) (fun g => ?_) <;> (have h := g) <;> (try simp (disch := omega) [hI, k190, en190, an190, hes, hn, hrs, longU_len, -List.length_eq_zero_iff] at h) <;> (try (exfalso; omega)) <;> (conv => arg 4; cbv)) | ((with_reducible refine on_must ?_ ?_); (focus (first | (simp (disch := omega) [hI, k190, en190, an190, hes, hn, hrs, longU_len]; done) | (simp (disch := omega) [hI, k190, en190, an190, hes, hn, hrs, longU_len]; omega) | (simp (disch := omega) [hI, k190, en190, an190, hes, hn, hrs, longU_len]; assumption) | (simp (disch := omega) [hI, k190, en190, an190, hes, hn, hrs, longU_len]; (refine And.intro ?_ ?_) <;> (first | omega | assumption)))); conv => arg 4; cbv))
    have e1 : acc ++ newsB (l.drop i) = (acc ++ ([IntKind.u8.wrap (nth l i).place] ++ lu (nth l i).epoch ++ lu (nth l i).n)) ++ newsB (l.drop (i + 1)) := by
      rw [hd, newsB]; simp [List.append_assoc]
    have e2 : acc.length + 17 * (k + 1) = (acc ++ ([IntKind.u8.wrap (nth l i).place] ++ lu (nth l i).epoch ++ lu (nth l i).n)).length + 17 * k := by simp [lu, longU_len]; omega
    rw [e1, e2]
    (with_reducible refine on_loop ?_); simp only [List.cons_append, List.nil_append]; refine W_norm [0, 3, 4] ?_ (ih (i + 1) _ _ _ (by omega) rfl rfl (by simp [lu, longU_len]; omega)); (conv => lhs; cbv)
    simp (disch := omega) [hI, k190, en190, an190, hes, hn, hrs, longU_len, lu, h8, longU_take, tU8.encs_append, tU8_one, tU8_cons, List.append_assoc]
theorem ok126 (l : List CountV) (hl : l.length ≤ 1000) : Ok0 Try.prog 126 [(pL tCount).enc l] (.one (.arr 0 0 (real.len (tU8.encs ([IntKind.u8.wrap l.length] ++ newsB l))))) [(0, .row 1 (tU8.encs ([IntKind.u8.wrap l.length] ++ newsB l)))] 1 := by
  obtain ⟨I, hI⟩ : ∃ I, I = real := ⟨_, rfl⟩; obtain ⟨K, hK⟩ : ∃ K : FuncId → En, K = fun g => (lk g [(190, en190)]).getD default := ⟨_, rfl⟩; have k190 : K 190 = en190 := (by subst hK; rfl); clear hK
  have hn : True := trivial
  have hrs : True := trivial
  obtain ⟨es, hes⟩ : ∃ es, es = tCount.encs l := ⟨_, rfl⟩
  have e0 : real.len (tU8.encs ([IntKind.u8.wrap l.length] ++ newsB l)) = [IntKind.u8.wrap (l.length : Int)].length + 17 * l.length := by
    rw [r_len, Ty.encs_length, List.length_append, newsB_len]
  rw [e0]
  show Ok0 Try.prog 126 [.one (.pv (.sl false 3 (tCount.encs l)))] _ _ 1
  refine RAVs_nothing (l' := [.one (.pv (.sl false 3 es))]) ?_ (fun h => by rw [hes]; exact h)
  refine Ok0_run (Y := (Tab.calls [(190, false, callIce I (callE I (K 190) sh190))])) xok (TabOk.calls mixed ⟨EntryOk.own (s190 hI k190) hI, notQuiet, trivial⟩) Try.func126 rfl rfl rfl 2000 hI fun w Xs => ?_; (conv => arg 4; cbv)
  repeat' (first | ((with_reducible refine on_eqs ?_ ?_); (focus (with_reducible rfl)); conv => arg 4; cbv) | (with_reducible refine on_both ?_ ?_ <;> (conv => arg 4; cbv)) | (with_reducible refine on_true (by assumption) ?_; conv => arg 4; cbv) | (with_reducible refine on_false (by assumption) ?_; conv => arg 4; cbv) | (with_reducible refine on_ask (fun g => ?_) (fun g => ?_) <;> (have h := g) <;> (try simp (disch := omega) [hI, k190, en190, an190, hes, hn, hrs, longU_len, -List.length_eq_zero_iff] at h) <;> (try (exfalso; omega)) <;> (conv => arg 4; cbv)) | ((with_reducible refine on_must ?_ ?_); (focus (first | (simp (disch := omega) [hI, k190, en190, an190, hes, hn, hrs, longU_len]; done) | (simp (disch := omega) [hI, k190, en190, an190, hes, hn, hrs, longU_len]; omega) | (simp (disch := omega) [hI, k190, en190, an190, hes, hn, hrs, longU_len]; assumption) | (simp (disch := omega) [hI, k190, en190, an190, hes, hn, hrs, longU_len]; (refine And.intro ?_ ?_) <;> (first | omega | assumption)))); conv => arg 4; cbv))
  (with_reducible refine on_loop ?_); simp only [List.cons_append, List.nil_append]; refine W_norm [0, 3, 4] ?_ (L126 l hl es hes l.length 0 _ [IntKind.u8.wrap l.length] _ rfl rfl rfl rfl); (conv => lhs; cbv)
  simp (disch := omega) [hI, k190, en190, an190, hes, hn, hrs, longU_len, tU8_one]

theorem s126 {I : Ops} (hI : I = real) {e : En} (he : e = en126) : Sound Try.prog 126 (callE I e sh126) := by
  refine Sound.mkE ent126 hI (fun _ => rfl) ?_ he
  rintro ⟨l, ⟨⟩⟩ hp
  exact ok126 l (of_decide_eq_true hp)
end Go.Proofs.Try
