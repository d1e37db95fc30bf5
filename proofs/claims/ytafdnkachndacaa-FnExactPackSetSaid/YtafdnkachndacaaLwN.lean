/- Contracts. -/
import Derived.Test.YtafdnkachndacaaLwM
set_option linter.unusedSimpArgs false
set_option linter.unusedVariables false
namespace Go.Proofs.Try
open Go Go.Aix
set_option maxRecDepth 100000
set_option maxHeartbeats 4000000
set_option linter.unusedSimpArgs false
set_option linter.unusedVariables false
def longs : List Int → List Int
  | [] => []
  | c :: r => lg c ++ longs r
def setB : List EntryV → List Int
  | [] => []
  | e :: r => [IntKind.u8.wrap e.row.length] ++ longs e.row ++ lg e.weight ++ setB r
def setY (l : List EntryV) : List Int := [IntKind.u8.wrap l.length] ++ setB l
theorem lg_len (n : Int) : (lg n).length = 8 := long8_len _ _
theorem longs_len : ∀ l, (longs l).length = 8 * l.length
  | [] => rfl
  | c :: r => by simp [longs, longs_len r, lg_len]; omega
theorem setB_len : ∀ {l : List EntryV}, (∀ e ∈ l, e.row.length ≤ 4) → (setB l).length ≤ 41 * l.length
  | [], _ => Nat.le_refl _
  | e :: r, h => by
    have h1 := h e List.mem_cons_self
    have h2 := setB_len (fun x hx => h x (List.mem_cons_of_mem _ hx))
    simp only [setB, List.length_append, longs_len, lg_len, List.length_cons, List.length_nil]
    omega
theorem setY_len {l : List EntryV} (h : ∀ e ∈ l, e.row.length ≤ 4) : (setY l).length ≤ 1 + 41 * l.length := by
  have := setB_len h
  simp only [setY, List.length_append, List.length_cons, List.length_nil]
  omega

theorem longU_long8 (v : Int) : longU (IntKind.u64.wrap v) 8 = long8 v 8 := long_eq v 8 (Nat.le_refl _)
theorem long8_take (v : Int) : (long8 v 8).take 8 = long8 v 8 := List.take_of_length_le (by rw [long8_len]; omega)

def an137 : An (List EntryV × Unit) where
  pre t := decide (t.1.length ≤ 200) && t.1.all fun e => decide (e.row.length ≤ 4)
  l _ t := tU8.encs (setY t.1)
noncomputable def en137 : En := mkE (parsC (pL tEntry) pars0) an137
def sh137 : Shp := fun I i b l s => .ok (.one (.arr 0 0 (I.len (l 0))), [(0, .row 1 (l 0))], 1)
theorem ent137 : Enters Try.prog 137 := ⟨Try.f137, Try.func137, by kernel_rfl, by kernel_rfl⟩

theorem M137 {w : World} {Xs : Nat → Prop} (l : List EntryV) (hl : l.length ≤ 200) (fin : List Int) (es : List (List PV)) (hes : es = tEntry.encs l) (i : Nat) (hi : i < l.length) (hx : (nth l i).row.length ≤ 4)
    (hn : ∀ (n : Nat) (acc : List Int) (rs : List (List PV)), n = acc.length → rs = tU8.encs acc → fin = acc ++ setB (l.drop (i + 1)) → acc.length ≤ 1 + 41 * (i + 1) → W Try.prog 137 Try.f137 (Ent0 w Xs) (Back (Ent0 w Xs) (.one (.arr 0 0 fin.length)) [(0, .row 1 (tU8.encs fin))] 1) (place (bodyOf Try.f137) [1,1,0,1,0,0] [])
      ⟨[(0, .one (.pv (.sl false 2 es))), (3, .one (.arr 0 0 n)), (4, .one (.pv (.sc (.int .i64 ((i + 1 : Nat) : Int)))))], [(0, .row 1 rs)], 1⟩) :
    ∀ (k q n : Nat) (acc : List Int) (rs : List (List PV)), k + q = (nth l i).row.length → n = acc.length → rs = tU8.encs acc → fin = acc ++ longs ((nth l i).row.drop q) ++ lg (nth l i).weight ++ setB (l.drop (i + 1)) → acc.length ≤ 2 + 41 * i + 8 * q →
      W Try.prog 137 Try.f137 (Ent0 w Xs) (Back (Ent0 w Xs) (.one (.arr 0 0 fin.length)) [(0, .row 1 (tU8.encs fin))] 1) (place (bodyOf Try.f137) [1,1,0,1,0,0,1,0,0,1,0,1,0,0] [])
      ⟨[(0, .one (.pv (.sl false 2 es))), (3, .one (.arr 0 0 n)), (4, .one (.pv (.sc (.int .i64 i)))), (5, .one (.pv (.sc (.int .i64 q))))], [(0, .row 1 rs)], 1⟩ := by
  obtain ⟨I, hI⟩ : ∃ I, I = real := ⟨_, rfl⟩; obtain ⟨K, hK⟩ : ∃ K : FuncId → En, K = fun g => (lk g [(190, en190)]).getD default := ⟨_, rfl⟩; have k190 : K 190 = en190 := (by subst hK; rfl); clear hK
  intro k
  induction k with
  | zero =>
    intro q n acc rs hk hna hrs hf hb
    have h1 : (nth l i).row.drop q = [] := List.drop_of_length_le (by omega)
    rw [h1] at hf
    refine W_go (Y := (Tab.calls [(190, false, callIce I (callE I (K 190) sh190))])) xok (TabOk.calls mixed ⟨EntryOk.own (s190 hI k190) hI, notQuiet, trivial⟩) Try.func137 rfl 2000 _ hI ?_; (conv => arg 4; cbv)
    repeat' (first | ((with_reducible refine on_eqs ?_ ?_); (focus (with_reducible rfl)); conv => arg 4; cbv) | (with_reducible refine on_both ?_ ?_ <;> (conv => arg 4; cbv)) | (with_reducible refine on_true (by assumption) ?_; conv => arg 4; cbv) | (with_reducible refine on_false (by assumption) ?_; conv => arg 4; cbv) | (with_reducible refine on_ask (fun g => ?_) (fun g => ?_) <;> (have h := g) <;> (try simp (disch := omega) [hI, k190, en190, an190, hes, hna, hrs, hx, longU_long8, long8_take, long8_len, tU8_sing, tU8_pp, -List.length_eq_zero_iff] at h) <;> (try (exfalso; omega)) <;> (conv => arg 4; cbv)) | ((with_reducible refine on_must ?_ ?_); (focus (first | (simp (disch := omega) [hI, k190, en190, an190, hes, hna, hrs, hx, longU_long8, long8_take, long8_len, tU8_sing, tU8_pp]; done) | (simp (disch := omega) [hI, k190, en190, an190, hes, hna, hrs, hx, longU_long8, long8_take, long8_len, tU8_sing, tU8_pp]; omega) | (simp (disch := omega) [hI, k190, en190, an190, hes, hna, hrs, hx, longU_long8, long8_take, long8_len, tU8_sing, tU8_pp]; assumption) | (simp (disch := omega) [hI, k190, en190, an190, hes, hna, hrs, hx, longU_long8, long8_take, long8_len, tU8_sing, tU8_pp]; (refine And.intro ?_ ?_) <;> (first | omega | assumption)))); conv => arg 4; cbv))
    (with_reducible refine on_loop ?_); simp only [List.cons_append, List.nil_append]; refine W_norm [0, 3, 4] ?_ (hn _ (acc ++ lg (nth l i).weight) _ rfl rfl (by rw [hf]; simp [longs]) (by simp [lg_len]; omega)); (conv => lhs; cbv)
    simp (disch := omega) [hI, k190, en190, an190, hes, hna, hrs, hx, longU_long8, long8_take, long8_len, tU8_sing, tU8_pp, lg, List.append_assoc]
  | succ k ih =>
    intro q n acc rs hk hna hrs hf hb
    have hd : (nth l i).row.drop q = nth (nth l i).row q :: (nth l i).row.drop (q + 1) := nth_drop (by omega)
    rw [hd] at hf
    refine W_go (Y := (Tab.calls [(190, false, callIce I (callE I (K 190) sh190))])) xok (TabOk.calls mixed ⟨EntryOk.own (s190 hI k190) hI, notQuiet, trivial⟩) Try.func137 rfl 2000 _ hI ?_; (conv => arg 4; cbv)
    repeat' (first | ((with_reducible refine on_eqs ?_ ?_); (focus (with_reducible rfl)); conv => arg 4; cbv) | (with_reducible refine on_both ?_ ?_ <;> (conv => arg 4; cbv)) | (with_reducible refine on_true (by assumption) ?_; conv => arg 4; cbv) | (with_reducible refine on_false (by assumption) ?_; conv => arg 4; cbv) | (with_reducible refine on_ask (fun g => ?_) (fun g => ?_) <;> (have h := g) <;> (try simp (disch := omega) [hI, k190, en190, an190, hes, hna, hrs, hx, longU_long8, long8_take, long8_len, tU8_sing, tU8_pp, -List.length_eq_zero_iff] at h) <;> (try (exfalso; omega)) <;> (conv => arg 4; cbv)) | ((with_reducible refine on_must ?_ ?_); (focus (first | (simp (disch := omega) [hI, k190, en190, an190, hes, hna, hrs, hx, longU_long8, long8_take, long8_len, tU8_sing, tU8_pp]; done) | (simp (disch := omega) [hI, k190, en190, an190, hes, hna, hrs, hx, longU_long8, long8_take, long8_len, tU8_sing, tU8_pp]; omega) | (simp (disch := omega) [hI, k190, en190, an190, hes, hna, hrs, hx, longU_long8, long8_take, long8_len, tU8_sing, tU8_pp]; assumption) | (simp (disch := omega) [hI, k190, en190, an190, hes, hna, hrs, hx, longU_long8, long8_take, long8_len, tU8_sing, tU8_pp]; (refine And.intro ?_ ?_) <;> (first | omega | assumption)))); conv => arg 4; cbv))
    (with_reducible refine on_loop ?_); simp only [List.cons_append, List.nil_append]; refine W_norm [0, 3, 4, 5] ?_ (ih (q + 1) _ (acc ++ lg (nth (nth l i).row q)) _ (by omega) rfl rfl (by rw [hf]; simp [longs, List.append_assoc]) (by simp [lg_len]; omega)); (conv => lhs; cbv)
    simp (disch := omega) [hI, k190, en190, an190, hes, hna, hrs, hx, longU_long8, long8_take, long8_len, tU8_sing, tU8_pp, lg, List.append_assoc]
theorem L137 {w : World} {Xs : Nat → Prop} (l : List EntryV) (hl : l.length ≤ 200) (hr : ∀ e ∈ l, e.row.length ≤ 4) (fin : List Int) (es : List (List PV)) (hes : es = tEntry.encs l) :
    ∀ (k i n : Nat) (acc : List Int) (rs : List (List PV)), k + i = l.length → n = acc.length → rs = tU8.encs acc → fin = acc ++ setB (l.drop i) → acc.length ≤ 1 + 41 * i → W Try.prog 137 Try.f137 (Ent0 w Xs) (Back (Ent0 w Xs) (.one (.arr 0 0 fin.length)) [(0, .row 1 (tU8.encs fin))] 1) (place (bodyOf Try.f137) [1,1,0,1,0,0] [])
      ⟨[(0, .one (.pv (.sl false 2 es))), (3, .one (.arr 0 0 n)), (4, .one (.pv (.sc (.int .i64 ((i : Nat) : Int)))))], [(0, .row 1 rs)], 1⟩ := by
  obtain ⟨I, hI⟩ : ∃ I, I = real := ⟨_, rfl⟩; obtain ⟨K, hK⟩ : ∃ K : FuncId → En, K = fun g => (lk g [(190, en190)]).getD default := ⟨_, rfl⟩; have k190 : K 190 = en190 := (by subst hK; rfl); clear hK
  intro k
  induction k with
  | zero =>
    intro i n acc rs hk hna hrs hf hb
    have hx : True := trivial
    refine W_go (Y := (Tab.calls [(190, false, callIce I (callE I (K 190) sh190))])) xok (TabOk.calls mixed ⟨EntryOk.own (s190 hI k190) hI, notQuiet, trivial⟩) Try.func137 rfl 2000 _ hI ?_; (conv => arg 4; cbv)
    repeat' (first | ((with_reducible refine on_eqs ?_ ?_); (focus (with_reducible rfl)); conv => arg 4; cbv) | (with_reducible refine on_both ?_ ?_ <;> (conv => arg 4; cbv)) | (with_reducible refine on_true (by assumption) ?_; conv => arg 4; cbv) | (with_reducible refine on_false (by assumption) ?_; conv => arg 4; cbv) | (with_reducible refine on_ask (fun g => ?_) (fun g => ?_) <;> (have h := g) <;> (try simp (disch := omega) [hI, k190, en190, an190, hes, hna, hrs, hx, longU_long8, long8_take, long8_len, tU8_sing, tU8_pp, -List.length_eq_zero_iff] at h) <;> (try (exfalso; omega)) <;> (conv => arg 4; cbv)) | ((with_reducible refine on_must ?_ ?_); (focus (first | (simp (disch := omega) [hI, k190, en190, an190, hes, hna, hrs, hx, longU_long8, long8_take, long8_len, tU8_sing, tU8_pp]; done) | (simp (disch := omega) [hI, k190, en190, an190, hes, hna, hrs, hx, longU_long8, long8_take, long8_len, tU8_sing, tU8_pp]; omega) | (simp (disch := omega) [hI, k190, en190, an190, hes, hna, hrs, hx, longU_long8, long8_take, long8_len, tU8_sing, tU8_pp]; assumption) | (simp (disch := omega) [hI, k190, en190, an190, hes, hna, hrs, hx, longU_long8, long8_take, long8_len, tU8_sing, tU8_pp]; (refine And.intro ?_ ?_) <;> (first | omega | assumption)))); conv => arg 4; cbv))
    (with_reducible refine on_ret ?_); refine Ended_of rfl ?_; (conv => lhs; cbv)
    have h1 : l.drop i = [] := List.drop_of_length_le (by omega)
    rw [h1] at hf
    simp [hf, setB, hna, hrs]
  | succ k ih =>
    intro i n acc rs hk hna hrs hf hb
    have hx := hr _ (nth_mem (l := l) (i := i) (by omega))
    have hd : l.drop i = nth l i :: l.drop (i + 1) := nth_drop (by omega)
    rw [hd, setB] at hf
    refine W_go (Y := (Tab.calls [(190, false, callIce I (callE I (K 190) sh190))])) xok (TabOk.calls mixed ⟨EntryOk.own (s190 hI k190) hI, notQuiet, trivial⟩) Try.func137 rfl 2000 _ hI ?_; (conv => arg 4; cbv)
    repeat' (first | ((with_reducible refine on_eqs ?_ ?_); (focus (with_reducible rfl)); conv => arg 4; cbv) | (with_reducible refine on_both ?_ ?_ <;> (conv => arg 4; cbv)) | (with_reducible refine on_true (by assumption) ?_; conv => arg 4; cbv) | (with_reducible refine on_false (by assumption) ?_; conv => arg 4; cbv) | (with_reducible refine on_ask (fun g => ?_) (fun g => ?_) <;> (have h := g) <;> (try simp (disch := omega) [hI, k190, en190, an190, hes, hna, hrs, hx, longU_long8, long8_take, long8_len, tU8_sing, tU8_pp, -List.length_eq_zero_iff] at h) <;> (try (exfalso; omega)) <;> (conv => arg 4; cbv)) | ((with_reducible refine on_must ?_ ?_); (focus (first | (simp (disch := omega) [hI, k190, en190, an190, hes, hna, hrs, hx, longU_long8, long8_take, long8_len, tU8_sing, tU8_pp]; done) | (simp (disch := omega) [hI, k190, en190, an190, hes, hna, hrs, hx, longU_long8, long8_take, long8_len, tU8_sing, tU8_pp]; omega) | (simp (disch := omega) [hI, k190, en190, an190, hes, hna, hrs, hx, longU_long8, long8_take, long8_len, tU8_sing, tU8_pp]; assumption) | (simp (disch := omega) [hI, k190, en190, an190, hes, hna, hrs, hx, longU_long8, long8_take, long8_len, tU8_sing, tU8_pp]; (refine And.intro ?_ ?_) <;> (first | omega | assumption)))); conv => arg 4; cbv))
    (with_reducible refine on_loop ?_); simp only [List.cons_append, List.nil_append]; refine W_norm [0, 3, 4, 5] ?_ (M137 l hl fin es hes i (by omega) hx (fun n acc rs a b c d => ih (i + 1) n acc rs (by omega) a b c d) _ 0 _ (acc ++ [IntKind.u8.wrap (nth l i).row.length]) _ rfl rfl rfl (by rw [hf]; simp [List.append_assoc]) (by simp; omega)); (conv => lhs; cbv)
    simp (disch := omega) [hI, k190, en190, an190, hes, hna, hrs, hx, longU_long8, long8_take, long8_len, tU8_sing, tU8_pp, lg, List.append_assoc]
theorem ok137 (l : List EntryV) (hl : l.length ≤ 200) (hr : ∀ e ∈ l, e.row.length ≤ 4) : Ok0 Try.prog 137 [(pL tEntry).enc l] (.one (.arr 0 0 (real.len (tU8.encs (setY l))))) [(0, .row 1 (tU8.encs (setY l)))] 1 := by
  obtain ⟨I, hI⟩ : ∃ I, I = real := ⟨_, rfl⟩; obtain ⟨K, hK⟩ : ∃ K : FuncId → En, K = fun g => (lk g [(190, en190)]).getD default := ⟨_, rfl⟩; have k190 : K 190 = en190 := (by subst hK; rfl); clear hK
  have hna : True := trivial
  have hrs : True := trivial
  have hnl : True := trivial
  have hx : True := trivial
  have her : True := trivial
  have hnr : True := trivial
  have hwt : True := trivial
  obtain ⟨es, hes⟩ : ∃ es, es = tEntry.encs l := ⟨_, rfl⟩
  rw [r_len, Ty.encs_length]
  show Ok0 Try.prog 137 [.one (.pv (.sl false 2 (tEntry.encs l)))] _ _ 1
  refine RAVs_nothing (l' := [.one (.pv (.sl false 2 es))]) ?_ (fun h => by rw [hes]; exact h)
  refine Ok0_run (Y := (Tab.calls [(190, false, callIce I (callE I (K 190) sh190))])) xok (TabOk.calls mixed ⟨EntryOk.own (s190 hI k190) hI, notQuiet, trivial⟩) Try.func137 rfl rfl rfl 2000 hI fun w Xs => ?_; (conv => arg 4; cbv)
  repeat' (first | ((with_reducible refine on_eqs ?_ ?_); (focus (with_reducible rfl)); conv => arg 4; cbv) | (with_reducible refine on_both ?_ ?_ <;> (conv => arg 4; cbv)) | (with_reducible refine on_true (by assumption) ?_; conv => arg 4; cbv) | (with_reducible refine on_false (by assumption) ?_; conv => arg 4; cbv) | (with_reducible refine on_ask (fun g => ?_) (fun g => ?_) <;> (have h := g) <;> (try simp (disch := omega) [hI, k190, en190, an190, hes, hna, hrs, hx, longU_long8, long8_take, long8_len, tU8_sing, tU8_pp, -List.length_eq_zero_iff] at h) <;> (try (exfalso; omega)) <;> (conv => arg 4; cbv)) | ((with_reducible refine on_must ?_ ?_); (focus (first | (simp (disch := omega) [hI, k190, en190, an190, hes, hna, hrs, hx, longU_long8, long8_take, long8_len, tU8_sing, tU8_pp]; done) | (simp (disch := omega) [hI, k190, en190, an190, hes, hna, hrs, hx, longU_long8, long8_take, long8_len, tU8_sing, tU8_pp]; omega) | (simp (disch := omega) [hI, k190, en190, an190, hes, hna, hrs, hx, longU_long8, long8_take, long8_len, tU8_sing, tU8_pp]; assumption) | (simp (disch := omega) [hI, k190, en190, an190, hes, hna, hrs, hx, longU_long8, long8_take, long8_len, tU8_sing, tU8_pp]; (refine And.intro ?_ ?_) <;> (first | omega | assumption)))); conv => arg 4; cbv))
  (with_reducible refine on_loop ?_); simp only [List.cons_append, List.nil_append]; refine W_norm [0, 3, 4] ?_ (L137 l hl hr (setY l) es hes l.length 0 _ [IntKind.u8.wrap l.length] _ rfl rfl rfl rfl (by simp)); (conv => lhs; cbv)
  simp (disch := omega) [hI, k190, en190, an190, hes, hna, hrs, hx, longU_long8, long8_take, long8_len, tU8_sing, tU8_pp]

theorem s137 {I : Ops} (hI : I = real) {e : En} (he : e = en137) : Sound Try.prog 137 (callE I e sh137) := by
  refine Sound.mkE ent137 hI (fun _ => rfl) ?_ he
  rintro ⟨l, ⟨⟩⟩ hp
  
  have hp : (decide (l.length ≤ 200) && l.all fun e => decide (e.row.length ≤ 4)) = true := hp
  simp only [Bool.and_eq_true, List.all_eq_true, decide_eq_true_eq] at hp
  exact ok137 l hp.1 hp.2
end Go.Proofs.Try
