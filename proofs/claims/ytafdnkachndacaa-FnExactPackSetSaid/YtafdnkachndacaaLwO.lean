/- Contracts. -/
import Derived.Test.YtafdnkachndacaaLwN
set_option linter.unusedSimpArgs false
set_option linter.unusedVariables false
namespace Go.Proofs.Try
open Go Go.Aix
set_option maxRecDepth 100000
set_option maxHeartbeats 4000000
set_option linter.unusedSimpArgs false
set_option linter.unusedVariables false
def an138 : An (List EntryV × Unit) where
  pre t := decide (t.1.length ≤ 200) && t.1.all fun e => decide (e.row.length ≤ 4)
  l _ t := tU8.encs (setY t.1)
noncomputable def en138 : En := mkE (parsC (pL tEntry) pars0) an138
def sh138 : Shp := fun I i b l s => .ok (.one (.arr 0 0 (I.len (l 0))), [(0, .row 1 (l 0))], 1)
theorem ent138 : Enters Try.prog 138 := ⟨Try.f138, Try.func138, by kernel_rfl, by kernel_rfl⟩

theorem M138 {w : World} {Xs : Nat → Prop} (l : List EntryV) (hl : l.length ≤ 200) (fin : List Int) (es : List (List PV)) (hes : es = tEntry.encs l) (i : Nat) (hi : i < l.length) (hx : (nth l i).row.length ≤ 4) (nl : Nat) (hnl : nl = l.length) (er : List (List PV)) (her : er = tI64.encs (nth l i).row) (nr : Nat) (hnr : nr = (nth l i).row.length) (wt : Int) (hwt : wt = (nth l i).weight)
    (hn : ∀ (n : Nat) (acc : List Int) (rs : List (List PV)), n = acc.length → rs = tU8.encs acc → fin = acc ++ setB (l.drop (i + 1)) → acc.length ≤ 1 + 41 * (i + 1) → W Try.prog 138 Try.f138 (Ent0 w Xs) (Back (Ent0 w Xs) (.one (.arr 0 0 fin.length)) [(0, .row 1 (tU8.encs fin))] 1) (place (bodyOf Try.f138) [1,1,0,1,0,0] [])
      ⟨[(3, .one (.arr 0 0 n)), (12, .one (.pv (.sl false 2 es))), (13, .one (.pv (.sc (.int .i64 nl)))), (14, .one (.pv (.sc (.int .i64 ((i + 1 : Nat) : Int)))))], [(0, .row 1 rs)], 1⟩) :
    ∀ (k q n : Nat) (acc : List Int) (rs : List (List PV)), k + q = (nth l i).row.length → n = acc.length → rs = tU8.encs acc → fin = acc ++ longs ((nth l i).row.drop q) ++ lg (nth l i).weight ++ setB (l.drop (i + 1)) → acc.length ≤ 2 + 41 * i + 8 * q →
      W Try.prog 138 Try.f138 (Ent0 w Xs) (Back (Ent0 w Xs) (.one (.arr 0 0 fin.length)) [(0, .row 1 (tU8.encs fin))] 1) (place (bodyOf Try.f138) [1,1,0,1,0,0,1,1,0,0,1,1,0,1,0,0] [])
      ⟨[(3, .one (.arr 0 0 n)), (12, .one (.pv (.sl false 2 es))), (13, .one (.pv (.sc (.int .i64 nl)))), (14, .one (.pv (.sc (.int .i64 i)))), (5, .one (.ptr 1 0 0)), (26, .one (.pv (.sl false 1 er))), (27, .one (.pv (.sc (.int .i64 nr)))), (28, .one (.pv (.sc (.int .i64 q))))], [(0, .row 1 rs), (1, .box [.pv (.sl false 1 er), .pv (.sc (.int .i64 wt))])], 2⟩ := by
  obtain ⟨I, hI⟩ : ∃ I, I = real := ⟨_, rfl⟩; obtain ⟨K, hK⟩ : ∃ K : FuncId → En, K = fun g => (lk g [(192, en192)]).getD default := ⟨_, rfl⟩; have k192 : K 192 = en192 := (by subst hK; rfl); clear hK
  intro k
  induction k with
  | zero =>
    intro q n acc rs hk hna hrs hf hb
    have h1 : (nth l i).row.drop q = [] := List.drop_of_length_le (by omega)
    rw [h1] at hf
    refine W_go (Y := (Tab.calls [(192, false, callMv I (appT I (K 192) 1))])) xok (TabOk.calls mixed ⟨EntryOk.mv (s192 hI k192) hI, notQuiet, trivial⟩) Try.func138 rfl 2000 _ hI ?_; (conv => arg 4; cbv)
    repeat' (first | ((with_reducible refine on_eqs ?_ ?_); (focus (with_reducible rfl)); conv => arg 4; cbv) | (with_reducible refine on_both ?_ ?_ <;> (conv => arg 4; cbv)) | (with_reducible refine on_true (by assumption) ?_; conv => arg 4; cbv) | (with_reducible refine on_false (by assumption) ?_; conv => arg 4; cbv) | (with_reducible refine on_ask (fun g => ?_) (fun g => ?_) <;> (have h := g) <;> (try simp (disch := omega) [hI, k192, en192, an192, hes, hna, hrs, hx, hnl, her, hnr, hwt, long8_len, tU8_sing, tU8_pp, -List.length_eq_zero_iff] at h) <;> (try (exfalso; omega)) <;> (conv => arg 4; cbv)) | ((with_reducible refine on_must ?_ ?_); (focus (first | (simp (disch := omega) [hI, k192, en192, an192, hes, hna, hrs, hx, hnl, her, hnr, hwt, long8_len, tU8_sing, tU8_pp]; done) | (simp (disch := omega) [hI, k192, en192, an192, hes, hna, hrs, hx, hnl, her, hnr, hwt, long8_len, tU8_sing, tU8_pp]; omega) | (simp (disch := omega) [hI, k192, en192, an192, hes, hna, hrs, hx, hnl, her, hnr, hwt, long8_len, tU8_sing, tU8_pp]; assumption) | (simp (disch := omega) [hI, k192, en192, an192, hes, hna, hrs, hx, hnl, her, hnr, hwt, long8_len, tU8_sing, tU8_pp]; (refine And.intro ?_ ?_) <;> (first | omega | assumption)))); conv => arg 4; cbv))
    (with_reducible refine on_loop ?_); simp only [List.cons_append, List.nil_append]; refine W_norm [3, 12, 13, 14] ?_ (hn _ (acc ++ lg (nth l i).weight) _ rfl rfl (by rw [hf]; simp [longs]) (by simp [lg_len]; omega)); (conv => lhs; cbv)
    simp (disch := omega) [hI, k192, en192, an192, hes, hna, hrs, hx, hnl, her, hnr, hwt, long8_len, tU8_sing, tU8_pp, lg, List.append_assoc]
  | succ k ih =>
    intro q n acc rs hk hna hrs hf hb
    have hd : (nth l i).row.drop q = nth (nth l i).row q :: (nth l i).row.drop (q + 1) := nth_drop (by omega)
    rw [hd] at hf
    refine W_go (Y := (Tab.calls [(192, false, callMv I (appT I (K 192) 1))])) xok (TabOk.calls mixed ⟨EntryOk.mv (s192 hI k192) hI, notQuiet, trivial⟩) Try.func138 rfl 2000 _ hI ?_; (conv => arg 4; cbv)
    repeat' (first | ((with_reducible refine on_eqs ?_ ?_); (focus (with_reducible rfl)); conv => arg 4; cbv) | (with_reducible refine on_both ?_ ?_ <;> (conv => arg 4; cbv)) | (with_reducible refine on_true (by assumption) ?_; conv => arg 4; cbv) | (with_reducible refine on_false (by assumption) ?_; conv => arg 4; cbv) | (with_reducible refine on_ask (fun g => ?_) (fun g => ?_) <;> (have h := g) <;> (try simp (disch := omega) [hI, k192, en192, an192, hes, hna, hrs, hx, hnl, her, hnr, hwt, long8_len, tU8_sing, tU8_pp, -List.length_eq_zero_iff] at h) <;> (try (exfalso; omega)) <;> (conv => arg 4; cbv)) | ((with_reducible refine on_must ?_ ?_); (focus (first | (simp (disch := omega) [hI, k192, en192, an192, hes, hna, hrs, hx, hnl, her, hnr, hwt, long8_len, tU8_sing, tU8_pp]; done) | (simp (disch := omega) [hI, k192, en192, an192, hes, hna, hrs, hx, hnl, her, hnr, hwt, long8_len, tU8_sing, tU8_pp]; omega) | (simp (disch := omega) [hI, k192, en192, an192, hes, hna, hrs, hx, hnl, her, hnr, hwt, long8_len, tU8_sing, tU8_pp]; assumption) | (simp (disch := omega) [hI, k192, en192, an192, hes, hna, hrs, hx, hnl, her, hnr, hwt, long8_len, tU8_sing, tU8_pp]; (refine And.intro ?_ ?_) <;> (first | omega | assumption)))); conv => arg 4; cbv))
    (with_reducible refine on_loop ?_); simp only [List.cons_append, List.nil_append]; refine W_norm [3, 12, 13, 14, 5, 26, 27, 28] ?_ (ih (q + 1) _ (acc ++ lg (nth (nth l i).row q)) _ (by omega) rfl rfl (by rw [hf]; simp [longs, List.append_assoc]) (by simp [lg_len]; omega)); (conv => lhs; cbv)
    simp (disch := omega) [hI, k192, en192, an192, hes, hna, hrs, hx, hnl, her, hnr, hwt, long8_len, tU8_sing, tU8_pp, lg, List.append_assoc]
theorem L138 {w : World} {Xs : Nat → Prop} (l : List EntryV) (hl : l.length ≤ 200) (hr : ∀ e ∈ l, e.row.length ≤ 4) (fin : List Int) (es : List (List PV)) (hes : es = tEntry.encs l) (nl : Nat) (hnl : nl = l.length) :
    ∀ (k i n : Nat) (acc : List Int) (rs : List (List PV)), k + i = l.length → n = acc.length → rs = tU8.encs acc → fin = acc ++ setB (l.drop i) → acc.length ≤ 1 + 41 * i → W Try.prog 138 Try.f138 (Ent0 w Xs) (Back (Ent0 w Xs) (.one (.arr 0 0 fin.length)) [(0, .row 1 (tU8.encs fin))] 1) (place (bodyOf Try.f138) [1,1,0,1,0,0] [])
      ⟨[(3, .one (.arr 0 0 n)), (12, .one (.pv (.sl false 2 es))), (13, .one (.pv (.sc (.int .i64 nl)))), (14, .one (.pv (.sc (.int .i64 ((i : Nat) : Int)))))], [(0, .row 1 rs)], 1⟩ := by
  obtain ⟨I, hI⟩ : ∃ I, I = real := ⟨_, rfl⟩; obtain ⟨K, hK⟩ : ∃ K : FuncId → En, K = fun g => (lk g [(192, en192)]).getD default := ⟨_, rfl⟩; have k192 : K 192 = en192 := (by subst hK; rfl); clear hK
  intro k
  induction k with
  | zero =>
    intro i n acc rs hk hna hrs hf hb
    have hx : True := trivial
    have her : True := trivial
    have hnr : True := trivial
    have hwt : True := trivial
    refine W_go (Y := (Tab.calls [(192, false, callMv I (appT I (K 192) 1))])) xok (TabOk.calls mixed ⟨EntryOk.mv (s192 hI k192) hI, notQuiet, trivial⟩) Try.func138 rfl 2000 _ hI ?_; (conv => arg 4; cbv)
    repeat' (first | ((with_reducible refine on_eqs ?_ ?_); (focus (with_reducible rfl)); conv => arg 4; cbv) | (with_reducible refine on_both ?_ ?_ <;> (conv => arg 4; cbv)) | (with_reducible refine on_true (by assumption) ?_; conv => arg 4; cbv) | (with_reducible refine on_false (by assumption) ?_; conv => arg 4; cbv) | (with_reducible refine on_ask (fun g => ?_) (fun g => ?_) <;> (have h := g) <;> (try simp (disch := omega) [hI, k192, en192, an192, hes, hna, hrs, hx, hnl, her, hnr, hwt, long8_len, tU8_sing, tU8_pp, -List.length_eq_zero_iff] at h) <;> (try (exfalso; omega)) <;> (conv => arg 4; cbv)) | ((with_reducible refine on_must ?_ ?_); (focus (first | (simp (disch := omega) [hI, k192, en192, an192, hes, hna, hrs, hx, hnl, her, hnr, hwt, long8_len, tU8_sing, tU8_pp]; done) | (simp (disch := omega) [hI, k192, en192, an192, hes, hna, hrs, hx, hnl, her, hnr, hwt, long8_len, tU8_sing, tU8_pp]; omega) | (simp (disch := omega) [hI, k192, en192, an192, hes, hna, hrs, hx, hnl, her, hnr, hwt, long8_len, tU8_sing, tU8_pp]; assumption) | (simp (disch := omega) [hI, k192, en192, an192, hes, hna, hrs, hx, hnl, her, hnr, hwt, long8_len, tU8_sing, tU8_pp]; (refine And.intro ?_ ?_) <;> (first | omega | assumption)))); conv => arg 4; cbv))
    (with_reducible refine on_ret ?_); refine Ended_of rfl ?_; (conv => lhs; cbv)
    have h1 : l.drop i = [] := List.drop_of_length_le (by omega)
    rw [h1] at hf
    simp [hf, setB, hna, hrs]
  | succ k ih =>
    intro i n acc rs hk hna hrs hf hb
    have hx := hr _ (nth_mem (l := l) (i := i) (by omega))
    have hd : l.drop i = nth l i :: l.drop (i + 1) := nth_drop (by omega)
    rw [hd, setB] at hf
    have her : True := trivial
    have hnr : True := trivial
    have hwt : True := trivial
    refine W_go (Y := (Tab.calls [(192, false, callMv I (appT I (K 192) 1))])) xok (TabOk.calls mixed ⟨EntryOk.mv (s192 hI k192) hI, notQuiet, trivial⟩) Try.func138 rfl 2000 _ hI ?_; (conv => arg 4; cbv)
    repeat' (first | ((with_reducible refine on_eqs ?_ ?_); (focus (with_reducible rfl)); conv => arg 4; cbv) | (with_reducible refine on_both ?_ ?_ <;> (conv => arg 4; cbv)) | (with_reducible refine on_true (by assumption) ?_; conv => arg 4; cbv) | (with_reducible refine on_false (by assumption) ?_; conv => arg 4; cbv) | (with_reducible refine on_ask (fun g => ?_) (fun g => ?_) <;> (have h := g) <;> (try simp (disch := omega) [hI, k192, en192, an192, hes, hna, hrs, hx, hnl, her, hnr, hwt, long8_len, tU8_sing, tU8_pp, -List.length_eq_zero_iff] at h) <;> (try (exfalso; omega)) <;> (conv => arg 4; cbv)) | ((with_reducible refine on_must ?_ ?_); (focus (first | (simp (disch := omega) [hI, k192, en192, an192, hes, hna, hrs, hx, hnl, her, hnr, hwt, long8_len, tU8_sing, tU8_pp]; done) | (simp (disch := omega) [hI, k192, en192, an192, hes, hna, hrs, hx, hnl, her, hnr, hwt, long8_len, tU8_sing, tU8_pp]; omega) | (simp (disch := omega) [hI, k192, en192, an192, hes, hna, hrs, hx, hnl, her, hnr, hwt, long8_len, tU8_sing, tU8_pp]; assumption) | (simp (disch := omega) [hI, k192, en192, an192, hes, hna, hrs, hx, hnl, her, hnr, hwt, long8_len, tU8_sing, tU8_pp]; (refine And.intro ?_ ?_) <;> (first | omega | assumption)))); conv => arg 4; cbv))
    (with_reducible refine on_loop ?_); simp only [List.cons_append, List.nil_append]; refine W_norm [3, 12, 13, 14, 5, 26, 27, 28] ?_ (M138 l hl fin es hes i (by omega) hx nl hnl _ rfl _ rfl _ rfl (fun n acc rs a b c d => ih (i + 1) n acc rs (by omega) a b c d) _ 0 _ (acc ++ [IntKind.u8.wrap (nth l i).row.length]) _ rfl rfl rfl (by rw [hf]; simp [List.append_assoc]) (by simp; omega)); (conv => lhs; cbv)
    simp (disch := omega) [hI, k192, en192, an192, hes, hna, hrs, hx, hnl, her, hnr, hwt, long8_len, tU8_sing, tU8_pp, lg, List.append_assoc]
theorem ok138 (l : List EntryV) (hl : l.length ≤ 200) (hr : ∀ e ∈ l, e.row.length ≤ 4) : Ok0 Try.prog 138 [(pL tEntry).enc l] (.one (.arr 0 0 (real.len (tU8.encs (setY l))))) [(0, .row 1 (tU8.encs (setY l)))] 1 := by
  obtain ⟨I, hI⟩ : ∃ I, I = real := ⟨_, rfl⟩; obtain ⟨K, hK⟩ : ∃ K : FuncId → En, K = fun g => (lk g [(192, en192)]).getD default := ⟨_, rfl⟩; have k192 : K 192 = en192 := (by subst hK; rfl); clear hK
  have hna : True := trivial
  have hrs : True := trivial
  have hnl : True := trivial
  have hx : True := trivial
  have her : True := trivial
  have hnr : True := trivial
  have hwt : True := trivial
  obtain ⟨es, hes⟩ : ∃ es, es = tEntry.encs l := ⟨_, rfl⟩
  rw [r_len, Ty.encs_length]
  show Ok0 Try.prog 138 [.one (.pv (.sl false 2 (tEntry.encs l)))] _ _ 1
  refine RAVs_nothing (l' := [.one (.pv (.sl false 2 es))]) ?_ (fun h => by rw [hes]; exact h)
  refine Ok0_run (Y := (Tab.calls [(192, false, callMv I (appT I (K 192) 1))])) xok (TabOk.calls mixed ⟨EntryOk.mv (s192 hI k192) hI, notQuiet, trivial⟩) Try.func138 rfl rfl rfl 2000 hI fun w Xs => ?_; (conv => arg 4; cbv)
  repeat' (first | ((with_reducible refine on_eqs ?_ ?_); (focus (with_reducible rfl)); conv => arg 4; cbv) | (with_reducible refine on_both ?_ ?_ <;> (conv => arg 4; cbv)) | (with_reducible refine on_true (by assumption) ?_; conv => arg 4; cbv) | (with_reducible refine on_false (by assumption) ?_; conv => arg 4; cbv) | (with_reducible refine on_ask (fun g => ?_) (fun g => ?_) <;> (have h := g) <;> (try simp (disch := omega) [hI, k192, en192, an192, hes, hna, hrs, hx, hnl, her, hnr, hwt, long8_len, tU8_sing, tU8_pp, -List.length_eq_zero_iff] at h) <;> (try (exfalso; omega)) <;> (conv => arg 4; cbv)) | ((with_reducible refine on_must ?_ ?_); (focus (first | (simp (disch := omega) [hI, k192, en192, an192, hes, hna, hrs, hx, hnl, her, hnr, hwt, long8_len, tU8_sing, tU8_pp]; done) | (simp (disch := omega) [hI, k192, en192, an192, hes, hna, hrs, hx, hnl, her, hnr, hwt, long8_len, tU8_sing, tU8_pp]; omega) | (simp (disch := omega) [hI, k192, en192, an192, hes, hna, hrs, hx, hnl, her, hnr, hwt, long8_len, tU8_sing, tU8_pp]; assumption) | (simp (disch := omega) [hI, k192, en192, an192, hes, hna, hrs, hx, hnl, her, hnr, hwt, long8_len, tU8_sing, tU8_pp]; (refine And.intro ?_ ?_) <;> (first | omega | assumption)))); conv => arg 4; cbv))
  (with_reducible refine on_loop ?_); simp only [List.cons_append, List.nil_append]; refine W_norm [3, 12, 13, 14] ?_ (L138 l hl hr (setY l) es hes _ rfl l.length 0 _ [IntKind.u8.wrap l.length] _ rfl rfl rfl rfl (by simp)); (conv => lhs; cbv)
  simp (disch := omega) [hI, k192, en192, an192, hes, hna, hrs, hx, hnl, her, hnr, hwt, long8_len, tU8_sing, tU8_pp]

theorem s138 {I : Ops} (hI : I = real) {e : En} (he : e = en138) : Sound Try.prog 138 (callE I e sh138) := by
  refine Sound.mkE ent138 hI (fun _ => rfl) ?_ he
  rintro ⟨l, ⟨⟩⟩ hp
  
  have hp : (decide (l.length ≤ 200) && l.all fun e => decide (e.row.length ≤ 4)) = true := hp
  simp only [Bool.and_eq_true, List.all_eq_true, decide_eq_true_eq] at hp
  exact ok138 l hp.1 hp.2
def an60 : An (List EntryV × Unit) where
  pre t := t.1.all fun e => decide (e.row.length < 4611686018427387904)
  b _ t := decide (setF t.1 ≠ 0)
  i _ t := setF t.1
  l _ t := tU8.encs (setY t.1)
noncomputable def en60 : En := mkE (parsC (pL tEntry) pars0) an60
def sh60 : Shp := fun I i b l s => .ask (b 0) fun t => match t with | true => .ok (.ag [.pv (.sc (.int .i64 (i 0))), .pv .nl], [], 0) | false => .ok (.ag [.pv (.sc (.int .i64 0)), .arr 0 0 (I.len (l 0))], [(0, .row 1 (l 0))], 1)
theorem ent60 : Enters Try.prog 60 := ⟨Try.f60, Try.func60, by kernel_rfl, by kernel_rfl⟩

theorem okA60 (l : List EntryV) (hb : ∀ e ∈ l, e.row.length < 4611686018427387904) (hz : setF l ≠ 0) : Ok0 Try.prog 60 [(pL tEntry).enc l] (.ag [.pv (.sc (.int .i64 (setF l))), .pv .nl]) [] 0 := by
  obtain ⟨I, hI⟩ : ∃ I, I = real := ⟨_, rfl⟩; obtain ⟨K, hK⟩ : ∃ K : FuncId → En, K = fun g => (lk g [(136, en136), (137, en137)]).getD default := ⟨_, rfl⟩; have k136 : K 136 = en136 := (by subst hK; rfl); have k137 : K 137 = en137 := (by subst hK; rfl); clear hK
  have hs : True := trivial
  obtain ⟨es, hes⟩ : ∃ es, es = tEntry.encs l := ⟨_, rfl⟩
  show Ok0 Try.prog 60 [.one (.pv (.sl false 2 (tEntry.encs l)))] _ [] 0
  rw [← hes]
  refine Ok0_run (Y := (Tab.calls [(136, true, callRd I (callE I (K 136) sh136)), (137, false, callIce I (callE I (K 137) sh137))])) xok (TabOk.calls mixed ⟨EntryOk.rd (s136 hI k136) hI, fun _ => callRd_quiet _ _, ⟨EntryOk.own (s137 hI k137) hI, notQuiet, trivial⟩⟩) Try.func60 rfl rfl rfl 2000 hI fun w Xs => ?_; (conv => arg 4; cbv)
  repeat' (first | ((with_reducible refine on_eqs ?_ ?_); (focus (with_reducible rfl)); conv => arg 4; cbv) | (with_reducible refine on_both ?_ ?_ <;> (conv => arg 4; cbv)) | (with_reducible refine on_true (by assumption) ?_; conv => arg 4; cbv) | (with_reducible refine on_false (by assumption) ?_; conv => arg 4; cbv) | (with_reducible refine on_ask (fun g => ?_) (fun g => ?_) <;> (have h := g) <;> (try simp (disch := omega) [hI, k136, en136, an136, k137, en137, an137, hes, -List.length_eq_zero_iff] at h) <;> (try (exfalso; omega)) <;> (conv => arg 4; cbv)) | ((with_reducible refine on_must ?_ ?_); (focus (first | (simp (disch := omega) [hI, k136, en136, an136, k137, en137, an137, hes]; done) | (simp (disch := omega) [hI, k136, en136, an136, k137, en137, an137, hes]; omega) | (simp (disch := omega) [hI, k136, en136, an136, k137, en137, an137, hes]; assumption) | (simp (disch := omega) [hI, k136, en136, an136, k137, en137, an137, hes]; (refine And.intro ?_ ?_) <;> (first | omega | assumption)))); conv => arg 4; cbv))
  · (with_reducible refine on_ret ?_); refine Ended_of rfl ?_; (conv => lhs; cbv); simp (disch := omega) [hI, k136, en136, an136, k137, en137, an137, hes]
theorem okB60 (l : List EntryV) (hb : ∀ e ∈ l, e.row.length < 4611686018427387904) (hz : setF l = 0) : Ok0 Try.prog 60 [(pL tEntry).enc l] (.ag [.pv (.sc (.int .i64 0)), .arr 0 0 (real.len (tU8.encs (setY l)))]) [(0, .row 1 (tU8.encs (setY l)))] 1 := by
  obtain ⟨hs, hq⟩ := setF_ok hz
  obtain ⟨I, hI⟩ : ∃ I, I = real := ⟨_, rfl⟩; obtain ⟨K, hK⟩ : ∃ K : FuncId → En, K = fun g => (lk g [(136, en136), (137, en137)]).getD default := ⟨_, rfl⟩; have k136 : K 136 = en136 := (by subst hK; rfl); have k137 : K 137 = en137 := (by subst hK; rfl); clear hK
  obtain ⟨es, hes⟩ : ∃ es, es = tEntry.encs l := ⟨_, rfl⟩
  show Ok0 Try.prog 60 [.one (.pv (.sl false 2 (tEntry.encs l)))] _ _ 1
  rw [← hes]
  refine Ok0_run (Y := (Tab.calls [(136, true, callRd I (callE I (K 136) sh136)), (137, false, callIce I (callE I (K 137) sh137))])) xok (TabOk.calls mixed ⟨EntryOk.rd (s136 hI k136) hI, fun _ => callRd_quiet _ _, ⟨EntryOk.own (s137 hI k137) hI, notQuiet, trivial⟩⟩) Try.func60 rfl rfl rfl 2000 hI fun w Xs => ?_; (conv => arg 4; cbv)
  repeat' (first | ((with_reducible refine on_eqs ?_ ?_); (focus (with_reducible rfl)); conv => arg 4; cbv) | (with_reducible refine on_both ?_ ?_ <;> (conv => arg 4; cbv)) | (with_reducible refine on_true (by assumption) ?_; conv => arg 4; cbv) | (with_reducible refine on_false (by assumption) ?_; conv => arg 4; cbv) | (with_reducible refine on_ask (fun g => ?_) (fun g => ?_) <;> (have h := g) <;> (try simp (disch := omega) [hI, k136, en136, an136, k137, en137, an137, hes, -List.length_eq_zero_iff] at h) <;> (try (exfalso; omega)) <;> (conv => arg 4; cbv)) | ((with_reducible refine on_must ?_ ?_); (focus (first | (simp (disch := omega) [hI, k136, en136, an136, k137, en137, an137, hes]; done) | (simp (disch := omega) [hI, k136, en136, an136, k137, en137, an137, hes]; omega) | (simp (disch := omega) [hI, k136, en136, an136, k137, en137, an137, hes]; assumption) | (simp (disch := omega) [hI, k136, en136, an136, k137, en137, an137, hes]; (refine And.intro ?_ ?_) <;> (first | omega | assumption)))); conv => arg 4; cbv))
  · (with_reducible refine on_ret ?_); refine Ended_of rfl ?_; (conv => lhs; cbv); simp (disch := omega) [hI, k136, en136, an136, k137, en137, an137, hes]

theorem s60 {I : Ops} (hI : I = real) {e : En} (he : e = en60) : Sound Try.prog 60 (callE I e sh60) := by
  refine Sound.mkR ent60 hI ?_ he
  rintro ⟨l, ⟨⟩⟩ hp r σ n e
  
  have hp : (l.all fun e => decide (e.row.length < 4611686018427387904)) = true := hp
  simp only [List.all_eq_true, decide_eq_true_eq] at hp
  have e : ((if setF l ≠ 0 then R.ok (.ag [.pv (.sc (.int .i64 (setF l))), .pv .nl], [], 0) else R.ok (.ag [.pv (.sc (.int .i64 0)), .arr 0 0 (real.len (tU8.encs (setY l)))], [(0, .row 1 (tU8.encs (setY l)))], 1)) : R (AV × Store × Nat)).val = some (r, σ, n) := by
    rw [← e]
    by_cases hz : setF l = 0 <;> simp [sh60, an60, hz, val_ask]
  by_cases hz : setF l = 0
  · rw [if_neg (by simpa using hz)] at e
    cases e
    exact okB60 l hp hz
  · rw [if_pos hz] at e
    cases e
    exact okA60 l hp hz
def an61 : An (List EntryV × Unit) where
  pre t := t.1.all fun e => decide (e.row.length < 4611686018427387904)
  b _ t := decide (setF t.1 ≠ 0)
  i _ t := setF t.1
  l _ t := tU8.encs (setY t.1)
noncomputable def en61 : En := mkE (parsC (pL tEntry) pars0) an61
def sh61 : Shp := fun I i b l s => .ask (b 0) fun t => match t with | true => .ok (.ag [.pv (.sc (.int .i64 (i 0))), .pv .nl], [], 0) | false => .ok (.ag [.pv (.sc (.int .i64 0)), .arr 0 0 (I.len (l 0))], [(0, .row 1 (l 0))], 1)
theorem ent61 : Enters Try.prog 61 := ⟨Try.f61, Try.func61, by kernel_rfl, by kernel_rfl⟩

theorem okA61 (l : List EntryV) (hb : ∀ e ∈ l, e.row.length < 4611686018427387904) (hz : setF l ≠ 0) : Ok0 Try.prog 61 [(pL tEntry).enc l] (.ag [.pv (.sc (.int .i64 (setF l))), .pv .nl]) [] 0 := by
  obtain ⟨I, hI⟩ : ∃ I, I = real := ⟨_, rfl⟩; obtain ⟨K, hK⟩ : ∃ K : FuncId → En, K = fun g => (lk g [(118, en118), (138, en138)]).getD default := ⟨_, rfl⟩; have k118 : K 118 = en118 := (by subst hK; rfl); have k138 : K 138 = en138 := (by subst hK; rfl); clear hK
  have hs : True := trivial
  obtain ⟨es, hes⟩ : ∃ es, es = tEntry.encs l := ⟨_, rfl⟩
  show Ok0 Try.prog 61 [.one (.pv (.sl false 2 (tEntry.encs l)))] _ [] 0
  rw [← hes]
  refine Ok0_run (Y := (Tab.calls [(118, true, callRd I (callE I (K 118) sh118)), (138, false, callIce I (callE I (K 138) sh138))])) xok (TabOk.calls mixed ⟨EntryOk.rd (s118 hI k118) hI, fun _ => callRd_quiet _ _, ⟨EntryOk.own (s138 hI k138) hI, notQuiet, trivial⟩⟩) Try.func61 rfl rfl rfl 2000 hI fun w Xs => ?_; (conv => arg 4; cbv)
  repeat' (first | ((with_reducible refine on_eqs ?_ ?_); (focus (with_reducible rfl)); conv => arg 4; cbv) | (with_reducible refine on_both ?_ ?_ <;> (conv => arg 4; cbv)) | (with_reducible refine on_true (by assumption) ?_; conv => arg 4; cbv) | (with_reducible refine on_false (by assumption) ?_; conv => arg 4; cbv) | (with_reducible refine on_ask (fun g => ?_) (fun g => ?_) <;> (have h := g) <;> (try simp (disch := omega) [hI, k118, en118, an118, k138, en138, an138, hes, -List.length_eq_zero_iff] at h) <;> (try (exfalso; omega)) <;> (conv => arg 4; cbv)) | ((with_reducible refine on_must ?_ ?_); (focus (first | (simp (disch := omega) [hI, k118, en118, an118, k138, en138, an138, hes]; done) | (simp (disch := omega) [hI, k118, en118, an118, k138, en138, an138, hes]; omega) | (simp (disch := omega) [hI, k118, en118, an118, k138, en138, an138, hes]; assumption) | (simp (disch := omega) [hI, k118, en118, an118, k138, en138, an138, hes]; (refine And.intro ?_ ?_) <;> (first | omega | assumption)))); conv => arg 4; cbv))
  · (with_reducible refine on_ret ?_); refine Ended_of rfl ?_; (conv => lhs; cbv); simp (disch := omega) [hI, k118, en118, an118, k138, en138, an138, hes]
theorem okB61 (l : List EntryV) (hb : ∀ e ∈ l, e.row.length < 4611686018427387904) (hz : setF l = 0) : Ok0 Try.prog 61 [(pL tEntry).enc l] (.ag [.pv (.sc (.int .i64 0)), .arr 0 0 (real.len (tU8.encs (setY l)))]) [(0, .row 1 (tU8.encs (setY l)))] 1 := by
  obtain ⟨hs, hq⟩ := setF_ok hz
  obtain ⟨I, hI⟩ : ∃ I, I = real := ⟨_, rfl⟩; obtain ⟨K, hK⟩ : ∃ K : FuncId → En, K = fun g => (lk g [(118, en118), (138, en138)]).getD default := ⟨_, rfl⟩; have k118 : K 118 = en118 := (by subst hK; rfl); have k138 : K 138 = en138 := (by subst hK; rfl); clear hK
  obtain ⟨es, hes⟩ : ∃ es, es = tEntry.encs l := ⟨_, rfl⟩
  show Ok0 Try.prog 61 [.one (.pv (.sl false 2 (tEntry.encs l)))] _ _ 1
  rw [← hes]
  refine Ok0_run (Y := (Tab.calls [(118, true, callRd I (callE I (K 118) sh118)), (138, false, callIce I (callE I (K 138) sh138))])) xok (TabOk.calls mixed ⟨EntryOk.rd (s118 hI k118) hI, fun _ => callRd_quiet _ _, ⟨EntryOk.own (s138 hI k138) hI, notQuiet, trivial⟩⟩) Try.func61 rfl rfl rfl 2000 hI fun w Xs => ?_; (conv => arg 4; cbv)
  repeat' (first | ((with_reducible refine on_eqs ?_ ?_); (focus (with_reducible rfl)); conv => arg 4; cbv) | (with_reducible refine on_both ?_ ?_ <;> (conv => arg 4; cbv)) | (with_reducible refine on_true (by assumption) ?_; conv => arg 4; cbv) | (with_reducible refine on_false (by assumption) ?_; conv => arg 4; cbv) | (with_reducible refine on_ask (fun g => ?_) (fun g => ?_) <;> (have h := g) <;> (try simp (disch := omega) [hI, k118, en118, an118, k138, en138, an138, hes, -List.length_eq_zero_iff] at h) <;> (try (exfalso; omega)) <;> (conv => arg 4; cbv)) | ((with_reducible refine on_must ?_ ?_); (focus (first | (simp (disch := omega) [hI, k118, en118, an118, k138, en138, an138, hes]; done) | (simp (disch := omega) [hI, k118, en118, an118, k138, en138, an138, hes]; omega) | (simp (disch := omega) [hI, k118, en118, an118, k138, en138, an138, hes]; assumption) | (simp (disch := omega) [hI, k118, en118, an118, k138, en138, an138, hes]; (refine And.intro ?_ ?_) <;> (first | omega | assumption)))); conv => arg 4; cbv))
  · (with_reducible refine on_ret ?_); refine Ended_of rfl ?_; (conv => lhs; cbv); simp (disch := omega) [hI, k118, en118, an118, k138, en138, an138, hes]

theorem s61 {I : Ops} (hI : I = real) {e : En} (he : e = en61) : Sound Try.prog 61 (callE I e sh61) := by
  refine Sound.mkR ent61 hI ?_ he
  rintro ⟨l, ⟨⟩⟩ hp r σ n e
  
  have hp : (l.all fun e => decide (e.row.length < 4611686018427387904)) = true := hp
  simp only [List.all_eq_true, decide_eq_true_eq] at hp
  have e : ((if setF l ≠ 0 then R.ok (.ag [.pv (.sc (.int .i64 (setF l))), .pv .nl], [], 0) else R.ok (.ag [.pv (.sc (.int .i64 0)), .arr 0 0 (real.len (tU8.encs (setY l)))], [(0, .row 1 (tU8.encs (setY l)))], 1)) : R (AV × Store × Nat)).val = some (r, σ, n) := by
    rw [← e]
    by_cases hz : setF l = 0 <;> simp [sh61, an61, hz, val_ask]
  by_cases hz : setF l = 0
  · rw [if_neg (by simpa using hz)] at e
    cases e
    exact okB61 l hp hz
  · rw [if_pos hz] at e
    cases e
    exact okA61 l hp hz
end Go.Proofs.Try
