/- Contracts. -/
import Derived.Test.YtafdnkachndacaaLwH
set_option linter.unusedSimpArgs false
set_option linter.unusedVariables false
namespace Go.Proofs.Try
open Go Go.Aix
set_option maxRecDepth 100000
set_option maxHeartbeats 4000000
set_option linter.unusedSimpArgs false
set_option linter.unusedVariables false
/-- The bytes of a number. -/
def lg (n : Int) : List Int := long8 (IntKind.i64.wrap (n + 4611686018427387904)) 8
theorem tU8_snoc (l : List Int) (a : Int) : tU8.encs l ++ [[PV.sc (.int .u8 a)]] = tU8.encs (l ++ [a]) := (tU8.encs_append l [a]).symm
theorem tU8_pp (l r : List Int) : tU8.encs l ++ tU8.encs r = tU8.encs (l ++ r) := (tU8.encs_append l r).symm
theorem tU8_sing (a : Int) : [[PV.sc (.int .u8 a)]] = tU8.encs [a] := rfl
def newsC : List CountV → List Int
  | [] => []
  | c :: r => ([IntKind.u8.wrap c.place] ++ lg c.epoch ++ lg c.n) ++ newsC r
theorem newsC_len : ∀ l, (newsC l).length = 17 * l.length
  | [] => rfl
  | c :: r => by simp [newsC, newsC_len r, lg, long8_len]; omega

def an129 : An (List CountV × Unit) where
  pre t := decide (t.1.length ≤ 1000)
  l _ t := tU8.encs ([IntKind.u8.wrap t.1.length] ++ newsC t.1)
noncomputable def en129 : En := mkE (parsC (pL tCount) pars0) an129
def sh129 : Shp := fun I i b l s => .ok (.one (.arr 0 0 (I.len (l 0))), [(0, .row 1 (l 0))], 1)
theorem ent129 : Enters Try.prog 129 := ⟨Try.f129, Try.func129, by kernel_rfl, by kernel_rfl⟩

theorem L129 {w : World} {Xs : Nat → Prop} (l : List CountV) (hl : l.length ≤ 1000) (es : List (List PV)) (hes : es = tCount.encs l) (nl : Nat) (hnl : nl = l.length) :
    ∀ (k i n : Nat) (acc : List Int) (rs : List (List PV)), k + i = l.length → n = acc.length → rs = tU8.encs acc → acc.length = 1 + 17 * i → W Try.prog 129 Try.f129 (Ent0 w Xs) (Back (Ent0 w Xs) (.one (.arr 0 0 (acc.length + 17 * k))) [(0, .row 1 (tU8.encs (acc ++ newsC (l.drop i))))] 1) (place (bodyOf Try.f129) [1,1,0,1,0,0] [])
      ⟨[(3, .one (.arr 0 0 n)), (10, .one (.pv (.sl false 3 es))), (11, .one (.pv (.sc (.int .i64 nl)))), (12, .one (.pv (.sc (.int .i64 i))))], [(0, .row 1 rs)], 1⟩ := by
  obtain ⟨I, hI⟩ : ∃ I, I = real := ⟨_, rfl⟩; obtain ⟨K, hK⟩ : ∃ K : FuncId → En, K = fun g => (lk g [(192, en192)]).getD default := ⟨_, rfl⟩; have k192 : K 192 = en192 := (by subst hK; rfl); clear hK
  intro k
  induction k with
  | zero =>
    intro i n acc rs hk hn hrs hb
    refine W_go (Y := (Tab.calls [(192, false, callMv I (appT I (K 192) 1))])) xok (TabOk.calls mixed ⟨EntryOk.mv (s192 hI k192) hI, notQuiet, trivial⟩) Try.func129 rfl 2000 _ hI ?_; (conv => arg 4; cbv)
    repeat' (first | ((with_reducible refine on_eqs ?_ ?_); (focus (with_reducible rfl)); conv => arg 4; cbv) | (with_reducible refine on_both ?_ ?_ <;> (conv => arg 4; cbv)) | (with_reducible refine on_true (by assumption) ?_; conv => arg 4; cbv) | (with_reducible refine on_false (by assumption) ?_; conv => arg 4; cbv) | (with_reducible refine on_ask (fun g => ?_) (fun g => ?_) <;> (have h := g) <;> (try simp (disch := omega) [hI, k192, en192, an192, hes, hn, hrs, hnl, long8_len, tU8_sing, tU8_pp, -List.length_eq_zero_iff] at h) <;> (try (exfalso; omega)) <;> (conv => arg 4; cbv)) | ((with_reducible refine on_must ?_ ?_); (focus (first | (simp (disch := omega) [hI, k192, en192, an192, hes, hn, hrs, hnl, long8_len, tU8_sing, tU8_pp]; done) | (simp (disch := omega) [hI, k192, en192, an192, hes, hn, hrs, hnl, long8_len, tU8_sing, tU8_pp]; omega) | (simp (disch := omega) [hI, k192, en192, an192, hes, hn, hrs, hnl, long8_len, tU8_sing, tU8_pp]; assumption) | (simp (disch := omega) [hI, k192, en192, an192, hes, hn, hrs, hnl, long8_len, tU8_sing, tU8_pp]; (refine And.intro ?_ ?_) <;> (first | omega | assumption)))); conv => arg 4; cbv))
    (with_reducible refine on_ret ?_); refine Ended_of rfl ?_; (conv => lhs; cbv)
    have h1 : l.drop i = [] := List.drop_of_length_le (by omega)
    simp [h1, newsC, hn, hrs]
  | succ k ih =>
    intro i n acc rs hk hn hrs hb
    have hd : l.drop i = nth l i :: l.drop (i + 1) := nth_drop (by omega)
    have h8 : ∀ v, (long8 v 8).length = 8 := fun v => long8_len v 8
    refine W_go (Y := (Tab.calls [(192, false, callMv I (appT I (K 192) 1))])) xok (TabOk.calls mixed ⟨EntryOk.mv (s192 hI k192) hI, notQuiet, trivial⟩) Try.func129 rfl 2000 _ hI ?_; (conv => arg 4; cbv)
    repeat' (first | ((with_reducible refine on_eqs ?_ ?_); (focus (with_reducible rfl)); conv => arg 4; cbv) | (with_reducible refine on_both ?_ ?_ <;> (conv => arg 4; cbv)) | (with_reducible refine on_true (by assumption) ?_; conv => arg 4; cbv) | (with_reducible refine on_false (by assumption) ?_; conv => arg 4; cbv) | (with_reducible refine on_ask (fun g => ?_) (fun g => ?_) <;> (have h := g) <;> (try simp (disch := omega) [hI, k192, en192, an192, hes, hn, hrs, hnl, long8_len, tU8_sing, tU8_pp, -List.length_eq_zero_iff] at h) <;> (try (exfalso; omega)) <;> (conv => arg 4; cbv)) | ((with_reducible refine on_must ?_ ?_); (focus (first | (simp (disch := omega) [hI, k192, en192, an192, hes, hn, hrs, hnl, long8_len, tU8_sing, tU8_pp]; done) | (simp (disch := omega) [hI, k192, en192, an192, hes, hn, hrs, hnl, long8_len, tU8_sing, tU8_pp]; omega) | (simp (disch := omega) [hI, k192, en192, an192, hes, hn, hrs, hnl, long8_len, tU8_sing, tU8_pp]; assumption) | (simp (disch := omega) [hI, k192, en192, an192, hes, hn, hrs, hnl, long8_len, tU8_sing, tU8_pp]; (refine And.intro ?_ ?_) <;> (first | omega | assumption)))); conv => arg 4; cbv))
    (with_reducible refine on_any ?_); refine W_early (Y := (Tab.calls [(192, false, callMv I (appT I (K 192) 1))])) xok (TabOk.calls mixed ⟨EntryOk.mv (s192 hI k192) hI, notQuiet, trivial⟩) mixed hI rfl (by kernel_rfl) rfl rfl ?_; (conv => arg 4; cbv)
    repeat' (first | ((with_reducible refine on_eqs ?_ ?_); (focus (with_reducible rfl)); conv => arg 4; cbv) | (with_reducible refine on_both ?_ ?_ <;> (conv => arg 4; cbv)) | (with_reducible refine on_true (by assumption) ?_; conv => arg 4; cbv) | (with_reducible refine on_false (by assumption) ?_; conv => arg 4; cbv) | (with_reducible refine on_ask (fun g => ?_) (fun g => ?_) <;> (have h := g) <;> (try simp (disch := omega) [hI, k192, en192, an192, hes, hn, hrs, hnl, long8_len, tU8_sing, tU8_pp, -List.length_eq_zero_iff] at h) <;> (try (exfalso; omega)) <;> (conv => arg 4; cbv)) | ((with_reducible refine on_must ?_ ?_); (focus (first | (simp (disch := omega) [hI, k192, en192, an192, hes, hn, hrs, hnl, long8_len, tU8_sing, tU8_pp]; done) | (simp (disch := omega) [hI, k192, en192, an192, hes, hn, hrs, hnl, long8_len, tU8_sing, tU8_pp]; omega) | (simp (disch := omega) [hI, k192, en192, an192, hes, hn, hrs, hnl, long8_len, tU8_sing, tU8_pp]; assumption) | (simp (disch := omega) [hI, k192, en192, an192, hes, hn, hrs, hnl, long8_len, tU8_sing, tU8_pp]; (refine And.intro ?_ ?_) <;> (first | omega | assumption)))); conv => arg 4; cbv))
    (with_reducible refine on_any ?_); refine W_behind (Y := (Tab.calls [(192, false, callMv I (appT I (K 192) 1))])) xok (TabOk.calls mixed ⟨EntryOk.mv (s192 hI k192) hI, notQuiet, trivial⟩) Try.func129 rfl 2000 _ hI ?_; (conv => arg 4; cbv)
    repeat' (first | ((with_reducible refine on_eqs ?_ ?_); (focus (with_reducible rfl)); conv => arg 4; cbv) | (with_reducible refine on_both ?_ ?_ <;> (conv => arg 4; cbv)) | (with_reducible refine on_true (by assumption) ?_; conv => arg 4; cbv) | (with_reducible refine on_false (by assumption) ?_; conv => arg 4; cbv) | (with_reducible refine on_ask (fun g => ?_) (fun g => ?_) <;> (have h := g) <;> (try simp (disch := omega) [hI, k192, en192, an192, hes, hn, hrs, hnl, long8_len, tU8_sing, tU8_pp, -List.length_eq_zero_iff] at h) <;> (try (exfalso; omega)) <;> (conv => arg 4; cbv)) | ((with_reducible refine on_must ?_ ?_); (focus (first | (simp (disch := omega) [hI, k192, en192, an192, hes, hn, hrs, hnl, long8_len, tU8_sing, tU8_pp]; done) | (simp (disch := omega) [hI, k192, en192, an192, hes, hn, hrs, hnl, long8_len, tU8_sing, tU8_pp]; omega) | (simp (disch := omega) [hI, k192, en192, an192, hes, hn, hrs, hnl, long8_len, tU8_sing, tU8_pp]; assumption) | (simp (disch := omega) [hI, k192, en192, an192, hes, hn, hrs, hnl, long8_len, tU8_sing, tU8_pp]; (refine And.intro ?_ ?_) <;> (first | omega | assumption)))); conv => arg 4; cbv))
    have e1 : acc ++ newsC (l.drop i) = (acc ++ ([IntKind.u8.wrap (nth l i).place] ++ lg (nth l i).epoch ++ lg (nth l i).n)) ++ newsC (l.drop (i + 1)) := by
      rw [hd, newsC]; simp [List.append_assoc]
    have e2 : acc.length + 17 * (k + 1) = (acc ++ ([IntKind.u8.wrap (nth l i).place] ++ lg (nth l i).epoch ++ lg (nth l i).n)).length + 17 * k := by simp [lg, long8_len]; omega
    rw [e1, e2]
    (with_reducible refine on_loop ?_); simp only [List.cons_append, List.nil_append]; refine W_norm [3, 10, 11, 12] ?_ (ih (i + 1) _ _ _ (by omega) rfl rfl (by simp [lg, long8_len]; omega)); (conv => lhs; cbv)
    simp (disch := omega) [hI, k192, en192, an192, hes, hn, hrs, hnl, long8_len, tU8_sing, tU8_pp, lg, h8, List.append_assoc]
theorem ok129 (l : List CountV) (hl : l.length ≤ 1000) : Ok0 Try.prog 129 [(pL tCount).enc l] (.one (.arr 0 0 (real.len (tU8.encs ([IntKind.u8.wrap l.length] ++ newsC l))))) [(0, .row 1 (tU8.encs ([IntKind.u8.wrap l.length] ++ newsC l)))] 1 := by
  obtain ⟨I, hI⟩ : ∃ I, I = real := ⟨_, rfl⟩; obtain ⟨K, hK⟩ : ∃ K : FuncId → En, K = fun g => (lk g [(192, en192)]).getD default := ⟨_, rfl⟩; have k192 : K 192 = en192 := (by subst hK; rfl); clear hK
  have hn : True := trivial
  have hrs : True := trivial
  have hnl : True := trivial
  obtain ⟨es, hes⟩ : ∃ es, es = tCount.encs l := ⟨_, rfl⟩
  have e0 : real.len (tU8.encs ([IntKind.u8.wrap l.length] ++ newsC l)) = [IntKind.u8.wrap (l.length : Int)].length + 17 * l.length := by
    rw [r_len, Ty.encs_length, List.length_append, newsC_len]
  rw [e0]
  show Ok0 Try.prog 129 [.one (.pv (.sl false 3 (tCount.encs l)))] _ _ 1
  refine RAVs_nothing (l' := [.one (.pv (.sl false 3 es))]) ?_ (fun h => by rw [hes]; exact h)
  refine Ok0_run (Y := (Tab.calls [(192, false, callMv I (appT I (K 192) 1))])) xok (TabOk.calls mixed ⟨EntryOk.mv (s192 hI k192) hI, notQuiet, trivial⟩) Try.func129 rfl rfl rfl 2000 hI fun w Xs => ?_; (conv => arg 4; cbv)
  repeat' (first | ((with_reducible refine on_eqs ?_ ?_); (focus (with_reducible rfl)); conv => arg 4; cbv) | (with_reducible refine on_both ?_ ?_ <;> (conv => arg 4; cbv)) | (with_reducible refine on_true (by assumption) ?_; conv => arg 4; cbv) | (with_reducible refine on_false (by assumption) ?_; conv => arg 4; cbv) | (with_reducible refine on_ask (fun g => ?_) (fun g => ?_) <;> (have h := g) <;> (try simp (disch := omega) [hI, k192, en192, an192, hes, hn, hrs, hnl, long8_len, tU8_sing, tU8_pp, -List.length_eq_zero_iff] at h) <;> (try (exfalso; omega)) <;> (conv => arg 4; cbv)) | ((with_reducible refine on_must ?_ ?_); (focus (first | (simp (disch := omega) [hI, k192, en192, an192, hes, hn, hrs, hnl, long8_len, tU8_sing, tU8_pp]; done) | (simp (disch := omega) [hI, k192, en192, an192, hes, hn, hrs, hnl, long8_len, tU8_sing, tU8_pp]; omega) | (simp (disch := omega) [hI, k192, en192, an192, hes, hn, hrs, hnl, long8_len, tU8_sing, tU8_pp]; assumption) | (simp (disch := omega) [hI, k192, en192, an192, hes, hn, hrs, hnl, long8_len, tU8_sing, tU8_pp]; (refine And.intro ?_ ?_) <;> (first | omega | assumption)))); conv => arg 4; cbv))
  (with_reducible refine on_loop ?_); simp only [List.cons_append, List.nil_append]; refine W_norm [3, 10, 11, 12] ?_ (L129 l hl es hes _ rfl l.length 0 _ [IntKind.u8.wrap l.length] _ rfl rfl rfl rfl); (conv => lhs; cbv)
  simp (disch := omega) [hI, k192, en192, an192, hes, hn, hrs, hnl, long8_len, tU8_sing, tU8_pp]

theorem s129 {I : Ops} (hI : I = real) {e : En} (he : e = en129) : Sound Try.prog 129 (callE I e sh129) := by
  refine Sound.mkE ent129 hI (fun _ => rfl) ?_ he
  rintro ⟨l, ⟨⟩⟩ hp
  exact ok129 l (of_decide_eq_true hp)
end Go.Proofs.Try
