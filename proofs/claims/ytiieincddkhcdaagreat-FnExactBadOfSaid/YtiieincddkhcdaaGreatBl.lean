/- Contracts. -/
import Derived.Test.YtiieincddkhcdaaGreatBk
set_option linter.unusedSimpArgs false
set_option linter.unusedVariables false
namespace Go.Proofs.Tryz
open Go Go.Aix
set_option maxRecDepth 100000
set_option maxHeartbeats 4000000
@[simp] theorem tCount_own2 (l : List CountV) : mapE tCount.own l = tCount.encs l := tCount_owns l
@[simp] theorem r_rem (k : IntKind) (a b : Int) : real.ar .rem k a b = Int.tmod a b := rfl
def fFrame (e : FrameV) (k : Int) : FrameV × Int := (⟨k, (nx1 k), (nx1 (nx1 k)), (nx1 (nx1 (nx1 k))), (mkS fEntry e.set (nx1 (nx1 (nx1 (nx1 k))))).1, (mkS fCount e.news (mkS fEntry e.set (nx1 (nx1 (nx1 (nx1 k))))).2).1⟩, (mkS fCount e.news (mkS fEntry e.set (nx1 (nx1 (nx1 (nx1 k))))).2).2)
def an95 : An (List FrameV × Int × Unit) where
  pre t := bFrameS t.1
  i _ t := (mkS fFrame t.1 t.2.1).2
  l _ t := mapE tFrame.own (mkS fFrame t.1 t.2.1).1
noncomputable def en95 : En := mkE (parsC (pO tFrame) (parsC pI pars0)) an95
attribute [simp] en95 an95
theorem ent95 : Enters Tryz.prog 95 := ⟨Tryz.f95, Tryz.func95, by kernel_rfl, by kernel_rfl⟩
noncomputable def Y95 (I : Ops) (K : FuncId → En) : CallsA := (Tab.calls [(70, false, callRef I (markT I (K 70) 2)), (96, false, callRef I (markT I (K 96) 3))])
theorem tY95 {I : Ops} (hI : I = real) {K : FuncId → En} (k70 : K 70 = en70) (k96 : K 96 = en96) : CallsOk Tryz.prog (Y95 I K) := (TabOk.calls mixed ⟨EntryOk.ref (s70 hI k70) hI, notQuiet, ⟨EntryOk.ref (s96 hI k96) hI, notQuiet, trivial⟩⟩)
theorem L95 {w : World} {Xs : Nat → Prop} {β0 : Nat → Nat × Nat} {O0 : Nat → List Nat} (es0 : List (List PV)) (l : List FrameV) (hb : bFrameS l = true) (n : Nat) (hn : n = l.length) :
    ∀ (kk i : Nat) (m : Int) (done : List FrameV) (rs : List (List PV)), kk + i = l.length → done.length = i → rs = (mapE tFrame_own (done ++ l.drop i)) → W Tryz.prog 95 Tryz.f95 (EntR w Xs β0 O0 [(0, .row 6 es0)] 1) (Back (EntR w Xs β0 O0 [(0, .row 6 es0)] 1) (.one (.pv (.sc (.int .i64 (mkS fFrame (l.drop i) m).2)))) [(0, .row 6 (mapE tFrame_own (done ++ (mkS fFrame (l.drop i) m).1)))] 1) (place (bodyOf Tryz.f95) [1,0,1,0,0] [])
      ⟨[(0, .one (.arr 0 0 n)), (1, .one (.pv (.sc (.int .i64 m)))), (5, .one (.pv (.sc (.int .i64 i))))], [(0, .row 6 rs)], 1⟩ := by
  obtain ⟨I, hI⟩ : ∃ I, I = real := ⟨_, rfl⟩; obtain ⟨K, k70, k96⟩ : ∃ K : FuncId → En, K 70 = en70 ∧ K 96 = en96 := ⟨fun g => (lk g [(70, en70), (96, en96)]).getD default, rfl, rfl⟩
  have hl := bFrameS_len hb
  intro kk
  induction kk with
  | zero =>
    intro i m done rs hk hdn hrs
    have hlen : (done ++ l.drop i).length = l.length := mid_len hdn (by omega)
    have hlen2 : rs.length = l.length := by rw [hrs]; simp only [Ty.encs_length, mapE_length]; exact hlen
    have h1 : l.drop i = [] := List.drop_of_length_le (by omega)
    have hnth : True := trivial
    refine W_go (Y := (Y95 I K)) xok (tY95 hI k70 k96) Tryz.func95 rfl 2000 _ hI ?_; (conv => arg 4; cbv)
    repeat' ((first | ((with_reducible refine on_eqs ?_ ?_); (focus (with_reducible rfl))) | (with_reducible refine on_both ?_ ?_) | (with_reducible refine on_true (by assumption) ?_) | (with_reducible refine on_false (by assumption) ?_) | (with_reducible refine on_ask (fun g => ?_) (fun g => ?_) <;> (have h := g) <;> (try simp (disch := omega) [hI, k70, en70, an70, k96, en96, an96, hlen, hlen2, hnth, hn, hrs, -List.length_eq_zero_iff] at h) <;> (try (exfalso; omega))) | ((with_reducible refine on_must ?_ ?_); (focus (simp (disch := omega) [hI, k70, en70, an70, k96, en96, an96, hlen, hlen2, hnth, hn, hrs] <;> exact mt)))) <;> (conv => arg 4; cbv))
    (with_reducible refine on_ret ?_); refine EndedN_of ?_; (conv => lhs; cbv)
    rw [hrs, h1]
    simp [mkS]
  | succ kk ih =>
    intro i m done rs hk hdn hrs
    have hlen : (done ++ l.drop i).length = l.length := mid_len hdn (by omega)
    have hlen2 : rs.length = l.length := by rw [hrs]; simp only [Ty.encs_length, mapE_length]; exact hlen
    have hnth : nth (done ++ l.drop i) i = nth l i := mid_nth hdn (by omega)
    have hset : ∀ (y : FrameV) {ps : List PV}, ps = tFrame_own y → real.set rs i ps = (mapE tFrame_own ((done ++ [y]) ++ l.drop (i + 1))) := by
      intro y ps hy
      rw [hrs]
      exact mid_set hdn (by omega) tFrame_own y hy
    have hd : l.drop i = nth l i :: l.drop (i + 1) := nth_drop (by omega)
    have hx := bFrameS_nth hb (i := i) (by omega)
    obtain ⟨x0, x1⟩ := bFrame_p hx
    have y0 := bEntryS_len x0
    have y1 := bCountS_len x1
    refine W_focus 0 i [.int .i64, .int .i64, .int .i64, .int .i64, .sl 2, .sl 3] hI ?_; (conv => arg 4; cbv)
    repeat' ((first | ((with_reducible refine on_eqs ?_ ?_); (focus (with_reducible rfl))) | (with_reducible refine on_both ?_ ?_) | (with_reducible refine on_true (by assumption) ?_) | (with_reducible refine on_false (by assumption) ?_) | (with_reducible refine on_ask (fun g => ?_) (fun g => ?_) <;> (have h := g) <;> (try simp (disch := omega) [hI, k70, en70, an70, k96, en96, an96, hlen, hlen2, hnth, hn, hrs, -List.length_eq_zero_iff] at h) <;> (try (exfalso; omega))) | ((with_reducible refine on_must ?_ ?_); (focus (simp (disch := omega) [hI, k70, en70, an70, k96, en96, an96, hlen, hlen2, hnth, hn, hrs] <;> exact mt)))) <;> (conv => arg 4; cbv))
    all_goals ((with_reducible refine on_loop ?_); refine W_go (Y := (Y95 I K)) xok (tY95 hI k70 k96) Tryz.func95 rfl 2000 _ hI ?_; (conv => arg 4; cbv))
    repeat' ((first | ((with_reducible refine on_eqs ?_ ?_); (focus (with_reducible rfl))) | (with_reducible refine on_both ?_ ?_) | (with_reducible refine on_true (by assumption) ?_) | (with_reducible refine on_false (by assumption) ?_) | (with_reducible refine on_ask (fun g => ?_) (fun g => ?_) <;> (have h := g) <;> (try simp (disch := omega) [hI, k70, en70, an70, k96, en96, an96, hlen, hlen2, hnth, hn, hrs, -List.length_eq_zero_iff] at h) <;> (try (exfalso; omega))) | ((with_reducible refine on_must ?_ ?_); (focus (simp (disch := omega) [hI, k70, en70, an70, k96, en96, an96, hlen, hlen2, hnth, hn, hrs] <;> exact mt)))) <;> (conv => arg 4; cbv))
    all_goals ((with_reducible refine on_loop ?_); simp only [List.cons_append, List.nil_append])
    all_goals (apply W_unfocus 0 hI; (· (conv => lhs; cbv); try rfl))
    all_goals
      rw [show (mkS fFrame (l.drop i) m).2 = (mkS fFrame (l.drop (i + 1)) (fFrame (nth l i) m).2).2 by rw [hd]; rfl, show done ++ (mkS fFrame (l.drop i) m).1 = (done ++ [(fFrame (nth l i) m).1]) ++ (mkS fFrame (l.drop (i + 1)) (fFrame (nth l i) m).2).1 by rw [hd]; simp [mkS]]
      refine W_norm [0, 1, 5] ?_ (ih (i + 1) _ (done ++ [(fFrame (nth l i) m).1]) _ (by omega) (by simp; omega) rfl); (conv => lhs; cbv)
      rw [← hset (fFrame (nth l i) m).1 rfl]
      clear hset hd ih
      try simp only [List.length_eq_zero_iff] at *
      simp (disch := omega) [hI, k70, en70, an70, k96, en96, an96, hlen, hlen2, hnth, hn, hrs, *, nx1, fFrame, tFrame_own, mkS_take, mkS_nil, r_nthset]
      try rfl
theorem ok95 (k0 : Int) (l : List FrameV) (hb : bFrameS l = true) : OkR Tryz.prog 95 [.one (.arr 0 0 l.length), .one (.pv (.sc (.int .i64 k0)))] [(0, .row 6 (mapE tFrame_own (l)))] 1 (.one (.pv (.sc (.int .i64 (mkS fFrame l k0).2)))) [(0, .row 6 (mapE tFrame_own ((mkS fFrame l k0).1)))] 1 := by
  obtain ⟨I, hI⟩ : ∃ I, I = real := ⟨_, rfl⟩; obtain ⟨K, k70, k96⟩ : ∃ K : FuncId → En, K 70 = en70 ∧ K 96 = en96 := ⟨fun g => (lk g [(70, en70), (96, en96)]).getD default, rfl, rfl⟩
  have hl := bFrameS_len hb
  have hlen : True := trivial
  have hlen2 : True := trivial
  have hnth : True := trivial
  have hrs : True := trivial
  obtain ⟨n, hn⟩ : ∃ n, n = l.length := ⟨_, rfl⟩
  obtain ⟨es0, hes0⟩ : ∃ es, es = (mapE tFrame_own (l)) := ⟨_, rfl⟩
  suffices hs : OkR Tryz.prog 95 [.one (.arr 0 0 n), .one (.pv (.sc (.int .i64 k0)))] [(0, .row 6 es0)] 1 (.one (.pv (.sc (.int .i64 (mkS fFrame l k0).2)))) [(0, .row 6 (mapE tFrame_own ((mkS fFrame l k0).1)))] 1 by rwa [hn, hes0] at hs
  refine OkR_run (Y := (Y95 I K)) xok (tY95 hI k70 k96) Tryz.func95 rfl rfl rfl 2000 hI fun w Xs β0 O0 => ?_; (conv => arg 4; cbv)
  repeat' ((first | ((with_reducible refine on_eqs ?_ ?_); (focus (with_reducible rfl))) | (with_reducible refine on_both ?_ ?_) | (with_reducible refine on_true (by assumption) ?_) | (with_reducible refine on_false (by assumption) ?_) | (with_reducible refine on_ask (fun g => ?_) (fun g => ?_) <;> (have h := g) <;> (try simp (disch := omega) [hI, k70, en70, an70, k96, en96, an96, hlen, hlen2, hnth, hn, hrs, -List.length_eq_zero_iff] at h) <;> (try (exfalso; omega))) | ((with_reducible refine on_must ?_ ?_); (focus (simp (disch := omega) [hI, k70, en70, an70, k96, en96, an96, hlen, hlen2, hnth, hn, hrs] <;> exact mt)))) <;> (conv => arg 4; cbv))
  (with_reducible refine on_loop ?_); simp only [List.cons_append, List.nil_append]; refine W_norm [0, 1, 5] ?_ (L95 es0 l hb n hn l.length 0 k0 [] es0 rfl rfl hes0); (conv => lhs; cbv)
  rfl
theorem okn95 (k0 : Int) (p : PV) (hp : els p = []) (hp2 : isNo p = true) : OkR Tryz.prog 95 [.one (.pv p), .one (.pv (.sc (.int .i64 k0)))] [] 0 (.one (.pv (.sc (.int .i64 k0)))) [] 0 := by
  obtain ⟨I, hI⟩ : ∃ I, I = real := ⟨_, rfl⟩; obtain ⟨K, k70, k96⟩ : ∃ K : FuncId → En, K 70 = en70 ∧ K 96 = en96 := ⟨fun g => (lk g [(70, en70), (96, en96)]).getD default, rfl, rfl⟩
  have hlen : True := trivial
  have hlen2 : True := trivial
  have hnth : True := trivial
  have hrs : True := trivial
  have hn : True := trivial
  rcases PV.no_nil hp hp2 with rfl | ⟨u, s, rfl⟩
  all_goals
    refine OkR_run (Y := (Y95 I K)) xok (tY95 hI k70 k96) Tryz.func95 rfl rfl rfl 2000 hI fun w Xs β0 O0 => ?_; (conv => arg 4; cbv)
    repeat' ((first | ((with_reducible refine on_eqs ?_ ?_); (focus (with_reducible rfl))) | (with_reducible refine on_both ?_ ?_) | (with_reducible refine on_true (by assumption) ?_) | (with_reducible refine on_false (by assumption) ?_) | (with_reducible refine on_ask (fun g => ?_) (fun g => ?_) <;> (have h := g) <;> (try simp (disch := omega) [hI, k70, en70, an70, k96, en96, an96, hlen, hlen2, hnth, hn, hrs, -List.length_eq_zero_iff] at h) <;> (try (exfalso; omega))) | ((with_reducible refine on_must ?_ ?_); (focus (simp (disch := omega) [hI, k70, en70, an70, k96, en96, an96, hlen, hlen2, hnth, hn, hrs] <;> exact mt)))) <;> (conv => arg 4; cbv))
    (with_reducible refine on_loop ?_)
    simp only [List.cons_append, List.nil_append]
    refine W_go (Y := (Y95 I K)) xok (tY95 hI k70 k96) Tryz.func95 rfl 2000 _ hI ?_; (conv => arg 4; cbv)
    repeat' ((first | ((with_reducible refine on_eqs ?_ ?_); (focus (with_reducible rfl))) | (with_reducible refine on_both ?_ ?_) | (with_reducible refine on_true (by assumption) ?_) | (with_reducible refine on_false (by assumption) ?_) | (with_reducible refine on_ask (fun g => ?_) (fun g => ?_) <;> (have h := g) <;> (try simp (disch := omega) [hI, k70, en70, an70, k96, en96, an96, hlen, hlen2, hnth, hn, hrs, -List.length_eq_zero_iff] at h) <;> (try (exfalso; omega))) | ((with_reducible refine on_must ?_ ?_); (focus (simp (disch := omega) [hI, k70, en70, an70, k96, en96, an96, hlen, hlen2, hnth, hn, hrs] <;> exact mt)))) <;> (conv => arg 4; cbv))
    (with_reducible refine on_ret ?_); refine EndedN_of ?_; (conv => lhs; cbv)
theorem s95 {I : Ops} (hI : I = real) {e : En} (he : e = en95) : SoundR Tryz.prog 95 (markT I e 6) :=
  SoundR.markT (T := tFrame) (r := fun l k => (mkS fFrame l k).1) ent95 (fun _ => rfl) (fun k0 l hp => by
    have hp : bFrameS l = true := hp
    exact ok95 k0 l hp) okn95 hI he
def fLink (e : LinkV) (k : Int) : LinkV × Int := (⟨(mkS fFrame e.frames k).1⟩, (mkS fFrame e.frames k).2)
def an63 : An (List LinkV × Int × Unit) where
  pre t := bLinkS t.1
  i _ t := (mkS fLink t.1 t.2.1).2
  l _ t := mapE tLink.own (mkS fLink t.1 t.2.1).1
noncomputable def en63 : En := mkE (parsC (pO tLink) (parsC pI pars0)) an63
attribute [simp] en63 an63
theorem ent63 : Enters Tryz.prog 63 := ⟨Tryz.f63, Tryz.func63, by kernel_rfl, by kernel_rfl⟩
noncomputable def Y63 (I : Ops) (K : FuncId → En) : CallsA := (Tab.calls [(95, false, callRef I (markT I (K 95) 6))])
theorem tY63 {I : Ops} (hI : I = real) {K : FuncId → En} (k95 : K 95 = en95) : CallsOk Tryz.prog (Y63 I K) := (TabOk.calls mixed ⟨EntryOk.ref (s95 hI k95) hI, notQuiet, trivial⟩)
theorem L63 {w : World} {Xs : Nat → Prop} {β0 : Nat → Nat × Nat} {O0 : Nat → List Nat} (es0 : List (List PV)) (l : List LinkV) (hb : bLinkS l = true) (n : Nat) (hn : n = l.length) :
    ∀ (kk i : Nat) (m : Int) (done : List LinkV) (rs : List (List PV)), kk + i = l.length → done.length = i → rs = (mapE tLink_own (done ++ l.drop i)) → W Tryz.prog 63 Tryz.f63 (EntR w Xs β0 O0 [(0, .row 1 es0)] 1) (Back (EntR w Xs β0 O0 [(0, .row 1 es0)] 1) (.one (.pv (.sc (.int .i64 (mkS fLink (l.drop i) m).2)))) [(0, .row 1 (mapE tLink_own (done ++ (mkS fLink (l.drop i) m).1)))] 1) (place (bodyOf Tryz.f63) [1,0,1,0,0] [])
      ⟨[(0, .one (.arr 0 0 n)), (1, .one (.pv (.sc (.int .i64 m)))), (5, .one (.pv (.sc (.int .i64 i))))], [(0, .row 1 rs)], 1⟩ := by
  obtain ⟨I, hI⟩ : ∃ I, I = real := ⟨_, rfl⟩; obtain ⟨K, k95⟩ : ∃ K : FuncId → En, K 95 = en95 := ⟨fun g => (lk g [(95, en95)]).getD default, rfl⟩
  have hl := bLinkS_len hb
  intro kk
  induction kk with
  | zero =>
    intro i m done rs hk hdn hrs
    have hlen : (done ++ l.drop i).length = l.length := mid_len hdn (by omega)
    have hlen2 : rs.length = l.length := by rw [hrs]; simp only [Ty.encs_length, mapE_length]; exact hlen
    have h1 : l.drop i = [] := List.drop_of_length_le (by omega)
    have hnth : True := trivial
    refine W_go (Y := (Y63 I K)) xok (tY63 hI k95) Tryz.func63 rfl 2000 _ hI ?_; (conv => arg 4; cbv)
    repeat' ((first | ((with_reducible refine on_eqs ?_ ?_); (focus (with_reducible rfl))) | (with_reducible refine on_both ?_ ?_) | (with_reducible refine on_true (by assumption) ?_) | (with_reducible refine on_false (by assumption) ?_) | (with_reducible refine on_ask (fun g => ?_) (fun g => ?_) <;> (have h := g) <;> (try simp (disch := omega) [hI, k95, en95, an95, hlen, hlen2, hnth, hn, hrs, -List.length_eq_zero_iff] at h) <;> (try (exfalso; omega))) | ((with_reducible refine on_must ?_ ?_); (focus (simp (disch := omega) [hI, k95, en95, an95, hlen, hlen2, hnth, hn, hrs] <;> exact mt)))) <;> (conv => arg 4; cbv))
    (with_reducible refine on_ret ?_); refine EndedN_of ?_; (conv => lhs; cbv)
    rw [hrs, h1]
    simp [mkS]
  | succ kk ih =>
    intro i m done rs hk hdn hrs
    have hlen : (done ++ l.drop i).length = l.length := mid_len hdn (by omega)
    have hlen2 : rs.length = l.length := by rw [hrs]; simp only [Ty.encs_length, mapE_length]; exact hlen
    have hnth : nth (done ++ l.drop i) i = nth l i := mid_nth hdn (by omega)
    have hset : ∀ (y : LinkV) {ps : List PV}, ps = tLink_own y → real.set rs i ps = (mapE tLink_own ((done ++ [y]) ++ l.drop (i + 1))) := by
      intro y ps hy
      rw [hrs]
      exact mid_set hdn (by omega) tLink_own y hy
    have hd : l.drop i = nth l i :: l.drop (i + 1) := nth_drop (by omega)
    have hx := bLinkS_nth hb (i := i) (by omega)
    have x0 := bLink_p hx
    have y0 := bFrameS_len x0
    refine W_focus 0 i [.sl 6] hI ?_; (conv => arg 4; cbv)
    repeat' ((first | ((with_reducible refine on_eqs ?_ ?_); (focus (with_reducible rfl))) | (with_reducible refine on_both ?_ ?_) | (with_reducible refine on_true (by assumption) ?_) | (with_reducible refine on_false (by assumption) ?_) | (with_reducible refine on_ask (fun g => ?_) (fun g => ?_) <;> (have h := g) <;> (try simp (disch := omega) [hI, k95, en95, an95, hlen, hlen2, hnth, hn, hrs, -List.length_eq_zero_iff] at h) <;> (try (exfalso; omega))) | ((with_reducible refine on_must ?_ ?_); (focus (simp (disch := omega) [hI, k95, en95, an95, hlen, hlen2, hnth, hn, hrs] <;> exact mt)))) <;> (conv => arg 4; cbv))
    all_goals ((with_reducible refine on_loop ?_); refine W_go (Y := (Y63 I K)) xok (tY63 hI k95) Tryz.func63 rfl 2000 _ hI ?_; (conv => arg 4; cbv))
    repeat' ((first | ((with_reducible refine on_eqs ?_ ?_); (focus (with_reducible rfl))) | (with_reducible refine on_both ?_ ?_) | (with_reducible refine on_true (by assumption) ?_) | (with_reducible refine on_false (by assumption) ?_) | (with_reducible refine on_ask (fun g => ?_) (fun g => ?_) <;> (have h := g) <;> (try simp (disch := omega) [hI, k95, en95, an95, hlen, hlen2, hnth, hn, hrs, -List.length_eq_zero_iff] at h) <;> (try (exfalso; omega))) | ((with_reducible refine on_must ?_ ?_); (focus (simp (disch := omega) [hI, k95, en95, an95, hlen, hlen2, hnth, hn, hrs] <;> exact mt)))) <;> (conv => arg 4; cbv))
    all_goals ((with_reducible refine on_loop ?_); simp only [List.cons_append, List.nil_append])
    all_goals (apply W_unfocus 0 hI; (· (conv => lhs; cbv); try rfl))
    all_goals
      rw [show (mkS fLink (l.drop i) m).2 = (mkS fLink (l.drop (i + 1)) (fLink (nth l i) m).2).2 by rw [hd]; rfl, show done ++ (mkS fLink (l.drop i) m).1 = (done ++ [(fLink (nth l i) m).1]) ++ (mkS fLink (l.drop (i + 1)) (fLink (nth l i) m).2).1 by rw [hd]; simp [mkS]]
      refine W_norm [0, 1, 5] ?_ (ih (i + 1) _ (done ++ [(fLink (nth l i) m).1]) _ (by omega) (by simp; omega) rfl); (conv => lhs; cbv)
      rw [← hset (fLink (nth l i) m).1 rfl]
      clear hset hd ih
      try simp only [List.length_eq_zero_iff] at *
      simp (disch := omega) [hI, k95, en95, an95, hlen, hlen2, hnth, hn, hrs, *, nx1, fLink, tLink_own, mkS_take, mkS_nil, r_nthset]
      try rfl
theorem ok63 (k0 : Int) (l : List LinkV) (hb : bLinkS l = true) : OkR Tryz.prog 63 [.one (.arr 0 0 l.length), .one (.pv (.sc (.int .i64 k0)))] [(0, .row 1 (mapE tLink_own (l)))] 1 (.one (.pv (.sc (.int .i64 (mkS fLink l k0).2)))) [(0, .row 1 (mapE tLink_own ((mkS fLink l k0).1)))] 1 := by
  obtain ⟨I, hI⟩ : ∃ I, I = real := ⟨_, rfl⟩; obtain ⟨K, k95⟩ : ∃ K : FuncId → En, K 95 = en95 := ⟨fun g => (lk g [(95, en95)]).getD default, rfl⟩
  have hl := bLinkS_len hb
  have hlen : True := trivial
  have hlen2 : True := trivial
  have hnth : True := trivial
  have hrs : True := trivial
  obtain ⟨n, hn⟩ : ∃ n, n = l.length := ⟨_, rfl⟩
  obtain ⟨es0, hes0⟩ : ∃ es, es = (mapE tLink_own (l)) := ⟨_, rfl⟩
  suffices hs : OkR Tryz.prog 63 [.one (.arr 0 0 n), .one (.pv (.sc (.int .i64 k0)))] [(0, .row 1 es0)] 1 (.one (.pv (.sc (.int .i64 (mkS fLink l k0).2)))) [(0, .row 1 (mapE tLink_own ((mkS fLink l k0).1)))] 1 by rwa [hn, hes0] at hs
  refine OkR_run (Y := (Y63 I K)) xok (tY63 hI k95) Tryz.func63 rfl rfl rfl 2000 hI fun w Xs β0 O0 => ?_; (conv => arg 4; cbv)
  repeat' ((first | ((with_reducible refine on_eqs ?_ ?_); (focus (with_reducible rfl))) | (with_reducible refine on_both ?_ ?_) | (with_reducible refine on_true (by assumption) ?_) | (with_reducible refine on_false (by assumption) ?_) | (with_reducible refine on_ask (fun g => ?_) (fun g => ?_) <;> (have h := g) <;> (try simp (disch := omega) [hI, k95, en95, an95, hlen, hlen2, hnth, hn, hrs, -List.length_eq_zero_iff] at h) <;> (try (exfalso; omega))) | ((with_reducible refine on_must ?_ ?_); (focus (simp (disch := omega) [hI, k95, en95, an95, hlen, hlen2, hnth, hn, hrs] <;> exact mt)))) <;> (conv => arg 4; cbv))
  (with_reducible refine on_loop ?_); simp only [List.cons_append, List.nil_append]; refine W_norm [0, 1, 5] ?_ (L63 es0 l hb n hn l.length 0 k0 [] es0 rfl rfl hes0); (conv => lhs; cbv)
  rfl
theorem okn63 (k0 : Int) (p : PV) (hp : els p = []) (hp2 : isNo p = true) : OkR Tryz.prog 63 [.one (.pv p), .one (.pv (.sc (.int .i64 k0)))] [] 0 (.one (.pv (.sc (.int .i64 k0)))) [] 0 := by
  obtain ⟨I, hI⟩ : ∃ I, I = real := ⟨_, rfl⟩; obtain ⟨K, k95⟩ : ∃ K : FuncId → En, K 95 = en95 := ⟨fun g => (lk g [(95, en95)]).getD default, rfl⟩
  have hlen : True := trivial
  have hlen2 : True := trivial
  have hnth : True := trivial
  have hrs : True := trivial
  have hn : True := trivial
  rcases PV.no_nil hp hp2 with rfl | ⟨u, s, rfl⟩
  all_goals
    refine OkR_run (Y := (Y63 I K)) xok (tY63 hI k95) Tryz.func63 rfl rfl rfl 2000 hI fun w Xs β0 O0 => ?_; (conv => arg 4; cbv)
    repeat' ((first | ((with_reducible refine on_eqs ?_ ?_); (focus (with_reducible rfl))) | (with_reducible refine on_both ?_ ?_) | (with_reducible refine on_true (by assumption) ?_) | (with_reducible refine on_false (by assumption) ?_) | (with_reducible refine on_ask (fun g => ?_) (fun g => ?_) <;> (have h := g) <;> (try simp (disch := omega) [hI, k95, en95, an95, hlen, hlen2, hnth, hn, hrs, -List.length_eq_zero_iff] at h) <;> (try (exfalso; omega))) | ((with_reducible refine on_must ?_ ?_); (focus (simp (disch := omega) [hI, k95, en95, an95, hlen, hlen2, hnth, hn, hrs] <;> exact mt)))) <;> (conv => arg 4; cbv))
    (with_reducible refine on_loop ?_)
    simp only [List.cons_append, List.nil_append]
    refine W_go (Y := (Y63 I K)) xok (tY63 hI k95) Tryz.func63 rfl 2000 _ hI ?_; (conv => arg 4; cbv)
    repeat' ((first | ((with_reducible refine on_eqs ?_ ?_); (focus (with_reducible rfl))) | (with_reducible refine on_both ?_ ?_) | (with_reducible refine on_true (by assumption) ?_) | (with_reducible refine on_false (by assumption) ?_) | (with_reducible refine on_ask (fun g => ?_) (fun g => ?_) <;> (have h := g) <;> (try simp (disch := omega) [hI, k95, en95, an95, hlen, hlen2, hnth, hn, hrs, -List.length_eq_zero_iff] at h) <;> (try (exfalso; omega))) | ((with_reducible refine on_must ?_ ?_); (focus (simp (disch := omega) [hI, k95, en95, an95, hlen, hlen2, hnth, hn, hrs] <;> exact mt)))) <;> (conv => arg 4; cbv))
    (with_reducible refine on_ret ?_); refine EndedN_of ?_; (conv => lhs; cbv)
theorem s63 {I : Ops} (hI : I = real) {e : En} (he : e = en63) : SoundR Tryz.prog 63 (markT I e 1) :=
  SoundR.markT (T := tLink) (r := fun l k => (mkS fLink l k).1) ent63 (fun _ => rfl) (fun k0 l hp => by
    have hp : bLinkS l = true := hp
    exact ok63 k0 l hp) okn63 hI he
def fWorker (e : WorkerV) (k : Int) : WorkerV × Int := (⟨(mkS fFrame e.inbox k).1, (mkS fCount e.counts (mkS fFrame e.inbox k).2).1, (mkS fHeld e.nodes (mkS fCount e.counts (mkS fFrame e.inbox k).2).2).1, (mkS fHeld e.nodes (mkS fCount e.counts (mkS fFrame e.inbox k).2).2).2, (nx1 (mkS fHeld e.nodes (mkS fCount e.counts (mkS fFrame e.inbox k).2).2).2), (mkS fRelease e.outs (nx1 (nx1 (mkS fHeld e.nodes (mkS fCount e.counts (mkS fFrame e.inbox k).2).2).2))).1, decide (Int.tmod (mkS fRelease e.outs (nx1 (nx1 (mkS fHeld e.nodes (mkS fCount e.counts (mkS fFrame e.inbox k).2).2).2))).2 3 = 0)⟩, (nx1 (mkS fRelease e.outs (nx1 (nx1 (mkS fHeld e.nodes (mkS fCount e.counts (mkS fFrame e.inbox k).2).2).2))).2))
def an62 : An (List WorkerV × Int × Unit) where
  pre t := bWorkerS t.1
  i _ t := (mkS fWorker t.1 t.2.1).2
  l _ t := mapE tWorker.own (mkS fWorker t.1 t.2.1).1
noncomputable def en62 : En := mkE (parsC (pO tWorker) (parsC pI pars0)) an62
attribute [simp] en62 an62
theorem ent62 : Enters Tryz.prog 62 := ⟨Tryz.f62, Tryz.func62, by kernel_rfl, by kernel_rfl⟩
noncomputable def Y62 (I : Ops) (K : FuncId → En) : CallsA := (Tab.calls [(95, false, callRef I (markT I (K 95) 6)), (96, false, callRef I (markT I (K 96) 3)), (97, false, callRef I (markT I (K 97) 4)), (98, false, callRef I (markT I (K 98) 3))])
theorem tY62 {I : Ops} (hI : I = real) {K : FuncId → En} (k95 : K 95 = en95) (k96 : K 96 = en96) (k97 : K 97 = en97) (k98 : K 98 = en98) : CallsOk Tryz.prog (Y62 I K) := (TabOk.calls mixed ⟨EntryOk.ref (s95 hI k95) hI, notQuiet, ⟨EntryOk.ref (s96 hI k96) hI, notQuiet, ⟨EntryOk.ref (s97 hI k97) hI, notQuiet, ⟨EntryOk.ref (s98 hI k98) hI, notQuiet, trivial⟩⟩⟩⟩)
theorem L62 {w : World} {Xs : Nat → Prop} {β0 : Nat → Nat × Nat} {O0 : Nat → List Nat} (es0 : List (List PV)) (l : List WorkerV) (hb : bWorkerS l = true) (n : Nat) (hn : n = l.length) :
    ∀ (kk i : Nat) (m : Int) (done : List WorkerV) (rs : List (List PV)), kk + i = l.length → done.length = i → rs = (mapE tWorker_own (done ++ l.drop i)) → W Tryz.prog 62 Tryz.f62 (EntR w Xs β0 O0 [(0, .row 7 es0)] 1) (Back (EntR w Xs β0 O0 [(0, .row 7 es0)] 1) (.one (.pv (.sc (.int .i64 (mkS fWorker (l.drop i) m).2)))) [(0, .row 7 (mapE tWorker_own (done ++ (mkS fWorker (l.drop i) m).1)))] 1) (place (bodyOf Tryz.f62) [1,0,1,0,0] [])
      ⟨[(0, .one (.arr 0 0 n)), (1, .one (.pv (.sc (.int .i64 m)))), (5, .one (.pv (.sc (.int .i64 i))))], [(0, .row 7 rs)], 1⟩ := by
  obtain ⟨I, hI⟩ : ∃ I, I = real := ⟨_, rfl⟩; obtain ⟨K, k95, k96, k97, k98⟩ : ∃ K : FuncId → En, K 95 = en95 ∧ K 96 = en96 ∧ K 97 = en97 ∧ K 98 = en98 := ⟨fun g => (lk g [(95, en95), (96, en96), (97, en97), (98, en98)]).getD default, rfl, rfl, rfl, rfl⟩
  have hl := bWorkerS_len hb
  intro kk
  induction kk with
  | zero =>
    intro i m done rs hk hdn hrs
    have hlen : (done ++ l.drop i).length = l.length := mid_len hdn (by omega)
    have hlen2 : rs.length = l.length := by rw [hrs]; simp only [Ty.encs_length, mapE_length]; exact hlen
    have h1 : l.drop i = [] := List.drop_of_length_le (by omega)
    have hnth : True := trivial
    refine W_go (Y := (Y62 I K)) xok (tY62 hI k95 k96 k97 k98) Tryz.func62 rfl 2000 _ hI ?_; (conv => arg 4; cbv)
    repeat' ((first | ((with_reducible refine on_eqs ?_ ?_); (focus (with_reducible rfl))) | (with_reducible refine on_both ?_ ?_) | (with_reducible refine on_true (by assumption) ?_) | (with_reducible refine on_false (by assumption) ?_) | (with_reducible refine on_ask (fun g => ?_) (fun g => ?_) <;> (have h := g) <;> (try simp (disch := omega) [hI, k95, en95, an95, k96, en96, an96, k97, en97, an97, k98, en98, an98, hlen, hlen2, hnth, hn, hrs, -List.length_eq_zero_iff] at h) <;> (try (exfalso; omega))) | ((with_reducible refine on_must ?_ ?_); (focus (simp (disch := omega) [hI, k95, en95, an95, k96, en96, an96, k97, en97, an97, k98, en98, an98, hlen, hlen2, hnth, hn, hrs] <;> exact mt)))) <;> (conv => arg 4; cbv))
    (with_reducible refine on_ret ?_); refine EndedN_of ?_; (conv => lhs; cbv)
    rw [hrs, h1]
    simp [mkS]
  | succ kk ih =>
    intro i m done rs hk hdn hrs
    have hlen : (done ++ l.drop i).length = l.length := mid_len hdn (by omega)
    have hlen2 : rs.length = l.length := by rw [hrs]; simp only [Ty.encs_length, mapE_length]; exact hlen
    have hnth : nth (done ++ l.drop i) i = nth l i := mid_nth hdn (by omega)
    have hset : ∀ (y : WorkerV) {ps : List PV}, ps = tWorker_own y → real.set rs i ps = (mapE tWorker_own ((done ++ [y]) ++ l.drop (i + 1))) := by
      intro y ps hy
      rw [hrs]
      exact mid_set hdn (by omega) tWorker_own y hy
    have hd : l.drop i = nth l i :: l.drop (i + 1) := nth_drop (by omega)
    have hx := bWorkerS_nth hb (i := i) (by omega)
    obtain ⟨x0, x1, x2, x3⟩ := bWorker_p hx
    have y0 := bFrameS_len x0
    have y1 := bCountS_len x1
    have y2 := bHeldS_len x2
    have y3 := bReleaseS_len x3
    refine W_focus 0 i [.sl 6, .sl 3, .sl 4, .int .i64, .int .i64, .sl 3, .bool] hI ?_; (conv => arg 4; cbv)
    repeat' ((first | ((with_reducible refine on_eqs ?_ ?_); (focus (with_reducible rfl))) | (with_reducible refine on_both ?_ ?_) | (with_reducible refine on_true (by assumption) ?_) | (with_reducible refine on_false (by assumption) ?_) | (with_reducible refine on_ask (fun g => ?_) (fun g => ?_) <;> (have h := g) <;> (try simp (disch := omega) [hI, k95, en95, an95, k96, en96, an96, k97, en97, an97, k98, en98, an98, hlen, hlen2, hnth, hn, hrs, -List.length_eq_zero_iff] at h) <;> (try (exfalso; omega))) | ((with_reducible refine on_must ?_ ?_); (focus (simp (disch := omega) [hI, k95, en95, an95, k96, en96, an96, k97, en97, an97, k98, en98, an98, hlen, hlen2, hnth, hn, hrs] <;> exact mt)))) <;> (conv => arg 4; cbv))
    all_goals ((with_reducible refine on_loop ?_); refine W_go (Y := (Y62 I K)) xok (tY62 hI k95 k96 k97 k98) Tryz.func62 rfl 2000 _ hI ?_; (conv => arg 4; cbv))
    repeat' ((first | ((with_reducible refine on_eqs ?_ ?_); (focus (with_reducible rfl))) | (with_reducible refine on_both ?_ ?_) | (with_reducible refine on_true (by assumption) ?_) | (with_reducible refine on_false (by assumption) ?_) | (with_reducible refine on_ask (fun g => ?_) (fun g => ?_) <;> (have h := g) <;> (try simp (disch := omega) [hI, k95, en95, an95, k96, en96, an96, k97, en97, an97, k98, en98, an98, hlen, hlen2, hnth, hn, hrs, -List.length_eq_zero_iff] at h) <;> (try (exfalso; omega))) | ((with_reducible refine on_must ?_ ?_); (focus (simp (disch := omega) [hI, k95, en95, an95, k96, en96, an96, k97, en97, an97, k98, en98, an98, hlen, hlen2, hnth, hn, hrs] <;> exact mt)))) <;> (conv => arg 4; cbv))
    all_goals ((with_reducible refine on_loop ?_); simp only [List.cons_append, List.nil_append])
    all_goals (apply W_unfocus 0 hI; (· (conv => lhs; cbv); try rfl))
    all_goals
      rw [show (mkS fWorker (l.drop i) m).2 = (mkS fWorker (l.drop (i + 1)) (fWorker (nth l i) m).2).2 by rw [hd]; rfl, show done ++ (mkS fWorker (l.drop i) m).1 = (done ++ [(fWorker (nth l i) m).1]) ++ (mkS fWorker (l.drop (i + 1)) (fWorker (nth l i) m).2).1 by rw [hd]; simp [mkS]]
      refine W_norm [0, 1, 5] ?_ (ih (i + 1) _ (done ++ [(fWorker (nth l i) m).1]) _ (by omega) (by simp; omega) rfl); (conv => lhs; cbv)
      rw [← hset (fWorker (nth l i) m).1 rfl]
      clear hset hd ih
      try simp only [List.length_eq_zero_iff] at *
      simp (disch := omega) [hI, k95, en95, an95, k96, en96, an96, k97, en97, an97, k98, en98, an98, hlen, hlen2, hnth, hn, hrs, *, nx1, fWorker, tWorker_own, mkS_take, mkS_nil, r_nthset]
      try rfl
theorem ok62 (k0 : Int) (l : List WorkerV) (hb : bWorkerS l = true) : OkR Tryz.prog 62 [.one (.arr 0 0 l.length), .one (.pv (.sc (.int .i64 k0)))] [(0, .row 7 (mapE tWorker_own (l)))] 1 (.one (.pv (.sc (.int .i64 (mkS fWorker l k0).2)))) [(0, .row 7 (mapE tWorker_own ((mkS fWorker l k0).1)))] 1 := by
  obtain ⟨I, hI⟩ : ∃ I, I = real := ⟨_, rfl⟩; obtain ⟨K, k95, k96, k97, k98⟩ : ∃ K : FuncId → En, K 95 = en95 ∧ K 96 = en96 ∧ K 97 = en97 ∧ K 98 = en98 := ⟨fun g => (lk g [(95, en95), (96, en96), (97, en97), (98, en98)]).getD default, rfl, rfl, rfl, rfl⟩
  have hl := bWorkerS_len hb
  have hlen : True := trivial
  have hlen2 : True := trivial
  have hnth : True := trivial
  have hrs : True := trivial
  obtain ⟨n, hn⟩ : ∃ n, n = l.length := ⟨_, rfl⟩
  obtain ⟨es0, hes0⟩ : ∃ es, es = (mapE tWorker_own (l)) := ⟨_, rfl⟩
  suffices hs : OkR Tryz.prog 62 [.one (.arr 0 0 n), .one (.pv (.sc (.int .i64 k0)))] [(0, .row 7 es0)] 1 (.one (.pv (.sc (.int .i64 (mkS fWorker l k0).2)))) [(0, .row 7 (mapE tWorker_own ((mkS fWorker l k0).1)))] 1 by rwa [hn, hes0] at hs
  refine OkR_run (Y := (Y62 I K)) xok (tY62 hI k95 k96 k97 k98) Tryz.func62 rfl rfl rfl 2000 hI fun w Xs β0 O0 => ?_; (conv => arg 4; cbv)
  repeat' ((first | ((with_reducible refine on_eqs ?_ ?_); (focus (with_reducible rfl))) | (with_reducible refine on_both ?_ ?_) | (with_reducible refine on_true (by assumption) ?_) | (with_reducible refine on_false (by assumption) ?_) | (with_reducible refine on_ask (fun g => ?_) (fun g => ?_) <;> (have h := g) <;> (try simp (disch := omega) [hI, k95, en95, an95, k96, en96, an96, k97, en97, an97, k98, en98, an98, hlen, hlen2, hnth, hn, hrs, -List.length_eq_zero_iff] at h) <;> (try (exfalso; omega))) | ((with_reducible refine on_must ?_ ?_); (focus (simp (disch := omega) [hI, k95, en95, an95, k96, en96, an96, k97, en97, an97, k98, en98, an98, hlen, hlen2, hnth, hn, hrs] <;> exact mt)))) <;> (conv => arg 4; cbv))
  (with_reducible refine on_loop ?_); simp only [List.cons_append, List.nil_append]; refine W_norm [0, 1, 5] ?_ (L62 es0 l hb n hn l.length 0 k0 [] es0 rfl rfl hes0); (conv => lhs; cbv)
  rfl
theorem okn62 (k0 : Int) (p : PV) (hp : els p = []) (hp2 : isNo p = true) : OkR Tryz.prog 62 [.one (.pv p), .one (.pv (.sc (.int .i64 k0)))] [] 0 (.one (.pv (.sc (.int .i64 k0)))) [] 0 := by
  obtain ⟨I, hI⟩ : ∃ I, I = real := ⟨_, rfl⟩; obtain ⟨K, k95, k96, k97, k98⟩ : ∃ K : FuncId → En, K 95 = en95 ∧ K 96 = en96 ∧ K 97 = en97 ∧ K 98 = en98 := ⟨fun g => (lk g [(95, en95), (96, en96), (97, en97), (98, en98)]).getD default, rfl, rfl, rfl, rfl⟩
  have hlen : True := trivial
  have hlen2 : True := trivial
  have hnth : True := trivial
  have hrs : True := trivial
  have hn : True := trivial
  rcases PV.no_nil hp hp2 with rfl | ⟨u, s, rfl⟩
  all_goals
    refine OkR_run (Y := (Y62 I K)) xok (tY62 hI k95 k96 k97 k98) Tryz.func62 rfl rfl rfl 2000 hI fun w Xs β0 O0 => ?_; (conv => arg 4; cbv)
    repeat' ((first | ((with_reducible refine on_eqs ?_ ?_); (focus (with_reducible rfl))) | (with_reducible refine on_both ?_ ?_) | (with_reducible refine on_true (by assumption) ?_) | (with_reducible refine on_false (by assumption) ?_) | (with_reducible refine on_ask (fun g => ?_) (fun g => ?_) <;> (have h := g) <;> (try simp (disch := omega) [hI, k95, en95, an95, k96, en96, an96, k97, en97, an97, k98, en98, an98, hlen, hlen2, hnth, hn, hrs, -List.length_eq_zero_iff] at h) <;> (try (exfalso; omega))) | ((with_reducible refine on_must ?_ ?_); (focus (simp (disch := omega) [hI, k95, en95, an95, k96, en96, an96, k97, en97, an97, k98, en98, an98, hlen, hlen2, hnth, hn, hrs] <;> exact mt)))) <;> (conv => arg 4; cbv))
    (with_reducible refine on_loop ?_)
    simp only [List.cons_append, List.nil_append]
    refine W_go (Y := (Y62 I K)) xok (tY62 hI k95 k96 k97 k98) Tryz.func62 rfl 2000 _ hI ?_; (conv => arg 4; cbv)
    repeat' ((first | ((with_reducible refine on_eqs ?_ ?_); (focus (with_reducible rfl))) | (with_reducible refine on_both ?_ ?_) | (with_reducible refine on_true (by assumption) ?_) | (with_reducible refine on_false (by assumption) ?_) | (with_reducible refine on_ask (fun g => ?_) (fun g => ?_) <;> (have h := g) <;> (try simp (disch := omega) [hI, k95, en95, an95, k96, en96, an96, k97, en97, an97, k98, en98, an98, hlen, hlen2, hnth, hn, hrs, -List.length_eq_zero_iff] at h) <;> (try (exfalso; omega))) | ((with_reducible refine on_must ?_ ?_); (focus (simp (disch := omega) [hI, k95, en95, an95, k96, en96, an96, k97, en97, an97, k98, en98, an98, hlen, hlen2, hnth, hn, hrs] <;> exact mt)))) <;> (conv => arg 4; cbv))
    (with_reducible refine on_ret ?_); refine EndedN_of ?_; (conv => lhs; cbv)
theorem s62 {I : Ops} (hI : I = real) {e : En} (he : e = en62) : SoundR Tryz.prog 62 (markT I e 7) :=
  SoundR.markT (T := tWorker) (r := fun l k => (mkS fWorker l k).1) ent62 (fun _ => rfl) (fun k0 l hp => by
    have hp : bWorkerS l = true := hp
    exact ok62 k0 l hp) okn62 hI he
end Go.Proofs.Tryz
