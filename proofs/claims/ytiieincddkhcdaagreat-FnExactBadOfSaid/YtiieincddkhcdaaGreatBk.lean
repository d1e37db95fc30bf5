/- Contracts. -/
import Derived.Test.YtiieincddkhcdaaGreatBj
set_option linter.unusedSimpArgs false
set_option linter.unusedVariables false
namespace Go.Proofs.Tryz
open Go Go.Aix
set_option maxRecDepth 100000
set_option maxHeartbeats 4000000
def fNode (e : NodeV) (k : Int) : NodeV × Int := (⟨k, (nx1 k), (nx1 (nx1 k)), (nx1 (nx1 (nx1 k))), (nx1 (nx1 (nx1 (nx1 k)))), (nx1 (nx1 (nx1 (nx1 (nx1 k))))), (mkS fI64 e.cells (nx1 (nx1 (nx1 (nx1 (nx1 (nx1 k))))))).1⟩, (mkS fI64 e.cells (nx1 (nx1 (nx1 (nx1 (nx1 (nx1 k))))))).2)
def an61 : An (List NodeV × Int × Unit) where
  pre t := bNodeS t.1
  i _ t := (mkS fNode t.1 t.2.1).2
  l _ t := mapE tNode.own (mkS fNode t.1 t.2.1).1
noncomputable def en61 : En := mkE (parsC (pO tNode) (parsC pI pars0)) an61
attribute [simp] en61 an61
theorem ent61 : Enters Tryz.prog 61 := ⟨Tryz.f61, Tryz.func61, by kernel_rfl, by kernel_rfl⟩
noncomputable def Y61 (I : Ops) (K : FuncId → En) : CallsA := (Tab.calls [(64, false, callRef I (markT I (K 64) 1))])
theorem tY61 {I : Ops} (hI : I = real) {K : FuncId → En} (k64 : K 64 = en64) : CallsOk Tryz.prog (Y61 I K) := (TabOk.calls mixed ⟨EntryOk.ref (s64 hI k64) hI, notQuiet, trivial⟩)
theorem L61 {w : World} {Xs : Nat → Prop} {β0 : Nat → Nat × Nat} {O0 : Nat → List Nat} (es0 : List (List PV)) (l : List NodeV) (hb : bNodeS l = true) (n : Nat) (hn : n = l.length) :
    ∀ (kk i : Nat) (m : Int) (done : List NodeV) (rs : List (List PV)), kk + i = l.length → done.length = i → rs = (mapE tNode_own (done ++ l.drop i)) → W Tryz.prog 61 Tryz.f61 (EntR w Xs β0 O0 [(0, .row 7 es0)] 1) (Back (EntR w Xs β0 O0 [(0, .row 7 es0)] 1) (.one (.pv (.sc (.int .i64 (mkS fNode (l.drop i) m).2)))) [(0, .row 7 (mapE tNode_own (done ++ (mkS fNode (l.drop i) m).1)))] 1) (place (bodyOf Tryz.f61) [1,0,1,0,0] [])
      ⟨[(0, .one (.arr 0 0 n)), (1, .one (.pv (.sc (.int .i64 m)))), (5, .one (.pv (.sc (.int .i64 i))))], [(0, .row 7 rs)], 1⟩ := by
  obtain ⟨I, hI⟩ : ∃ I, I = real := ⟨_, rfl⟩; obtain ⟨K, k64⟩ : ∃ K : FuncId → En, K 64 = en64 := ⟨fun g => (lk g [(64, en64)]).getD default, rfl⟩
  have hl := bNodeS_len hb
  intro kk
  induction kk with
  | zero =>
    intro i m done rs hk hdn hrs
    have hlen : (done ++ l.drop i).length = l.length := mid_len hdn (by omega)
    have hlen2 : rs.length = l.length := by rw [hrs]; simp only [Ty.encs_length, mapE_length]; exact hlen
    have h1 : l.drop i = [] := List.drop_of_length_le (by omega)
    have hnth : True := trivial
    refine W_go (Y := (Y61 I K)) xok (tY61 hI k64) Tryz.func61 rfl 2000 _ hI ?_; (conv => arg 4; cbv)
    repeat' ((first | ((with_reducible refine on_eqs ?_ ?_); (focus (with_reducible rfl))) | (with_reducible refine on_both ?_ ?_) | (with_reducible refine on_true (by assumption) ?_) | (with_reducible refine on_false (by assumption) ?_) | (with_reducible refine on_ask (fun g => ?_) (fun g => ?_) <;> (have h := g) <;> (try simp (disch := omega) [hI, k64, en64, an64, hlen, hlen2, hnth, hn, hrs, -List.length_eq_zero_iff] at h) <;> (try (exfalso; omega))) | ((with_reducible refine on_must ?_ ?_); (focus (simp (disch := omega) [hI, k64, en64, an64, hlen, hlen2, hnth, hn, hrs] <;> exact mt)))) <;> (conv => arg 4; cbv))
    (with_reducible refine on_ret ?_); refine EndedN_of ?_; (conv => lhs; cbv)
    rw [hrs, h1]
    simp [mkS]
  | succ kk ih =>
    intro i m done rs hk hdn hrs
    have hlen : (done ++ l.drop i).length = l.length := mid_len hdn (by omega)
    have hlen2 : rs.length = l.length := by rw [hrs]; simp only [Ty.encs_length, mapE_length]; exact hlen
    have hnth : nth (done ++ l.drop i) i = nth l i := mid_nth hdn (by omega)
    have hset : ∀ (y : NodeV) {ps : List PV}, ps = tNode_own y → real.set rs i ps = (mapE tNode_own ((done ++ [y]) ++ l.drop (i + 1))) := by
      intro y ps hy
      rw [hrs]
      exact mid_set hdn (by omega) tNode_own y hy
    have hd : l.drop i = nth l i :: l.drop (i + 1) := nth_drop (by omega)
    have hx := bNodeS_nth hb (i := i) (by omega)
    have x0 := bNode_p hx
    have y0 := bI_len x0
    refine W_focus 0 i [.int .i64, .int .i64, .int .i64, .int .i64, .int .i64, .int .i64, .sl 1] hI ?_; (conv => arg 4; cbv)
    repeat' ((first | ((with_reducible refine on_eqs ?_ ?_); (focus (with_reducible rfl))) | (with_reducible refine on_both ?_ ?_) | (with_reducible refine on_true (by assumption) ?_) | (with_reducible refine on_false (by assumption) ?_) | (with_reducible refine on_ask (fun g => ?_) (fun g => ?_) <;> (have h := g) <;> (try simp (disch := omega) [hI, k64, en64, an64, hlen, hlen2, hnth, hn, hrs, -List.length_eq_zero_iff] at h) <;> (try (exfalso; omega))) | ((with_reducible refine on_must ?_ ?_); (focus (simp (disch := omega) [hI, k64, en64, an64, hlen, hlen2, hnth, hn, hrs] <;> exact mt)))) <;> (conv => arg 4; cbv))
    all_goals ((with_reducible refine on_loop ?_); refine W_go (Y := (Y61 I K)) xok (tY61 hI k64) Tryz.func61 rfl 2000 _ hI ?_; (conv => arg 4; cbv))
    repeat' ((first | ((with_reducible refine on_eqs ?_ ?_); (focus (with_reducible rfl))) | (with_reducible refine on_both ?_ ?_) | (with_reducible refine on_true (by assumption) ?_) | (with_reducible refine on_false (by assumption) ?_) | (with_reducible refine on_ask (fun g => ?_) (fun g => ?_) <;> (have h := g) <;> (try simp (disch := omega) [hI, k64, en64, an64, hlen, hlen2, hnth, hn, hrs, -List.length_eq_zero_iff] at h) <;> (try (exfalso; omega))) | ((with_reducible refine on_must ?_ ?_); (focus (simp (disch := omega) [hI, k64, en64, an64, hlen, hlen2, hnth, hn, hrs] <;> exact mt)))) <;> (conv => arg 4; cbv))
    all_goals ((with_reducible refine on_loop ?_); simp only [List.cons_append, List.nil_append])
    all_goals (apply W_unfocus 0 hI; (· (conv => lhs; cbv); try rfl))
    all_goals
      rw [show (mkS fNode (l.drop i) m).2 = (mkS fNode (l.drop (i + 1)) (fNode (nth l i) m).2).2 by rw [hd]; rfl, show done ++ (mkS fNode (l.drop i) m).1 = (done ++ [(fNode (nth l i) m).1]) ++ (mkS fNode (l.drop (i + 1)) (fNode (nth l i) m).2).1 by rw [hd]; simp [mkS]]
      refine W_norm [0, 1, 5] ?_ (ih (i + 1) _ (done ++ [(fNode (nth l i) m).1]) _ (by omega) (by simp; omega) rfl); (conv => lhs; cbv)
      rw [← hset (fNode (nth l i) m).1 rfl]
      clear hset hd ih
      try simp only [List.length_eq_zero_iff] at *
      simp (disch := omega) [hI, k64, en64, an64, hlen, hlen2, hnth, hn, hrs, *, nx1, fNode, tNode_own, mkS_take, mkS_nil, r_nthset]
      try rfl
theorem ok61 (k0 : Int) (l : List NodeV) (hb : bNodeS l = true) : OkR Tryz.prog 61 [.one (.arr 0 0 l.length), .one (.pv (.sc (.int .i64 k0)))] [(0, .row 7 (mapE tNode_own (l)))] 1 (.one (.pv (.sc (.int .i64 (mkS fNode l k0).2)))) [(0, .row 7 (mapE tNode_own ((mkS fNode l k0).1)))] 1 := by
  obtain ⟨I, hI⟩ : ∃ I, I = real := ⟨_, rfl⟩; obtain ⟨K, k64⟩ : ∃ K : FuncId → En, K 64 = en64 := ⟨fun g => (lk g [(64, en64)]).getD default, rfl⟩
  have hl := bNodeS_len hb
  have hlen : True := trivial
  have hlen2 : True := trivial
  have hnth : True := trivial
  have hrs : True := trivial
  obtain ⟨n, hn⟩ : ∃ n, n = l.length := ⟨_, rfl⟩
  obtain ⟨es0, hes0⟩ : ∃ es, es = (mapE tNode_own (l)) := ⟨_, rfl⟩
  suffices hs : OkR Tryz.prog 61 [.one (.arr 0 0 n), .one (.pv (.sc (.int .i64 k0)))] [(0, .row 7 es0)] 1 (.one (.pv (.sc (.int .i64 (mkS fNode l k0).2)))) [(0, .row 7 (mapE tNode_own ((mkS fNode l k0).1)))] 1 by rwa [hn, hes0] at hs
  refine OkR_run (Y := (Y61 I K)) xok (tY61 hI k64) Tryz.func61 rfl rfl rfl 2000 hI fun w Xs β0 O0 => ?_; (conv => arg 4; cbv)
  repeat' ((first | ((with_reducible refine on_eqs ?_ ?_); (focus (with_reducible rfl))) | (with_reducible refine on_both ?_ ?_) | (with_reducible refine on_true (by assumption) ?_) | (with_reducible refine on_false (by assumption) ?_) | (with_reducible refine on_ask (fun g => ?_) (fun g => ?_) <;> (have h := g) <;> (try simp (disch := omega) [hI, k64, en64, an64, hlen, hlen2, hnth, hn, hrs, -List.length_eq_zero_iff] at h) <;> (try (exfalso; omega))) | ((with_reducible refine on_must ?_ ?_); (focus (simp (disch := omega) [hI, k64, en64, an64, hlen, hlen2, hnth, hn, hrs] <;> exact mt)))) <;> (conv => arg 4; cbv))
  (with_reducible refine on_loop ?_); simp only [List.cons_append, List.nil_append]; refine W_norm [0, 1, 5] ?_ (L61 es0 l hb n hn l.length 0 k0 [] es0 rfl rfl hes0); (conv => lhs; cbv)
  rfl
theorem okn61 (k0 : Int) (p : PV) (hp : els p = []) (hp2 : isNo p = true) : OkR Tryz.prog 61 [.one (.pv p), .one (.pv (.sc (.int .i64 k0)))] [] 0 (.one (.pv (.sc (.int .i64 k0)))) [] 0 := by
  obtain ⟨I, hI⟩ : ∃ I, I = real := ⟨_, rfl⟩; obtain ⟨K, k64⟩ : ∃ K : FuncId → En, K 64 = en64 := ⟨fun g => (lk g [(64, en64)]).getD default, rfl⟩
  have hlen : True := trivial
  have hlen2 : True := trivial
  have hnth : True := trivial
  have hrs : True := trivial
  have hn : True := trivial
  rcases PV.no_nil hp hp2 with rfl | ⟨u, s, rfl⟩
  all_goals
    refine OkR_run (Y := (Y61 I K)) xok (tY61 hI k64) Tryz.func61 rfl rfl rfl 2000 hI fun w Xs β0 O0 => ?_; (conv => arg 4; cbv)
    repeat' ((first | ((with_reducible refine on_eqs ?_ ?_); (focus (with_reducible rfl))) | (with_reducible refine on_both ?_ ?_) | (with_reducible refine on_true (by assumption) ?_) | (with_reducible refine on_false (by assumption) ?_) | (with_reducible refine on_ask (fun g => ?_) (fun g => ?_) <;> (have h := g) <;> (try simp (disch := omega) [hI, k64, en64, an64, hlen, hlen2, hnth, hn, hrs, -List.length_eq_zero_iff] at h) <;> (try (exfalso; omega))) | ((with_reducible refine on_must ?_ ?_); (focus (simp (disch := omega) [hI, k64, en64, an64, hlen, hlen2, hnth, hn, hrs] <;> exact mt)))) <;> (conv => arg 4; cbv))
    (with_reducible refine on_loop ?_)
    simp only [List.cons_append, List.nil_append]
    refine W_go (Y := (Y61 I K)) xok (tY61 hI k64) Tryz.func61 rfl 2000 _ hI ?_; (conv => arg 4; cbv)
    repeat' ((first | ((with_reducible refine on_eqs ?_ ?_); (focus (with_reducible rfl))) | (with_reducible refine on_both ?_ ?_) | (with_reducible refine on_true (by assumption) ?_) | (with_reducible refine on_false (by assumption) ?_) | (with_reducible refine on_ask (fun g => ?_) (fun g => ?_) <;> (have h := g) <;> (try simp (disch := omega) [hI, k64, en64, an64, hlen, hlen2, hnth, hn, hrs, -List.length_eq_zero_iff] at h) <;> (try (exfalso; omega))) | ((with_reducible refine on_must ?_ ?_); (focus (simp (disch := omega) [hI, k64, en64, an64, hlen, hlen2, hnth, hn, hrs] <;> exact mt)))) <;> (conv => arg 4; cbv))
    (with_reducible refine on_ret ?_); refine EndedN_of ?_; (conv => lhs; cbv)
theorem s61 {I : Ops} (hI : I = real) {e : En} (he : e = en61) : SoundR Tryz.prog 61 (markT I e 7) :=
  SoundR.markT (T := tNode) (r := fun l k => (mkS fNode l k).1) ent61 (fun _ => rfl) (fun k0 l hp => by
    have hp : bNodeS l = true := hp
    exact ok61 k0 l hp) okn61 hI he
def fHeld (e : HeldV) (k : Int) : HeldV × Int := (⟨(mkS fEntry e.oldA k).1, (mkS fEntry e.oldB (mkS fEntry e.oldA k).2).1, (mkS fBatch e.waits (mkS fEntry e.oldB (mkS fEntry e.oldA k).2).2).1, (mkS fBatch e.waits (mkS fEntry e.oldB (mkS fEntry e.oldA k).2).2).2⟩, (nx1 (mkS fBatch e.waits (mkS fEntry e.oldB (mkS fEntry e.oldA k).2).2).2))
def an97 : An (List HeldV × Int × Unit) where
  pre t := bHeldS t.1
  i _ t := (mkS fHeld t.1 t.2.1).2
  l _ t := mapE tHeld.own (mkS fHeld t.1 t.2.1).1
noncomputable def en97 : En := mkE (parsC (pO tHeld) (parsC pI pars0)) an97
attribute [simp] en97 an97
theorem ent97 : Enters Tryz.prog 97 := ⟨Tryz.f97, Tryz.func97, by kernel_rfl, by kernel_rfl⟩
noncomputable def Y97 (I : Ops) (K : FuncId → En) : CallsA := (Tab.calls [(70, false, callRef I (markT I (K 70) 2)), (132, false, callRef I (markT I (K 132) 3))])
theorem tY97 {I : Ops} (hI : I = real) {K : FuncId → En} (k70 : K 70 = en70) (k132 : K 132 = en132) : CallsOk Tryz.prog (Y97 I K) := (TabOk.calls mixed ⟨EntryOk.ref (s70 hI k70) hI, notQuiet, ⟨EntryOk.ref (s132 hI k132) hI, notQuiet, trivial⟩⟩)
theorem L97 {w : World} {Xs : Nat → Prop} {β0 : Nat → Nat × Nat} {O0 : Nat → List Nat} (es0 : List (List PV)) (l : List HeldV) (hb : bHeldS l = true) (n : Nat) (hn : n = l.length) :
    ∀ (kk i : Nat) (m : Int) (done : List HeldV) (rs : List (List PV)), kk + i = l.length → done.length = i → rs = (mapE tHeld_own (done ++ l.drop i)) → W Tryz.prog 97 Tryz.f97 (EntR w Xs β0 O0 [(0, .row 4 es0)] 1) (Back (EntR w Xs β0 O0 [(0, .row 4 es0)] 1) (.one (.pv (.sc (.int .i64 (mkS fHeld (l.drop i) m).2)))) [(0, .row 4 (mapE tHeld_own (done ++ (mkS fHeld (l.drop i) m).1)))] 1) (place (bodyOf Tryz.f97) [1,0,1,0,0] [])
      ⟨[(0, .one (.arr 0 0 n)), (1, .one (.pv (.sc (.int .i64 m)))), (5, .one (.pv (.sc (.int .i64 i))))], [(0, .row 4 rs)], 1⟩ := by
  obtain ⟨I, hI⟩ : ∃ I, I = real := ⟨_, rfl⟩; obtain ⟨K, k70, k132⟩ : ∃ K : FuncId → En, K 70 = en70 ∧ K 132 = en132 := ⟨fun g => (lk g [(70, en70), (132, en132)]).getD default, rfl, rfl⟩
  have hl := bHeldS_len hb
  intro kk
  induction kk with
  | zero =>
    intro i m done rs hk hdn hrs
    have hlen : (done ++ l.drop i).length = l.length := mid_len hdn (by omega)
    have hlen2 : rs.length = l.length := by rw [hrs]; simp only [Ty.encs_length, mapE_length]; exact hlen
    have h1 : l.drop i = [] := List.drop_of_length_le (by omega)
    have hnth : True := trivial
    refine W_go (Y := (Y97 I K)) xok (tY97 hI k70 k132) Tryz.func97 rfl 2000 _ hI ?_; (conv => arg 4; cbv)
    repeat' ((first | ((with_reducible refine on_eqs ?_ ?_); (focus (with_reducible rfl))) | (with_reducible refine on_both ?_ ?_) | (with_reducible refine on_true (by assumption) ?_) | (with_reducible refine on_false (by assumption) ?_) | (with_reducible refine on_ask (fun g => ?_) (fun g => ?_) <;> (have h := g) <;> (try simp (disch := omega) [hI, k70, en70, an70, k132, en132, an132, hlen, hlen2, hnth, hn, hrs, -List.length_eq_zero_iff] at h) <;> (try (exfalso; omega))) | ((with_reducible refine on_must ?_ ?_); (focus (simp (disch := omega) [hI, k70, en70, an70, k132, en132, an132, hlen, hlen2, hnth, hn, hrs] <;> exact mt)))) <;> (conv => arg 4; cbv))
    (with_reducible refine on_ret ?_); refine EndedN_of ?_; (conv => lhs; cbv)
    rw [hrs, h1]
    simp [mkS]
  | succ kk ih =>
    intro i m done rs hk hdn hrs
    have hlen : (done ++ l.drop i).length = l.length := mid_len hdn (by omega)
    have hlen2 : rs.length = l.length := by rw [hrs]; simp only [Ty.encs_length, mapE_length]; exact hlen
    have hnth : nth (done ++ l.drop i) i = nth l i := mid_nth hdn (by omega)
    have hset : ∀ (y : HeldV) {ps : List PV}, ps = tHeld_own y → real.set rs i ps = (mapE tHeld_own ((done ++ [y]) ++ l.drop (i + 1))) := by
      intro y ps hy
      rw [hrs]
      exact mid_set hdn (by omega) tHeld_own y hy
    have hd : l.drop i = nth l i :: l.drop (i + 1) := nth_drop (by omega)
    have hx := bHeldS_nth hb (i := i) (by omega)
    obtain ⟨x0, x1, x2⟩ := bHeld_p hx
    have y0 := bEntryS_len x0
    have y1 := bEntryS_len x1
    have y2 := bBatchS_len x2
    refine W_focus 0 i [.sl 2, .sl 2, .sl 3, .int .i64] hI ?_; (conv => arg 4; cbv)
    repeat' ((first | ((with_reducible refine on_eqs ?_ ?_); (focus (with_reducible rfl))) | (with_reducible refine on_both ?_ ?_) | (with_reducible refine on_true (by assumption) ?_) | (with_reducible refine on_false (by assumption) ?_) | (with_reducible refine on_ask (fun g => ?_) (fun g => ?_) <;> (have h := g) <;> (try simp (disch := omega) [hI, k70, en70, an70, k132, en132, an132, hlen, hlen2, hnth, hn, hrs, -List.length_eq_zero_iff] at h) <;> (try (exfalso; omega))) | ((with_reducible refine on_must ?_ ?_); (focus (simp (disch := omega) [hI, k70, en70, an70, k132, en132, an132, hlen, hlen2, hnth, hn, hrs] <;> exact mt)))) <;> (conv => arg 4; cbv))
    all_goals ((with_reducible refine on_loop ?_); refine W_go (Y := (Y97 I K)) xok (tY97 hI k70 k132) Tryz.func97 rfl 2000 _ hI ?_; (conv => arg 4; cbv))
    repeat' ((first | ((with_reducible refine on_eqs ?_ ?_); (focus (with_reducible rfl))) | (with_reducible refine on_both ?_ ?_) | (with_reducible refine on_true (by assumption) ?_) | (with_reducible refine on_false (by assumption) ?_) | (with_reducible refine on_ask (fun g => ?_) (fun g => ?_) <;> (have h := g) <;> (try simp (disch := omega) [hI, k70, en70, an70, k132, en132, an132, hlen, hlen2, hnth, hn, hrs, -List.length_eq_zero_iff] at h) <;> (try (exfalso; omega))) | ((with_reducible refine on_must ?_ ?_); (focus (simp (disch := omega) [hI, k70, en70, an70, k132, en132, an132, hlen, hlen2, hnth, hn, hrs] <;> exact mt)))) <;> (conv => arg 4; cbv))
    all_goals ((with_reducible refine on_loop ?_); simp only [List.cons_append, List.nil_append])
    all_goals (apply W_unfocus 0 hI; (· (conv => lhs; cbv); try rfl))
    all_goals
      rw [show (mkS fHeld (l.drop i) m).2 = (mkS fHeld (l.drop (i + 1)) (fHeld (nth l i) m).2).2 by rw [hd]; rfl, show done ++ (mkS fHeld (l.drop i) m).1 = (done ++ [(fHeld (nth l i) m).1]) ++ (mkS fHeld (l.drop (i + 1)) (fHeld (nth l i) m).2).1 by rw [hd]; simp [mkS]]
      refine W_norm [0, 1, 5] ?_ (ih (i + 1) _ (done ++ [(fHeld (nth l i) m).1]) _ (by omega) (by simp; omega) rfl); (conv => lhs; cbv)
      rw [← hset (fHeld (nth l i) m).1 rfl]
      clear hset hd ih
      try simp only [List.length_eq_zero_iff] at *
      simp (disch := omega) [hI, k70, en70, an70, k132, en132, an132, hlen, hlen2, hnth, hn, hrs, *, nx1, fHeld, tHeld_own, mkS_take, mkS_nil, r_nthset]
      try rfl
theorem ok97 (k0 : Int) (l : List HeldV) (hb : bHeldS l = true) : OkR Tryz.prog 97 [.one (.arr 0 0 l.length), .one (.pv (.sc (.int .i64 k0)))] [(0, .row 4 (mapE tHeld_own (l)))] 1 (.one (.pv (.sc (.int .i64 (mkS fHeld l k0).2)))) [(0, .row 4 (mapE tHeld_own ((mkS fHeld l k0).1)))] 1 := by
  obtain ⟨I, hI⟩ : ∃ I, I = real := ⟨_, rfl⟩; obtain ⟨K, k70, k132⟩ : ∃ K : FuncId → En, K 70 = en70 ∧ K 132 = en132 := ⟨fun g => (lk g [(70, en70), (132, en132)]).getD default, rfl, rfl⟩
  have hl := bHeldS_len hb
  have hlen : True := trivial
  have hlen2 : True := trivial
  have hnth : True := trivial
  have hrs : True := trivial
  obtain ⟨n, hn⟩ : ∃ n, n = l.length := ⟨_, rfl⟩
  obtain ⟨es0, hes0⟩ : ∃ es, es = (mapE tHeld_own (l)) := ⟨_, rfl⟩
  suffices hs : OkR Tryz.prog 97 [.one (.arr 0 0 n), .one (.pv (.sc (.int .i64 k0)))] [(0, .row 4 es0)] 1 (.one (.pv (.sc (.int .i64 (mkS fHeld l k0).2)))) [(0, .row 4 (mapE tHeld_own ((mkS fHeld l k0).1)))] 1 by rwa [hn, hes0] at hs
  refine OkR_run (Y := (Y97 I K)) xok (tY97 hI k70 k132) Tryz.func97 rfl rfl rfl 2000 hI fun w Xs β0 O0 => ?_; (conv => arg 4; cbv)
  repeat' ((first | ((with_reducible refine on_eqs ?_ ?_); (focus (with_reducible rfl))) | (with_reducible refine on_both ?_ ?_) | (with_reducible refine on_true (by assumption) ?_) | (with_reducible refine on_false (by assumption) ?_) | (with_reducible refine on_ask (fun g => ?_) (fun g => ?_) <;> (have h := g) <;> (try simp (disch := omega) [hI, k70, en70, an70, k132, en132, an132, hlen, hlen2, hnth, hn, hrs, -List.length_eq_zero_iff] at h) <;> (try (exfalso; omega))) | ((with_reducible refine on_must ?_ ?_); (focus (simp (disch := omega) [hI, k70, en70, an70, k132, en132, an132, hlen, hlen2, hnth, hn, hrs] <;> exact mt)))) <;> (conv => arg 4; cbv))
  (with_reducible refine on_loop ?_); simp only [List.cons_append, List.nil_append]; refine W_norm [0, 1, 5] ?_ (L97 es0 l hb n hn l.length 0 k0 [] es0 rfl rfl hes0); (conv => lhs; cbv)
  rfl
theorem okn97 (k0 : Int) (p : PV) (hp : els p = []) (hp2 : isNo p = true) : OkR Tryz.prog 97 [.one (.pv p), .one (.pv (.sc (.int .i64 k0)))] [] 0 (.one (.pv (.sc (.int .i64 k0)))) [] 0 := by
  obtain ⟨I, hI⟩ : ∃ I, I = real := ⟨_, rfl⟩; obtain ⟨K, k70, k132⟩ : ∃ K : FuncId → En, K 70 = en70 ∧ K 132 = en132 := ⟨fun g => (lk g [(70, en70), (132, en132)]).getD default, rfl, rfl⟩
  have hlen : True := trivial
  have hlen2 : True := trivial
  have hnth : True := trivial
  have hrs : True := trivial
  have hn : True := trivial
  rcases PV.no_nil hp hp2 with rfl | ⟨u, s, rfl⟩
  all_goals
    refine OkR_run (Y := (Y97 I K)) xok (tY97 hI k70 k132) Tryz.func97 rfl rfl rfl 2000 hI fun w Xs β0 O0 => ?_; (conv => arg 4; cbv)
    repeat' ((first | ((with_reducible refine on_eqs ?_ ?_); (focus (with_reducible rfl))) | (with_reducible refine on_both ?_ ?_) | (with_reducible refine on_true (by assumption) ?_) | (with_reducible refine on_false (by assumption) ?_) | (with_reducible refine on_ask (fun g => ?_) (fun g => ?_) <;> (have h := g) <;> (try simp (disch := omega) [hI, k70, en70, an70, k132, en132, an132, hlen, hlen2, hnth, hn, hrs, -List.length_eq_zero_iff] at h) <;> (try (exfalso; omega))) | ((with_reducible refine on_must ?_ ?_); (focus (simp (disch := omega) [hI, k70, en70, an70, k132, en132, an132, hlen, hlen2, hnth, hn, hrs] <;> exact mt)))) <;> (conv => arg 4; cbv))
    (with_reducible refine on_loop ?_)
    simp only [List.cons_append, List.nil_append]
    refine W_go (Y := (Y97 I K)) xok (tY97 hI k70 k132) Tryz.func97 rfl 2000 _ hI ?_; (conv => arg 4; cbv)
    repeat' ((first | ((with_reducible refine on_eqs ?_ ?_); (focus (with_reducible rfl))) | (with_reducible refine on_both ?_ ?_) | (with_reducible refine on_true (by assumption) ?_) | (with_reducible refine on_false (by assumption) ?_) | (with_reducible refine on_ask (fun g => ?_) (fun g => ?_) <;> (have h := g) <;> (try simp (disch := omega) [hI, k70, en70, an70, k132, en132, an132, hlen, hlen2, hnth, hn, hrs, -List.length_eq_zero_iff] at h) <;> (try (exfalso; omega))) | ((with_reducible refine on_must ?_ ?_); (focus (simp (disch := omega) [hI, k70, en70, an70, k132, en132, an132, hlen, hlen2, hnth, hn, hrs] <;> exact mt)))) <;> (conv => arg 4; cbv))
    (with_reducible refine on_ret ?_); refine EndedN_of ?_; (conv => lhs; cbv)
theorem s97 {I : Ops} (hI : I = real) {e : En} (he : e = en97) : SoundR Tryz.prog 97 (markT I e 4) :=
  SoundR.markT (T := tHeld) (r := fun l k => (mkS fHeld l k).1) ent97 (fun _ => rfl) (fun k0 l hp => by
    have hp : bHeldS l = true := hp
    exact ok97 k0 l hp) okn97 hI he
def fRelease (e : ReleaseV) (k : Int) : ReleaseV × Int := (⟨k, (nx1 k), (mkS fEntry e.set (nx1 (nx1 k))).1⟩, (mkS fEntry e.set (nx1 (nx1 k))).2)
def an98 : An (List ReleaseV × Int × Unit) where
  pre t := bReleaseS t.1
  i _ t := (mkS fRelease t.1 t.2.1).2
  l _ t := mapE tRelease.own (mkS fRelease t.1 t.2.1).1
noncomputable def en98 : En := mkE (parsC (pO tRelease) (parsC pI pars0)) an98
attribute [simp] en98 an98
theorem ent98 : Enters Tryz.prog 98 := ⟨Tryz.f98, Tryz.func98, by kernel_rfl, by kernel_rfl⟩
noncomputable def Y98 (I : Ops) (K : FuncId → En) : CallsA := (Tab.calls [(70, false, callRef I (markT I (K 70) 2))])
theorem tY98 {I : Ops} (hI : I = real) {K : FuncId → En} (k70 : K 70 = en70) : CallsOk Tryz.prog (Y98 I K) := (TabOk.calls mixed ⟨EntryOk.ref (s70 hI k70) hI, notQuiet, trivial⟩)
theorem L98 {w : World} {Xs : Nat → Prop} {β0 : Nat → Nat × Nat} {O0 : Nat → List Nat} (es0 : List (List PV)) (l : List ReleaseV) (hb : bReleaseS l = true) (n : Nat) (hn : n = l.length) :
    ∀ (kk i : Nat) (m : Int) (done : List ReleaseV) (rs : List (List PV)), kk + i = l.length → done.length = i → rs = (mapE tRelease_own (done ++ l.drop i)) → W Tryz.prog 98 Tryz.f98 (EntR w Xs β0 O0 [(0, .row 3 es0)] 1) (Back (EntR w Xs β0 O0 [(0, .row 3 es0)] 1) (.one (.pv (.sc (.int .i64 (mkS fRelease (l.drop i) m).2)))) [(0, .row 3 (mapE tRelease_own (done ++ (mkS fRelease (l.drop i) m).1)))] 1) (place (bodyOf Tryz.f98) [1,0,1,0,0] [])
      ⟨[(0, .one (.arr 0 0 n)), (1, .one (.pv (.sc (.int .i64 m)))), (5, .one (.pv (.sc (.int .i64 i))))], [(0, .row 3 rs)], 1⟩ := by
  obtain ⟨I, hI⟩ : ∃ I, I = real := ⟨_, rfl⟩; obtain ⟨K, k70⟩ : ∃ K : FuncId → En, K 70 = en70 := ⟨fun g => (lk g [(70, en70)]).getD default, rfl⟩
  have hl := bReleaseS_len hb
  intro kk
  induction kk with
  | zero =>
    intro i m done rs hk hdn hrs
    have hlen : (done ++ l.drop i).length = l.length := mid_len hdn (by omega)
    have hlen2 : rs.length = l.length := by rw [hrs]; simp only [Ty.encs_length, mapE_length]; exact hlen
    have h1 : l.drop i = [] := List.drop_of_length_le (by omega)
    have hnth : True := trivial
    refine W_go (Y := (Y98 I K)) xok (tY98 hI k70) Tryz.func98 rfl 2000 _ hI ?_; (conv => arg 4; cbv)
    repeat' ((first | ((with_reducible refine on_eqs ?_ ?_); (focus (with_reducible rfl))) | (with_reducible refine on_both ?_ ?_) | (with_reducible refine on_true (by assumption) ?_) | (with_reducible refine on_false (by assumption) ?_) | (with_reducible refine on_ask (fun g => ?_) (fun g => ?_) <;> (have h := g) <;> (try simp (disch := omega) [hI, k70, en70, an70, hlen, hlen2, hnth, hn, hrs, -List.length_eq_zero_iff] at h) <;> (try (exfalso; omega))) | ((with_reducible refine on_must ?_ ?_); (focus (simp (disch := omega) [hI, k70, en70, an70, hlen, hlen2, hnth, hn, hrs] <;> exact mt)))) <;> (conv => arg 4; cbv))
    (with_reducible refine on_ret ?_); refine EndedN_of ?_; (conv => lhs; cbv)
    rw [hrs, h1]
    simp [mkS]
  | succ kk ih =>
    intro i m done rs hk hdn hrs
    have hlen : (done ++ l.drop i).length = l.length := mid_len hdn (by omega)
    have hlen2 : rs.length = l.length := by rw [hrs]; simp only [Ty.encs_length, mapE_length]; exact hlen
    have hnth : nth (done ++ l.drop i) i = nth l i := mid_nth hdn (by omega)
    have hset : ∀ (y : ReleaseV) {ps : List PV}, ps = tRelease_own y → real.set rs i ps = (mapE tRelease_own ((done ++ [y]) ++ l.drop (i + 1))) := by
      intro y ps hy
      rw [hrs]
      exact mid_set hdn (by omega) tRelease_own y hy
    have hd : l.drop i = nth l i :: l.drop (i + 1) := nth_drop (by omega)
    have hx := bReleaseS_nth hb (i := i) (by omega)
    have x0 := bRelease_p hx
    have y0 := bEntryS_len x0
    refine W_focus 0 i [.int .i64, .int .i64, .sl 2] hI ?_; (conv => arg 4; cbv)
    repeat' ((first | ((with_reducible refine on_eqs ?_ ?_); (focus (with_reducible rfl))) | (with_reducible refine on_both ?_ ?_) | (with_reducible refine on_true (by assumption) ?_) | (with_reducible refine on_false (by assumption) ?_) | (with_reducible refine on_ask (fun g => ?_) (fun g => ?_) <;> (have h := g) <;> (try simp (disch := omega) [hI, k70, en70, an70, hlen, hlen2, hnth, hn, hrs, -List.length_eq_zero_iff] at h) <;> (try (exfalso; omega))) | ((with_reducible refine on_must ?_ ?_); (focus (simp (disch := omega) [hI, k70, en70, an70, hlen, hlen2, hnth, hn, hrs] <;> exact mt)))) <;> (conv => arg 4; cbv))
    all_goals ((with_reducible refine on_loop ?_); refine W_go (Y := (Y98 I K)) xok (tY98 hI k70) Tryz.func98 rfl 2000 _ hI ?_; (conv => arg 4; cbv))
    repeat' ((first | ((with_reducible refine on_eqs ?_ ?_); (focus (with_reducible rfl))) | (with_reducible refine on_both ?_ ?_) | (with_reducible refine on_true (by assumption) ?_) | (with_reducible refine on_false (by assumption) ?_) | (with_reducible refine on_ask (fun g => ?_) (fun g => ?_) <;> (have h := g) <;> (try simp (disch := omega) [hI, k70, en70, an70, hlen, hlen2, hnth, hn, hrs, -List.length_eq_zero_iff] at h) <;> (try (exfalso; omega))) | ((with_reducible refine on_must ?_ ?_); (focus (simp (disch := omega) [hI, k70, en70, an70, hlen, hlen2, hnth, hn, hrs] <;> exact mt)))) <;> (conv => arg 4; cbv))
    all_goals ((with_reducible refine on_loop ?_); simp only [List.cons_append, List.nil_append])
    all_goals (apply W_unfocus 0 hI; (· (conv => lhs; cbv); try rfl))
    all_goals
      rw [show (mkS fRelease (l.drop i) m).2 = (mkS fRelease (l.drop (i + 1)) (fRelease (nth l i) m).2).2 by rw [hd]; rfl, show done ++ (mkS fRelease (l.drop i) m).1 = (done ++ [(fRelease (nth l i) m).1]) ++ (mkS fRelease (l.drop (i + 1)) (fRelease (nth l i) m).2).1 by rw [hd]; simp [mkS]]
      refine W_norm [0, 1, 5] ?_ (ih (i + 1) _ (done ++ [(fRelease (nth l i) m).1]) _ (by omega) (by simp; omega) rfl); (conv => lhs; cbv)
      rw [← hset (fRelease (nth l i) m).1 rfl]
      clear hset hd ih
      try simp only [List.length_eq_zero_iff] at *
      simp (disch := omega) [hI, k70, en70, an70, hlen, hlen2, hnth, hn, hrs, *, nx1, fRelease, tRelease_own, mkS_take, mkS_nil, r_nthset]
      try rfl
theorem ok98 (k0 : Int) (l : List ReleaseV) (hb : bReleaseS l = true) : OkR Tryz.prog 98 [.one (.arr 0 0 l.length), .one (.pv (.sc (.int .i64 k0)))] [(0, .row 3 (mapE tRelease_own (l)))] 1 (.one (.pv (.sc (.int .i64 (mkS fRelease l k0).2)))) [(0, .row 3 (mapE tRelease_own ((mkS fRelease l k0).1)))] 1 := by
  obtain ⟨I, hI⟩ : ∃ I, I = real := ⟨_, rfl⟩; obtain ⟨K, k70⟩ : ∃ K : FuncId → En, K 70 = en70 := ⟨fun g => (lk g [(70, en70)]).getD default, rfl⟩
  have hl := bReleaseS_len hb
  have hlen : True := trivial
  have hlen2 : True := trivial
  have hnth : True := trivial
  have hrs : True := trivial
  obtain ⟨n, hn⟩ : ∃ n, n = l.length := ⟨_, rfl⟩
  obtain ⟨es0, hes0⟩ : ∃ es, es = (mapE tRelease_own (l)) := ⟨_, rfl⟩
  suffices hs : OkR Tryz.prog 98 [.one (.arr 0 0 n), .one (.pv (.sc (.int .i64 k0)))] [(0, .row 3 es0)] 1 (.one (.pv (.sc (.int .i64 (mkS fRelease l k0).2)))) [(0, .row 3 (mapE tRelease_own ((mkS fRelease l k0).1)))] 1 by rwa [hn, hes0] at hs
  refine OkR_run (Y := (Y98 I K)) xok (tY98 hI k70) Tryz.func98 rfl rfl rfl 2000 hI fun w Xs β0 O0 => ?_; (conv => arg 4; cbv)
  repeat' ((first | ((with_reducible refine on_eqs ?_ ?_); (focus (with_reducible rfl))) | (with_reducible refine on_both ?_ ?_) | (with_reducible refine on_true (by assumption) ?_) | (with_reducible refine on_false (by assumption) ?_) | (with_reducible refine on_ask (fun g => ?_) (fun g => ?_) <;> (have h := g) <;> (try simp (disch := omega) [hI, k70, en70, an70, hlen, hlen2, hnth, hn, hrs, -List.length_eq_zero_iff] at h) <;> (try (exfalso; omega))) | ((with_reducible refine on_must ?_ ?_); (focus (simp (disch := omega) [hI, k70, en70, an70, hlen, hlen2, hnth, hn, hrs] <;> exact mt)))) <;> (conv => arg 4; cbv))
  (with_reducible refine on_loop ?_); simp only [List.cons_append, List.nil_append]; refine W_norm [0, 1, 5] ?_ (L98 es0 l hb n hn l.length 0 k0 [] es0 rfl rfl hes0); (conv => lhs; cbv)
  rfl
theorem okn98 (k0 : Int) (p : PV) (hp : els p = []) (hp2 : isNo p = true) : OkR Tryz.prog 98 [.one (.pv p), .one (.pv (.sc (.int .i64 k0)))] [] 0 (.one (.pv (.sc (.int .i64 k0)))) [] 0 := by
  obtain ⟨I, hI⟩ : ∃ I, I = real := ⟨_, rfl⟩; obtain ⟨K, k70⟩ : ∃ K : FuncId → En, K 70 = en70 := ⟨fun g => (lk g [(70, en70)]).getD default, rfl⟩
  have hlen : True := trivial
  have hlen2 : True := trivial
  have hnth : True := trivial
  have hrs : True := trivial
  have hn : True := trivial
  rcases PV.no_nil hp hp2 with rfl | ⟨u, s, rfl⟩
  all_goals
    refine OkR_run (Y := (Y98 I K)) xok (tY98 hI k70) Tryz.func98 rfl rfl rfl 2000 hI fun w Xs β0 O0 => ?_; (conv => arg 4; cbv)
    repeat' ((first | ((with_reducible refine on_eqs ?_ ?_); (focus (with_reducible rfl))) | (with_reducible refine on_both ?_ ?_) | (with_reducible refine on_true (by assumption) ?_) | (with_reducible refine on_false (by assumption) ?_) | (with_reducible refine on_ask (fun g => ?_) (fun g => ?_) <;> (have h := g) <;> (try simp (disch := omega) [hI, k70, en70, an70, hlen, hlen2, hnth, hn, hrs, -List.length_eq_zero_iff] at h) <;> (try (exfalso; omega))) | ((with_reducible refine on_must ?_ ?_); (focus (simp (disch := omega) [hI, k70, en70, an70, hlen, hlen2, hnth, hn, hrs] <;> exact mt)))) <;> (conv => arg 4; cbv))
    (with_reducible refine on_loop ?_)
    simp only [List.cons_append, List.nil_append]
    refine W_go (Y := (Y98 I K)) xok (tY98 hI k70) Tryz.func98 rfl 2000 _ hI ?_; (conv => arg 4; cbv)
    repeat' ((first | ((with_reducible refine on_eqs ?_ ?_); (focus (with_reducible rfl))) | (with_reducible refine on_both ?_ ?_) | (with_reducible refine on_true (by assumption) ?_) | (with_reducible refine on_false (by assumption) ?_) | (with_reducible refine on_ask (fun g => ?_) (fun g => ?_) <;> (have h := g) <;> (try simp (disch := omega) [hI, k70, en70, an70, hlen, hlen2, hnth, hn, hrs, -List.length_eq_zero_iff] at h) <;> (try (exfalso; omega))) | ((with_reducible refine on_must ?_ ?_); (focus (simp (disch := omega) [hI, k70, en70, an70, hlen, hlen2, hnth, hn, hrs] <;> exact mt)))) <;> (conv => arg 4; cbv))
    (with_reducible refine on_ret ?_); refine EndedN_of ?_; (conv => lhs; cbv)
theorem s98 {I : Ops} (hI : I = real) {e : En} (he : e = en98) : SoundR Tryz.prog 98 (markT I e 3) :=
  SoundR.markT (T := tRelease) (r := fun l k => (mkS fRelease l k).1) ent98 (fun _ => rfl) (fun k0 l hp => by
    have hp : bReleaseS l = true := hp
    exact ok98 k0 l hp) okn98 hI he
end Go.Proofs.Tryz
