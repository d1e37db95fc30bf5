/- Contracts. -/
import Derived.Test.YtiieincddkhcdaaGreatBi
set_option linter.unusedSimpArgs false
set_option linter.unusedVariables false
namespace Go.Proofs.Tryz
open Go Go.Aix
set_option maxRecDepth 100000
set_option maxHeartbeats 4000000
@[simp] theorem pO_Entry (l : List EntryV) : (pO tEntry).dec (.one (.pv (.sl true 2 (mapE tEntry_own l)))) = some l := pO_dec tEntry l
@[simp] theorem pO_Node (l : List NodeV) : (pO tNode).dec (.one (.pv (.sl true 7 (mapE tNode_own l)))) = some l := pO_dec tNode l
@[simp] theorem pO_Batch (l : List BatchV) : (pO tBatch).dec (.one (.pv (.sl true 3 (mapE tBatch_own l)))) = some l := pO_dec tBatch l
@[simp] theorem pO_Held (l : List HeldV) : (pO tHeld).dec (.one (.pv (.sl true 4 (mapE tHeld_own l)))) = some l := pO_dec tHeld l
@[simp] theorem pO_Release (l : List ReleaseV) : (pO tRelease).dec (.one (.pv (.sl true 3 (mapE tRelease_own l)))) = some l := pO_dec tRelease l
@[simp] theorem pO_Frame (l : List FrameV) : (pO tFrame).dec (.one (.pv (.sl true 6 (mapE tFrame_own l)))) = some l := pO_dec tFrame l
@[simp] theorem pO_Link (l : List LinkV) : (pO tLink).dec (.one (.pv (.sl true 1 (mapE tLink_own l)))) = some l := pO_dec tLink l
@[simp] theorem pO_Worker (l : List WorkerV) : (pO tWorker).dec (.one (.pv (.sl true 7 (mapE tWorker_own l)))) = some l := pO_dec tWorker l
def an64 : An (List Int × Int × Unit) where
  pre t := decide (t.1.length < 4611686018427387904)
  i _ t := (mkS fI64 t.1 t.2.1).2
  l _ t := mapE tI64.own (mkS fI64 t.1 t.2.1).1
noncomputable def en64 : En := mkE (parsC (pO tI64) (parsC pI pars0)) an64
attribute [simp] en64 an64
theorem ent64 : Enters Tryz.prog 64 := ⟨Tryz.f64, Tryz.func64, by kernel_rfl, by kernel_rfl⟩
theorem L64 {w : World} {Xs : Nat → Prop} {β0 : Nat → Nat × Nat} {O0 : Nat → List Nat} (es0 : List (List PV)) (l : List Int) (hl : l.length < 4611686018427387904) (n : Nat) (hn : n = l.length) :
    ∀ (kk i : Nat) (m : Int) (done : List Int) (rs : List (List PV)), kk + i = l.length → done.length = i → rs = (tI64.encs (done ++ l.drop i)) → W Tryz.prog 64 Tryz.f64 (EntR w Xs β0 O0 [(0, .row 1 es0)] 1) (Back (EntR w Xs β0 O0 [(0, .row 1 es0)] 1) (.one (.pv (.sc (.int .i64 (mkS fI64 (l.drop i) m).2)))) [(0, .row 1 (tI64.encs (done ++ (mkS fI64 (l.drop i) m).1)))] 1) (place (bodyOf Tryz.f64) [1,0,1,0,0] [])
      ⟨[(0, .one (.arr 0 0 n)), (1, .one (.pv (.sc (.int .i64 m)))), (5, .one (.pv (.sc (.int .i64 i))))], [(0, .row 1 rs)], 1⟩ := by
  obtain ⟨I, hI⟩ : ∃ I, I = real := ⟨_, rfl⟩
  intro kk
  induction kk with
  | zero =>
    intro i m done rs hk hdn hrs
    have hlen : (done ++ l.drop i).length = l.length := mid_len hdn (by omega)
    have hlen2 : rs.length = l.length := by rw [hrs]; simp only [Ty.encs_length, mapE_length]; exact hlen
    have h1 : l.drop i = [] := List.drop_of_length_le (by omega)
    have hnth : True := trivial
    refine W_go (Y := (Tab.calls [])) xok (TabOk.calls mixed trivial) Tryz.func64 rfl 2000 _ hI ?_; (conv => arg 4; cbv)
    repeat' ((first | ((with_reducible refine on_eqs ?_ ?_); (focus (with_reducible rfl))) | (with_reducible refine on_both ?_ ?_) | (with_reducible refine on_true (by assumption) ?_) | (with_reducible refine on_false (by assumption) ?_) | (with_reducible refine on_ask (fun g => ?_) (fun g => ?_) <;> (have h := g) <;> (try simp (disch := omega) [hI, hlen, hlen2, hnth, hn, -List.length_eq_zero_iff] at h) <;> (try (exfalso; omega))) | ((with_reducible refine on_must ?_ ?_); (focus (simp (disch := omega) [hI, hlen, hlen2, hnth, hn] <;> exact mt)))) <;> (conv => arg 4; cbv))
    (with_reducible refine on_ret ?_); refine EndedN_of ?_; (conv => lhs; cbv)
    rw [hrs, h1]
    simp [mkS]
  | succ kk ih =>
    intro i m done rs hk hdn hrs
    have hlen : (done ++ l.drop i).length = l.length := mid_len hdn (by omega)
    have hlen2 : rs.length = l.length := by rw [hrs]; simp only [Ty.encs_length, mapE_length]; exact hlen
    have hnth : nth (done ++ l.drop i) i = nth l i := mid_nth hdn (by omega)
    have hset : ∀ (y : Int) {ps : List PV}, ps = tI64.own y → real.set rs i ps = (tI64.encs ((done ++ [y]) ++ l.drop (i + 1))) := by
      intro y ps hy
      rw [hrs]
      rw [← tI64_owns, ← tI64_owns]
      exact mid_set hdn (by omega) tI64.own y hy
    have hd : l.drop i = nth l i :: l.drop (i + 1) := nth_drop (by omega)
    refine W_go (Y := (Tab.calls [])) xok (TabOk.calls mixed trivial) Tryz.func64 rfl 2000 _ hI ?_; (conv => arg 4; cbv)
    repeat' ((first | ((with_reducible refine on_eqs ?_ ?_); (focus (with_reducible rfl))) | (with_reducible refine on_both ?_ ?_) | (with_reducible refine on_true (by assumption) ?_) | (with_reducible refine on_false (by assumption) ?_) | (with_reducible refine on_ask (fun g => ?_) (fun g => ?_) <;> (have h := g) <;> (try simp (disch := omega) [hI, hlen, hlen2, hnth, hn, -List.length_eq_zero_iff] at h) <;> (try (exfalso; omega))) | ((with_reducible refine on_must ?_ ?_); (focus (simp (disch := omega) [hI, hlen, hlen2, hnth, hn] <;> exact mt)))) <;> (conv => arg 4; cbv))
    · rw [show (mkS fI64 (l.drop i) m).2 = (mkS fI64 (l.drop (i + 1)) (fI64 (nth l i) m).2).2 by rw [hd]; rfl, show done ++ (mkS fI64 (l.drop i) m).1 = (done ++ [(fI64 (nth l i) m).1]) ++ (mkS fI64 (l.drop (i + 1)) (fI64 (nth l i) m).2).1 by rw [hd]; simp [mkS]]
      (with_reducible refine on_loop ?_); simp only [List.cons_append, List.nil_append]; refine W_norm [0, 1, 5] ?_ (ih (i + 1) _ (done ++ [(fI64 (nth l i) m).1]) _ (by omega) (by simp; omega) rfl); (conv => lhs; cbv)
      rw [← hset (fI64 (nth l i) m).1 rfl]
      clear hset hd ih hrs
      try simp only [List.length_eq_zero_iff] at *
      simp (disch := omega) [hI, hlen, hlen2, hnth, hn, *, nx1, fI64, mkS_take, mkS_nil, r_nthset]
      try rfl
theorem ok64 (k0 : Int) (l : List Int) (hl : l.length < 4611686018427387904) : OkR Tryz.prog 64 [.one (.arr 0 0 l.length), .one (.pv (.sc (.int .i64 k0)))] [(0, .row 1 (tI64.encs (l)))] 1 (.one (.pv (.sc (.int .i64 (mkS fI64 l k0).2)))) [(0, .row 1 (tI64.encs ((mkS fI64 l k0).1)))] 1 := by
  obtain ⟨I, hI⟩ : ∃ I, I = real := ⟨_, rfl⟩
  have hlen : True := trivial
  have hlen2 : True := trivial
  have hnth : True := trivial
  have hrs : True := trivial
  obtain ⟨n, hn⟩ : ∃ n, n = l.length := ⟨_, rfl⟩
  obtain ⟨es0, hes0⟩ : ∃ es, es = (tI64.encs (l)) := ⟨_, rfl⟩
  suffices hs : OkR Tryz.prog 64 [.one (.arr 0 0 n), .one (.pv (.sc (.int .i64 k0)))] [(0, .row 1 es0)] 1 (.one (.pv (.sc (.int .i64 (mkS fI64 l k0).2)))) [(0, .row 1 (tI64.encs ((mkS fI64 l k0).1)))] 1 by rwa [hn, hes0] at hs
  refine OkR_run (Y := (Tab.calls [])) xok (TabOk.calls mixed trivial) Tryz.func64 rfl rfl rfl 2000 hI fun w Xs β0 O0 => ?_; (conv => arg 4; cbv)
  repeat' ((first | ((with_reducible refine on_eqs ?_ ?_); (focus (with_reducible rfl))) | (with_reducible refine on_both ?_ ?_) | (with_reducible refine on_true (by assumption) ?_) | (with_reducible refine on_false (by assumption) ?_) | (with_reducible refine on_ask (fun g => ?_) (fun g => ?_) <;> (have h := g) <;> (try simp (disch := omega) [hI, hlen, hlen2, hnth, hn, -List.length_eq_zero_iff] at h) <;> (try (exfalso; omega))) | ((with_reducible refine on_must ?_ ?_); (focus (simp (disch := omega) [hI, hlen, hlen2, hnth, hn] <;> exact mt)))) <;> (conv => arg 4; cbv))
  (with_reducible refine on_loop ?_); simp only [List.cons_append, List.nil_append]; refine W_norm [0, 1, 5] ?_ (L64 es0 l hl n hn l.length 0 k0 [] es0 rfl rfl hes0); (conv => lhs; cbv)
  rfl
theorem okn64 (k0 : Int) (p : PV) (hp : els p = []) (hp2 : isNo p = true) : OkR Tryz.prog 64 [.one (.pv p), .one (.pv (.sc (.int .i64 k0)))] [] 0 (.one (.pv (.sc (.int .i64 k0)))) [] 0 := by
  obtain ⟨I, hI⟩ : ∃ I, I = real := ⟨_, rfl⟩
  have hlen : True := trivial
  have hlen2 : True := trivial
  have hnth : True := trivial
  have hrs : True := trivial
  have hn : True := trivial
  rcases PV.no_nil hp hp2 with rfl | ⟨u, s, rfl⟩
  all_goals
    refine OkR_run (Y := (Tab.calls [])) xok (TabOk.calls mixed trivial) Tryz.func64 rfl rfl rfl 2000 hI fun w Xs β0 O0 => ?_; (conv => arg 4; cbv)
    repeat' ((first | ((with_reducible refine on_eqs ?_ ?_); (focus (with_reducible rfl))) | (with_reducible refine on_both ?_ ?_) | (with_reducible refine on_true (by assumption) ?_) | (with_reducible refine on_false (by assumption) ?_) | (with_reducible refine on_ask (fun g => ?_) (fun g => ?_) <;> (have h := g) <;> (try simp (disch := omega) [hI, hlen, hlen2, hnth, hn, -List.length_eq_zero_iff] at h) <;> (try (exfalso; omega))) | ((with_reducible refine on_must ?_ ?_); (focus (simp (disch := omega) [hI, hlen, hlen2, hnth, hn] <;> exact mt)))) <;> (conv => arg 4; cbv))
    (with_reducible refine on_loop ?_)
    simp only [List.cons_append, List.nil_append]
    refine W_go (Y := (Tab.calls [])) xok (TabOk.calls mixed trivial) Tryz.func64 rfl 2000 _ hI ?_; (conv => arg 4; cbv)
    repeat' ((first | ((with_reducible refine on_eqs ?_ ?_); (focus (with_reducible rfl))) | (with_reducible refine on_both ?_ ?_) | (with_reducible refine on_true (by assumption) ?_) | (with_reducible refine on_false (by assumption) ?_) | (with_reducible refine on_ask (fun g => ?_) (fun g => ?_) <;> (have h := g) <;> (try simp (disch := omega) [hI, hlen, hlen2, hnth, hn, -List.length_eq_zero_iff] at h) <;> (try (exfalso; omega))) | ((with_reducible refine on_must ?_ ?_); (focus (simp (disch := omega) [hI, hlen, hlen2, hnth, hn] <;> exact mt)))) <;> (conv => arg 4; cbv))
    (with_reducible refine on_ret ?_); refine EndedN_of ?_; (conv => lhs; cbv)
theorem s64 {I : Ops} (hI : I = real) {e : En} (he : e = en64) : SoundR Tryz.prog 64 (markT I e 1) :=
  SoundR.markT (T := tI64) (r := fun l k => (mkS fI64 l k).1) ent64 (fun _ => rfl) (fun k0 l hp => by
    have hp : (decide (l.length < 4611686018427387904)) = true := hp
    simp only [Bool.and_eq_true, List.all_eq_true, decide_eq_true_eq] at hp
    have := ok64 k0 l hp
    rw [← tI64_owns, ← tI64_owns] at this
    exact this) okn64 hI he
def fCount (_ : CountV) (k : Int) : CountV × Int := (⟨k, nx1 k, nx1 (nx1 k)⟩, nx1 (nx1 (nx1 k)))
def an96 : An (List CountV × Int × Unit) where
  pre t := decide (t.1.length < 4611686018427387904)
  i _ t := (mkS fCount t.1 t.2.1).2
  l _ t := mapE tCount.own (mkS fCount t.1 t.2.1).1
noncomputable def en96 : En := mkE (parsC (pO tCount) (parsC pI pars0)) an96
attribute [simp] en96 an96
theorem ent96 : Enters Tryz.prog 96 := ⟨Tryz.f96, Tryz.func96, by kernel_rfl, by kernel_rfl⟩
theorem L96 {w : World} {Xs : Nat → Prop} {β0 : Nat → Nat × Nat} {O0 : Nat → List Nat} (es0 : List (List PV)) (l : List CountV) (hl : l.length < 4611686018427387904) (n : Nat) (hn : n = l.length) :
    ∀ (kk i : Nat) (m : Int) (done : List CountV) (rs : List (List PV)), kk + i = l.length → done.length = i → rs = (tCount.encs (done ++ l.drop i)) → W Tryz.prog 96 Tryz.f96 (EntR w Xs β0 O0 [(0, .row 3 es0)] 1) (Back (EntR w Xs β0 O0 [(0, .row 3 es0)] 1) (.one (.pv (.sc (.int .i64 (mkS fCount (l.drop i) m).2)))) [(0, .row 3 (tCount.encs (done ++ (mkS fCount (l.drop i) m).1)))] 1) (place (bodyOf Tryz.f96) [1,0,1,0,0] [])
      ⟨[(0, .one (.arr 0 0 n)), (1, .one (.pv (.sc (.int .i64 m)))), (5, .one (.pv (.sc (.int .i64 i))))], [(0, .row 3 rs)], 1⟩ := by
  obtain ⟨I, hI⟩ : ∃ I, I = real := ⟨_, rfl⟩
  intro kk
  induction kk with
  | zero =>
    intro i m done rs hk hdn hrs
    have hlen : (done ++ l.drop i).length = l.length := mid_len hdn (by omega)
    have hlen2 : rs.length = l.length := by rw [hrs]; simp only [Ty.encs_length, mapE_length]; exact hlen
    have h1 : l.drop i = [] := List.drop_of_length_le (by omega)
    have hnth : True := trivial
    refine W_go (Y := (Tab.calls [])) xok (TabOk.calls mixed trivial) Tryz.func96 rfl 2000 _ hI ?_; (conv => arg 4; cbv)
    repeat' ((first | ((with_reducible refine on_eqs ?_ ?_); (focus (with_reducible rfl))) | (with_reducible refine on_both ?_ ?_) | (with_reducible refine on_true (by assumption) ?_) | (with_reducible refine on_false (by assumption) ?_) | (with_reducible refine on_ask (fun g => ?_) (fun g => ?_) <;> (have h := g) <;> (try simp (disch := omega) [hI, hlen, hlen2, hnth, hn, -List.length_eq_zero_iff] at h) <;> (try (exfalso; omega))) | ((with_reducible refine on_must ?_ ?_); (focus (simp (disch := omega) [hI, hlen, hlen2, hnth, hn] <;> exact mt)))) <;> (conv => arg 4; cbv))
    (with_reducible refine on_ret ?_); refine EndedN_of ?_; (conv => lhs; cbv)
    rw [hrs, h1]
    simp [mkS]
  | succ kk ih =>
    intro i m done rs hk hdn hrs
    have hlen : (done ++ l.drop i).length = l.length := mid_len hdn (by omega)
    have hlen2 : rs.length = l.length := by rw [hrs]; simp only [Ty.encs_length, mapE_length]; exact hlen
    have hnth : nth (done ++ l.drop i) i = nth l i := mid_nth hdn (by omega)
    have hset : ∀ (y : CountV) {ps : List PV}, ps = tCount_own y → real.set rs i ps = (tCount.encs ((done ++ [y]) ++ l.drop (i + 1))) := by
      intro y ps hy
      rw [hrs]
      rw [← tCount_owns, ← tCount_owns]
      exact mid_set hdn (by omega) tCount_own y hy
    have hd : l.drop i = nth l i :: l.drop (i + 1) := nth_drop (by omega)
    refine W_go (Y := (Tab.calls [])) xok (TabOk.calls mixed trivial) Tryz.func96 rfl 2000 _ hI ?_; (conv => arg 4; cbv)
    repeat' ((first | ((with_reducible refine on_eqs ?_ ?_); (focus (with_reducible rfl))) | (with_reducible refine on_both ?_ ?_) | (with_reducible refine on_true (by assumption) ?_) | (with_reducible refine on_false (by assumption) ?_) | (with_reducible refine on_ask (fun g => ?_) (fun g => ?_) <;> (have h := g) <;> (try simp (disch := omega) [hI, hlen, hlen2, hnth, hn, -List.length_eq_zero_iff] at h) <;> (try (exfalso; omega))) | ((with_reducible refine on_must ?_ ?_); (focus (simp (disch := omega) [hI, hlen, hlen2, hnth, hn] <;> exact mt)))) <;> (conv => arg 4; cbv))
    · rw [show (mkS fCount (l.drop i) m).2 = (mkS fCount (l.drop (i + 1)) (fCount (nth l i) m).2).2 by rw [hd]; rfl, show done ++ (mkS fCount (l.drop i) m).1 = (done ++ [(fCount (nth l i) m).1]) ++ (mkS fCount (l.drop (i + 1)) (fCount (nth l i) m).2).1 by rw [hd]; simp [mkS]]
      (with_reducible refine on_loop ?_); simp only [List.cons_append, List.nil_append]; refine W_norm [0, 1, 5] ?_ (ih (i + 1) _ (done ++ [(fCount (nth l i) m).1]) _ (by omega) (by simp; omega) rfl); (conv => lhs; cbv)
      rw [← hset (fCount (nth l i) m).1 rfl]
      clear hset hd ih hrs
      try simp only [List.length_eq_zero_iff] at *
      simp (disch := omega) [hI, hlen, hlen2, hnth, hn, *, nx1, fCount, tCount_own, mkS_take, mkS_nil, r_nthset]
      try rfl
theorem ok96 (k0 : Int) (l : List CountV) (hl : l.length < 4611686018427387904) : OkR Tryz.prog 96 [.one (.arr 0 0 l.length), .one (.pv (.sc (.int .i64 k0)))] [(0, .row 3 (tCount.encs (l)))] 1 (.one (.pv (.sc (.int .i64 (mkS fCount l k0).2)))) [(0, .row 3 (tCount.encs ((mkS fCount l k0).1)))] 1 := by
  obtain ⟨I, hI⟩ : ∃ I, I = real := ⟨_, rfl⟩
  have hlen : True := trivial
  have hlen2 : True := trivial
  have hnth : True := trivial
  have hrs : True := trivial
  obtain ⟨n, hn⟩ : ∃ n, n = l.length := ⟨_, rfl⟩
  obtain ⟨es0, hes0⟩ : ∃ es, es = (tCount.encs (l)) := ⟨_, rfl⟩
  suffices hs : OkR Tryz.prog 96 [.one (.arr 0 0 n), .one (.pv (.sc (.int .i64 k0)))] [(0, .row 3 es0)] 1 (.one (.pv (.sc (.int .i64 (mkS fCount l k0).2)))) [(0, .row 3 (tCount.encs ((mkS fCount l k0).1)))] 1 by rwa [hn, hes0] at hs
  refine OkR_run (Y := (Tab.calls [])) xok (TabOk.calls mixed trivial) Tryz.func96 rfl rfl rfl 2000 hI fun w Xs β0 O0 => ?_; (conv => arg 4; cbv)
  repeat' ((first | ((with_reducible refine on_eqs ?_ ?_); (focus (with_reducible rfl))) | (with_reducible refine on_both ?_ ?_) | (with_reducible refine on_true (by assumption) ?_) | (with_reducible refine on_false (by assumption) ?_) | (with_reducible refine on_ask (fun g => ?_) (fun g => ?_) <;> (have h := g) <;> (try simp (disch := omega) [hI, hlen, hlen2, hnth, hn, -List.length_eq_zero_iff] at h) <;> (try (exfalso; omega))) | ((with_reducible refine on_must ?_ ?_); (focus (simp (disch := omega) [hI, hlen, hlen2, hnth, hn] <;> exact mt)))) <;> (conv => arg 4; cbv))
  (with_reducible refine on_loop ?_); simp only [List.cons_append, List.nil_append]; refine W_norm [0, 1, 5] ?_ (L96 es0 l hl n hn l.length 0 k0 [] es0 rfl rfl hes0); (conv => lhs; cbv)
  rfl
theorem okn96 (k0 : Int) (p : PV) (hp : els p = []) (hp2 : isNo p = true) : OkR Tryz.prog 96 [.one (.pv p), .one (.pv (.sc (.int .i64 k0)))] [] 0 (.one (.pv (.sc (.int .i64 k0)))) [] 0 := by
  obtain ⟨I, hI⟩ : ∃ I, I = real := ⟨_, rfl⟩
  have hlen : True := trivial
  have hlen2 : True := trivial
  have hnth : True := trivial
  have hrs : True := trivial
  have hn : True := trivial
  rcases PV.no_nil hp hp2 with rfl | ⟨u, s, rfl⟩
  all_goals
    refine OkR_run (Y := (Tab.calls [])) xok (TabOk.calls mixed trivial) Tryz.func96 rfl rfl rfl 2000 hI fun w Xs β0 O0 => ?_; (conv => arg 4; cbv)
    repeat' ((first | ((with_reducible refine on_eqs ?_ ?_); (focus (with_reducible rfl))) | (with_reducible refine on_both ?_ ?_) | (with_reducible refine on_true (by assumption) ?_) | (with_reducible refine on_false (by assumption) ?_) | (with_reducible refine on_ask (fun g => ?_) (fun g => ?_) <;> (have h := g) <;> (try simp (disch := omega) [hI, hlen, hlen2, hnth, hn, -List.length_eq_zero_iff] at h) <;> (try (exfalso; omega))) | ((with_reducible refine on_must ?_ ?_); (focus (simp (disch := omega) [hI, hlen, hlen2, hnth, hn] <;> exact mt)))) <;> (conv => arg 4; cbv))
    (with_reducible refine on_loop ?_)
    simp only [List.cons_append, List.nil_append]
    refine W_go (Y := (Tab.calls [])) xok (TabOk.calls mixed trivial) Tryz.func96 rfl 2000 _ hI ?_; (conv => arg 4; cbv)
    repeat' ((first | ((with_reducible refine on_eqs ?_ ?_); (focus (with_reducible rfl))) | (with_reducible refine on_both ?_ ?_) | (with_reducible refine on_true (by assumption) ?_) | (with_reducible refine on_false (by assumption) ?_) | (with_reducible refine on_ask (fun g => ?_) (fun g => ?_) <;> (have h := g) <;> (try simp (disch := omega) [hI, hlen, hlen2, hnth, hn, -List.length_eq_zero_iff] at h) <;> (try (exfalso; omega))) | ((with_reducible refine on_must ?_ ?_); (focus (simp (disch := omega) [hI, hlen, hlen2, hnth, hn] <;> exact mt)))) <;> (conv => arg 4; cbv))
    (with_reducible refine on_ret ?_); refine EndedN_of ?_; (conv => lhs; cbv)
theorem s96 {I : Ops} (hI : I = real) {e : En} (he : e = en96) : SoundR Tryz.prog 96 (markT I e 3) :=
  SoundR.markT (T := tCount) (r := fun l k => (mkS fCount l k).1) ent96 (fun _ => rfl) (fun k0 l hp => by
    have hp : (decide (l.length < 4611686018427387904)) = true := hp
    simp only [Bool.and_eq_true, List.all_eq_true, decide_eq_true_eq] at hp
    have := ok96 k0 l hp
    rw [← tCount_owns, ← tCount_owns] at this
    exact this) okn96 hI he
def fEntry (e : EntryV) (k : Int) : EntryV × Int := (⟨(mkS fI64 e.row k).1, (mkS fI64 e.row k).2⟩, (nx1 (mkS fI64 e.row k).2))
def an70 : An (List EntryV × Int × Unit) where
  pre t := bEntryS t.1
  i _ t := (mkS fEntry t.1 t.2.1).2
  l _ t := mapE tEntry.own (mkS fEntry t.1 t.2.1).1
noncomputable def en70 : En := mkE (parsC (pO tEntry) (parsC pI pars0)) an70
attribute [simp] en70 an70
theorem ent70 : Enters Tryz.prog 70 := ⟨Tryz.f70, Tryz.func70, by kernel_rfl, by kernel_rfl⟩
noncomputable def Y70 (I : Ops) (K : FuncId → En) : CallsA := (Tab.calls [(64, false, callRef I (markT I (K 64) 1))])
theorem tY70 {I : Ops} (hI : I = real) {K : FuncId → En} (k64 : K 64 = en64) : CallsOk Tryz.prog (Y70 I K) := (TabOk.calls mixed ⟨EntryOk.ref (s64 hI k64) hI, notQuiet, trivial⟩)
theorem L70 {w : World} {Xs : Nat → Prop} {β0 : Nat → Nat × Nat} {O0 : Nat → List Nat} (es0 : List (List PV)) (l : List EntryV) (hb : bEntryS l = true) (n : Nat) (hn : n = l.length) :
    ∀ (kk i : Nat) (m : Int) (done : List EntryV) (rs : List (List PV)), kk + i = l.length → done.length = i → rs = (mapE tEntry_own (done ++ l.drop i)) → W Tryz.prog 70 Tryz.f70 (EntR w Xs β0 O0 [(0, .row 2 es0)] 1) (Back (EntR w Xs β0 O0 [(0, .row 2 es0)] 1) (.one (.pv (.sc (.int .i64 (mkS fEntry (l.drop i) m).2)))) [(0, .row 2 (mapE tEntry_own (done ++ (mkS fEntry (l.drop i) m).1)))] 1) (place (bodyOf Tryz.f70) [1,0,1,0,0] [])
      ⟨[(0, .one (.arr 0 0 n)), (1, .one (.pv (.sc (.int .i64 m)))), (5, .one (.pv (.sc (.int .i64 i))))], [(0, .row 2 rs)], 1⟩ := by
  obtain ⟨I, hI⟩ : ∃ I, I = real := ⟨_, rfl⟩; obtain ⟨K, k64⟩ : ∃ K : FuncId → En, K 64 = en64 := ⟨fun g => (lk g [(64, en64)]).getD default, rfl⟩
  have hl := bEntryS_len hb
  intro kk
  induction kk with
  | zero =>
    intro i m done rs hk hdn hrs
    have hlen : (done ++ l.drop i).length = l.length := mid_len hdn (by omega)
    have hlen2 : rs.length = l.length := by rw [hrs]; simp only [Ty.encs_length, mapE_length]; exact hlen
    have h1 : l.drop i = [] := List.drop_of_length_le (by omega)
    have hnth : True := trivial
    refine W_go (Y := (Y70 I K)) xok (tY70 hI k64) Tryz.func70 rfl 2000 _ hI ?_; (conv => arg 4; cbv)
    repeat' ((first | ((with_reducible refine on_eqs ?_ ?_); (focus (with_reducible rfl))) | (with_reducible refine on_both ?_ ?_) | (with_reducible refine on_true (by assumption) ?_) | (with_reducible refine on_false (by assumption) ?_) | (with_reducible refine on_ask (fun g => ?_) (fun g => ?_) <;> (have h := g) <;> (try simp (disch := omega) [hI, k64, en64, an64, hlen, hlen2, hnth, hn, hrs, -List.length_eq_zero_iff] at h) <;> (try (exfalso; omega))) | ((with_reducible refine on_must ?_ ?_); (focus (simp (disch := omega) [hI, k64, en64, an64, hlen, hlen2, hnth, hn, hrs] <;> exact mt)))) <;> (conv => arg 4; cbv))
    (with_reducible refine on_ret ?_); refine EndedN_of ?_; (conv => lhs; cbv)
    rw [hrs, h1]
    simp [mkS]
  | succ kk ih =>
    intro i m done rs hk hdn hrs
    have hlen : (done ++ l.drop i).length = l.length := mid_len hdn (by omega)
    have hlen2 : rs.length = l.length := by rw [hrs]; simp only [Ty.encs_length, mapE_length]; exact hlen
    have hnth : nth (done ++ l.drop i) i = nth l i := mid_nth hdn (by omega)
    have hset : ∀ (y : EntryV) {ps : List PV}, ps = tEntry_own y → real.set rs i ps = (mapE tEntry_own ((done ++ [y]) ++ l.drop (i + 1))) := by
      intro y ps hy
      rw [hrs]
      exact mid_set hdn (by omega) tEntry_own y hy
    have hd : l.drop i = nth l i :: l.drop (i + 1) := nth_drop (by omega)
    have hx := bEntryS_nth hb (i := i) (by omega)
    have x0 := bEntry_p hx
    have y0 := bI_len x0
    refine W_focus 0 i [.sl 1, .int .i64] hI ?_; (conv => arg 4; cbv)
    repeat' ((first | ((with_reducible refine on_eqs ?_ ?_); (focus (with_reducible rfl))) | (with_reducible refine on_both ?_ ?_) | (with_reducible refine on_true (by assumption) ?_) | (with_reducible refine on_false (by assumption) ?_) | (with_reducible refine on_ask (fun g => ?_) (fun g => ?_) <;> (have h := g) <;> (try simp (disch := omega) [hI, k64, en64, an64, hlen, hlen2, hnth, hn, hrs, -List.length_eq_zero_iff] at h) <;> (try (exfalso; omega))) | ((with_reducible refine on_must ?_ ?_); (focus (simp (disch := omega) [hI, k64, en64, an64, hlen, hlen2, hnth, hn, hrs] <;> exact mt)))) <;> (conv => arg 4; cbv))
    all_goals ((with_reducible refine on_loop ?_); refine W_go (Y := (Y70 I K)) xok (tY70 hI k64) Tryz.func70 rfl 2000 _ hI ?_; (conv => arg 4; cbv))
    repeat' ((first | ((with_reducible refine on_eqs ?_ ?_); (focus (with_reducible rfl))) | (with_reducible refine on_both ?_ ?_) | (with_reducible refine on_true (by assumption) ?_) | (with_reducible refine on_false (by assumption) ?_) | (with_reducible refine on_ask (fun g => ?_) (fun g => ?_) <;> (have h := g) <;> (try simp (disch := omega) [hI, k64, en64, an64, hlen, hlen2, hnth, hn, hrs, -List.length_eq_zero_iff] at h) <;> (try (exfalso; omega))) | ((with_reducible refine on_must ?_ ?_); (focus (simp (disch := omega) [hI, k64, en64, an64, hlen, hlen2, hnth, hn, hrs] <;> exact mt)))) <;> (conv => arg 4; cbv))
    all_goals ((with_reducible refine on_loop ?_); simp only [List.cons_append, List.nil_append])
    all_goals (apply W_unfocus 0 hI; (· (conv => lhs; cbv); try rfl))
    all_goals
      rw [show (mkS fEntry (l.drop i) m).2 = (mkS fEntry (l.drop (i + 1)) (fEntry (nth l i) m).2).2 by rw [hd]; rfl, show done ++ (mkS fEntry (l.drop i) m).1 = (done ++ [(fEntry (nth l i) m).1]) ++ (mkS fEntry (l.drop (i + 1)) (fEntry (nth l i) m).2).1 by rw [hd]; simp [mkS]]
      refine W_norm [0, 1, 5] ?_ (ih (i + 1) _ (done ++ [(fEntry (nth l i) m).1]) _ (by omega) (by simp; omega) rfl); (conv => lhs; cbv)
      rw [← hset (fEntry (nth l i) m).1 rfl]
      clear hset hd ih
      try simp only [List.length_eq_zero_iff] at *
      simp (disch := omega) [hI, k64, en64, an64, hlen, hlen2, hnth, hn, hrs, *, nx1, fEntry, tEntry_own, mkS_take, mkS_nil, r_nthset]
      try rfl
theorem ok70 (k0 : Int) (l : List EntryV) (hb : bEntryS l = true) : OkR Tryz.prog 70 [.one (.arr 0 0 l.length), .one (.pv (.sc (.int .i64 k0)))] [(0, .row 2 (mapE tEntry_own (l)))] 1 (.one (.pv (.sc (.int .i64 (mkS fEntry l k0).2)))) [(0, .row 2 (mapE tEntry_own ((mkS fEntry l k0).1)))] 1 := by
  obtain ⟨I, hI⟩ : ∃ I, I = real := ⟨_, rfl⟩; obtain ⟨K, k64⟩ : ∃ K : FuncId → En, K 64 = en64 := ⟨fun g => (lk g [(64, en64)]).getD default, rfl⟩
  have hl := bEntryS_len hb
  have hlen : True := trivial
  have hlen2 : True := trivial
  have hnth : True := trivial
  have hrs : True := trivial
  obtain ⟨n, hn⟩ : ∃ n, n = l.length := ⟨_, rfl⟩
  obtain ⟨es0, hes0⟩ : ∃ es, es = (mapE tEntry_own (l)) := ⟨_, rfl⟩
  suffices hs : OkR Tryz.prog 70 [.one (.arr 0 0 n), .one (.pv (.sc (.int .i64 k0)))] [(0, .row 2 es0)] 1 (.one (.pv (.sc (.int .i64 (mkS fEntry l k0).2)))) [(0, .row 2 (mapE tEntry_own ((mkS fEntry l k0).1)))] 1 by rwa [hn, hes0] at hs
  refine OkR_run (Y := (Y70 I K)) xok (tY70 hI k64) Tryz.func70 rfl rfl rfl 2000 hI fun w Xs β0 O0 => ?_; (conv => arg 4; cbv)
  repeat' ((first | ((with_reducible refine on_eqs ?_ ?_); (focus (with_reducible rfl))) | (with_reducible refine on_both ?_ ?_) | (with_reducible refine on_true (by assumption) ?_) | (with_reducible refine on_false (by assumption) ?_) | (with_reducible refine on_ask (fun g => ?_) (fun g => ?_) <;> (have h := g) <;> (try simp (disch := omega) [hI, k64, en64, an64, hlen, hlen2, hnth, hn, hrs, -List.length_eq_zero_iff] at h) <;> (try (exfalso; omega))) | ((with_reducible refine on_must ?_ ?_); (focus (simp (disch := omega) [hI, k64, en64, an64, hlen, hlen2, hnth, hn, hrs] <;> exact mt)))) <;> (conv => arg 4; cbv))
  (with_reducible refine on_loop ?_); simp only [List.cons_append, List.nil_append]; refine W_norm [0, 1, 5] ?_ (L70 es0 l hb n hn l.length 0 k0 [] es0 rfl rfl hes0); (conv => lhs; cbv)
  rfl
theorem okn70 (k0 : Int) (p : PV) (hp : els p = []) (hp2 : isNo p = true) : OkR Tryz.prog 70 [.one (.pv p), .one (.pv (.sc (.int .i64 k0)))] [] 0 (.one (.pv (.sc (.int .i64 k0)))) [] 0 := by
  obtain ⟨I, hI⟩ : ∃ I, I = real := ⟨_, rfl⟩; obtain ⟨K, k64⟩ : ∃ K : FuncId → En, K 64 = en64 := ⟨fun g => (lk g [(64, en64)]).getD default, rfl⟩
  have hlen : True := trivial
  have hlen2 : True := trivial
  have hnth : True := trivial
  have hrs : True := trivial
  have hn : True := trivial
  rcases PV.no_nil hp hp2 with rfl | ⟨u, s, rfl⟩
  all_goals
    refine OkR_run (Y := (Y70 I K)) xok (tY70 hI k64) Tryz.func70 rfl rfl rfl 2000 hI fun w Xs β0 O0 => ?_; (conv => arg 4; cbv)
    repeat' ((first | ((with_reducible refine on_eqs ?_ ?_); (focus (with_reducible rfl))) | (with_reducible refine on_both ?_ ?_) | (with_reducible refine on_true (by assumption) ?_) | (with_reducible refine on_false (by assumption) ?_) | (with_reducible refine on_ask (fun g => ?_) (fun g => ?_) <;> (have h := g) <;> (try simp (disch := omega) [hI, k64, en64, an64, hlen, hlen2, hnth, hn, hrs, -List.length_eq_zero_iff] at h) <;> (try (exfalso; omega))) | ((with_reducible refine on_must ?_ ?_); (focus (simp (disch := omega) [hI, k64, en64, an64, hlen, hlen2, hnth, hn, hrs] <;> exact mt)))) <;> (conv => arg 4; cbv))
    (with_reducible refine on_loop ?_)
    simp only [List.cons_append, List.nil_append]
    refine W_go (Y := (Y70 I K)) xok (tY70 hI k64) Tryz.func70 rfl 2000 _ hI ?_; (conv => arg 4; cbv)
    repeat' ((first | ((with_reducible refine on_eqs ?_ ?_); (focus (with_reducible rfl))) | (with_reducible refine on_both ?_ ?_) | (with_reducible refine on_true (by assumption) ?_) | (with_reducible refine on_false (by assumption) ?_) | (with_reducible refine on_ask (fun g => ?_) (fun g => ?_) <;> (have h := g) <;> (try simp (disch := omega) [hI, k64, en64, an64, hlen, hlen2, hnth, hn, hrs, -List.length_eq_zero_iff] at h) <;> (try (exfalso; omega))) | ((with_reducible refine on_must ?_ ?_); (focus (simp (disch := omega) [hI, k64, en64, an64, hlen, hlen2, hnth, hn, hrs] <;> exact mt)))) <;> (conv => arg 4; cbv))
    (with_reducible refine on_ret ?_); refine EndedN_of ?_; (conv => lhs; cbv)
theorem s70 {I : Ops} (hI : I = real) {e : En} (he : e = en70) : SoundR Tryz.prog 70 (markT I e 2) :=
  SoundR.markT (T := tEntry) (r := fun l k => (mkS fEntry l k).1) ent70 (fun _ => rfl) (fun k0 l hp => by
    have hp : bEntryS l = true := hp
    exact ok70 k0 l hp) okn70 hI he
def fBatch (e : BatchV) (k : Int) : BatchV × Int := (⟨k, (nx1 k), (mkS fEntry e.set (nx1 (nx1 k))).1⟩, (mkS fEntry e.set (nx1 (nx1 k))).2)
def an132 : An (List BatchV × Int × Unit) where
  pre t := bBatchS t.1
  i _ t := (mkS fBatch t.1 t.2.1).2
  l _ t := mapE tBatch.own (mkS fBatch t.1 t.2.1).1
noncomputable def en132 : En := mkE (parsC (pO tBatch) (parsC pI pars0)) an132
attribute [simp] en132 an132
theorem ent132 : Enters Tryz.prog 132 := ⟨Tryz.f132, Tryz.func132, by kernel_rfl, by kernel_rfl⟩
noncomputable def Y132 (I : Ops) (K : FuncId → En) : CallsA := (Tab.calls [(70, false, callRef I (markT I (K 70) 2))])
theorem tY132 {I : Ops} (hI : I = real) {K : FuncId → En} (k70 : K 70 = en70) : CallsOk Tryz.prog (Y132 I K) := (TabOk.calls mixed ⟨EntryOk.ref (s70 hI k70) hI, notQuiet, trivial⟩)
theorem L132 {w : World} {Xs : Nat → Prop} {β0 : Nat → Nat × Nat} {O0 : Nat → List Nat} (es0 : List (List PV)) (l : List BatchV) (hb : bBatchS l = true) (n : Nat) (hn : n = l.length) :
    ∀ (kk i : Nat) (m : Int) (done : List BatchV) (rs : List (List PV)), kk + i = l.length → done.length = i → rs = (mapE tBatch_own (done ++ l.drop i)) → W Tryz.prog 132 Tryz.f132 (EntR w Xs β0 O0 [(0, .row 3 es0)] 1) (Back (EntR w Xs β0 O0 [(0, .row 3 es0)] 1) (.one (.pv (.sc (.int .i64 (mkS fBatch (l.drop i) m).2)))) [(0, .row 3 (mapE tBatch_own (done ++ (mkS fBatch (l.drop i) m).1)))] 1) (place (bodyOf Tryz.f132) [1,0,1,0,0] [])
      ⟨[(0, .one (.arr 0 0 n)), (1, .one (.pv (.sc (.int .i64 m)))), (5, .one (.pv (.sc (.int .i64 i))))], [(0, .row 3 rs)], 1⟩ := by
  obtain ⟨I, hI⟩ : ∃ I, I = real := ⟨_, rfl⟩; obtain ⟨K, k70⟩ : ∃ K : FuncId → En, K 70 = en70 := ⟨fun g => (lk g [(70, en70)]).getD default, rfl⟩
  have hl := bBatchS_len hb
  intro kk
  induction kk with
  | zero =>
    intro i m done rs hk hdn hrs
    have hlen : (done ++ l.drop i).length = l.length := mid_len hdn (by omega)
    have hlen2 : rs.length = l.length := by rw [hrs]; simp only [Ty.encs_length, mapE_length]; exact hlen
    have h1 : l.drop i = [] := List.drop_of_length_le (by omega)
    have hnth : True := trivial
    refine W_go (Y := (Y132 I K)) xok (tY132 hI k70) Tryz.func132 rfl 2000 _ hI ?_; (conv => arg 4; cbv)
    repeat' ((first | ((with_reducible refine on_eqs ?_ ?_); (focus (with_reducible rfl))) | (with_reducible refine on_both ?_ ?_) | (with_reducible refine on_true (by assumption) ?_) | (with_reducible refine on_false (by assumption) ?_) | (with_reducible refine on_ask (fun g => ?_) (fun g => ?_) <;> (have h := g) <;> (try simp (disch := omega) [hI, k70, en70, an70, hlen, hlen2, hnth, hn, hrs, -List.length_eq_zero_iff] at h) <;> (try (exfalso; omega))) | ((with_reducible refine on_must ?_ ?_); (focus (simp (disch := omega) [hI, k70, en70, an70, hlen, hlen2, hnth, hn, hrs] <;> exact mt)))) <;> (conv => arg 4; cbv))
    (with_reducible refine on_ret ?_); refine EndedN_of ?_; (conv => lhs; cbv)
    rw [hrs, h1]
    simp [mkS]
  | succ kk ih =>
    intro i m done rs hk hdn hrs
    have hlen : (done ++ l.drop i).length = l.length := mid_len hdn (by omega)
    have hlen2 : rs.length = l.length := by rw [hrs]; simp only [Ty.encs_length, mapE_length]; exact hlen
    have hnth : nth (done ++ l.drop i) i = nth l i := mid_nth hdn (by omega)
    have hset : ∀ (y : BatchV) {ps : List PV}, ps = tBatch_own y → real.set rs i ps = (mapE tBatch_own ((done ++ [y]) ++ l.drop (i + 1))) := by
      intro y ps hy
      rw [hrs]
      exact mid_set hdn (by omega) tBatch_own y hy
    have hd : l.drop i = nth l i :: l.drop (i + 1) := nth_drop (by omega)
    have hx := bBatchS_nth hb (i := i) (by omega)
    have x0 := bBatch_p hx
    have y0 := bEntryS_len x0
    refine W_focus 0 i [.int .i64, .int .i64, .sl 2] hI ?_; (conv => arg 4; cbv)
    repeat' ((first | ((with_reducible refine on_eqs ?_ ?_); (focus (with_reducible rfl))) | (with_reducible refine on_both ?_ ?_) | (with_reducible refine on_true (by assumption) ?_) | (with_reducible refine on_false (by assumption) ?_) | (with_reducible refine on_ask (fun g => ?_) (fun g => ?_) <;> (have h := g) <;> (try simp (disch := omega) [hI, k70, en70, an70, hlen, hlen2, hnth, hn, hrs, -List.length_eq_zero_iff] at h) <;> (try (exfalso; omega))) | ((with_reducible refine on_must ?_ ?_); (focus (simp (disch := omega) [hI, k70, en70, an70, hlen, hlen2, hnth, hn, hrs] <;> exact mt)))) <;> (conv => arg 4; cbv))
    all_goals ((with_reducible refine on_loop ?_); refine W_go (Y := (Y132 I K)) xok (tY132 hI k70) Tryz.func132 rfl 2000 _ hI ?_; (conv => arg 4; cbv))
    repeat' ((first | ((with_reducible refine on_eqs ?_ ?_); (focus (with_reducible rfl))) | (with_reducible refine on_both ?_ ?_) | (with_reducible refine on_true (by assumption) ?_) | (with_reducible refine on_false (by assumption) ?_) | (with_reducible refine on_ask (fun g => ?_) (fun g => ?_) <;> (have h := g) <;> (try simp (disch := omega) [hI, k70, en70, an70, hlen, hlen2, hnth, hn, hrs, -List.length_eq_zero_iff] at h) <;> (try (exfalso; omega))) | ((with_reducible refine on_must ?_ ?_); (focus (simp (disch := omega) [hI, k70, en70, an70, hlen, hlen2, hnth, hn, hrs] <;> exact mt)))) <;> (conv => arg 4; cbv))
    all_goals ((with_reducible refine on_loop ?_); simp only [List.cons_append, List.nil_append])
    all_goals (apply W_unfocus 0 hI; (· (conv => lhs; cbv); try rfl))
    all_goals
      rw [show (mkS fBatch (l.drop i) m).2 = (mkS fBatch (l.drop (i + 1)) (fBatch (nth l i) m).2).2 by rw [hd]; rfl, show done ++ (mkS fBatch (l.drop i) m).1 = (done ++ [(fBatch (nth l i) m).1]) ++ (mkS fBatch (l.drop (i + 1)) (fBatch (nth l i) m).2).1 by rw [hd]; simp [mkS]]
      refine W_norm [0, 1, 5] ?_ (ih (i + 1) _ (done ++ [(fBatch (nth l i) m).1]) _ (by omega) (by simp; omega) rfl); (conv => lhs; cbv)
      rw [← hset (fBatch (nth l i) m).1 rfl]
      clear hset hd ih
      try simp only [List.length_eq_zero_iff] at *
      simp (disch := omega) [hI, k70, en70, an70, hlen, hlen2, hnth, hn, hrs, *, nx1, fBatch, tBatch_own, mkS_take, mkS_nil, r_nthset]
      try rfl
theorem ok132 (k0 : Int) (l : List BatchV) (hb : bBatchS l = true) : OkR Tryz.prog 132 [.one (.arr 0 0 l.length), .one (.pv (.sc (.int .i64 k0)))] [(0, .row 3 (mapE tBatch_own (l)))] 1 (.one (.pv (.sc (.int .i64 (mkS fBatch l k0).2)))) [(0, .row 3 (mapE tBatch_own ((mkS fBatch l k0).1)))] 1 := by
  obtain ⟨I, hI⟩ : ∃ I, I = real := ⟨_, rfl⟩; obtain ⟨K, k70⟩ : ∃ K : FuncId → En, K 70 = en70 := ⟨fun g => (lk g [(70, en70)]).getD default, rfl⟩
  have hl := bBatchS_len hb
  have hlen : True := trivial
  have hlen2 : True := trivial
  have hnth : True := trivial
  have hrs : True := trivial
  obtain ⟨n, hn⟩ : ∃ n, n = l.length := ⟨_, rfl⟩
  obtain ⟨es0, hes0⟩ : ∃ es, es = (mapE tBatch_own (l)) := ⟨_, rfl⟩
  suffices hs : OkR Tryz.prog 132 [.one (.arr 0 0 n), .one (.pv (.sc (.int .i64 k0)))] [(0, .row 3 es0)] 1 (.one (.pv (.sc (.int .i64 (mkS fBatch l k0).2)))) [(0, .row 3 (mapE tBatch_own ((mkS fBatch l k0).1)))] 1 by rwa [hn, hes0] at hs
  refine OkR_run (Y := (Y132 I K)) xok (tY132 hI k70) Tryz.func132 rfl rfl rfl 2000 hI fun w Xs β0 O0 => ?_; (conv => arg 4; cbv)
  repeat' ((first | ((with_reducible refine on_eqs ?_ ?_); (focus (with_reducible rfl))) | (with_reducible refine on_both ?_ ?_) | (with_reducible refine on_true (by assumption) ?_) | (with_reducible refine on_false (by assumption) ?_) | (with_reducible refine on_ask (fun g => ?_) (fun g => ?_) <;> (have h := g) <;> (try simp (disch := omega) [hI, k70, en70, an70, hlen, hlen2, hnth, hn, hrs, -List.length_eq_zero_iff] at h) <;> (try (exfalso; omega))) | ((with_reducible refine on_must ?_ ?_); (focus (simp (disch := omega) [hI, k70, en70, an70, hlen, hlen2, hnth, hn, hrs] <;> exact mt)))) <;> (conv => arg 4; cbv))
  (with_reducible refine on_loop ?_); simp only [List.cons_append, List.nil_append]; refine W_norm [0, 1, 5] ?_ (L132 es0 l hb n hn l.length 0 k0 [] es0 rfl rfl hes0); (conv => lhs; cbv)
  rfl
theorem okn132 (k0 : Int) (p : PV) (hp : els p = []) (hp2 : isNo p = true) : OkR Tryz.prog 132 [.one (.pv p), .one (.pv (.sc (.int .i64 k0)))] [] 0 (.one (.pv (.sc (.int .i64 k0)))) [] 0 := by
  obtain ⟨I, hI⟩ : ∃ I, I = real := ⟨_, rfl⟩; obtain ⟨K, k70⟩ : ∃ K : FuncId → En, K 70 = en70 := ⟨fun g => (lk g [(70, en70)]).getD default, rfl⟩
  have hlen : True := trivial
  have hlen2 : True := trivial
  have hnth : True := trivial
  have hrs : True := trivial
  have hn : True := trivial
  rcases PV.no_nil hp hp2 with rfl | ⟨u, s, rfl⟩
  all_goals
    refine OkR_run (Y := (Y132 I K)) xok (tY132 hI k70) Tryz.func132 rfl rfl rfl 2000 hI fun w Xs β0 O0 => ?_; (conv => arg 4; cbv)
    repeat' ((first | ((with_reducible refine on_eqs ?_ ?_); (focus (with_reducible rfl))) | (with_reducible refine on_both ?_ ?_) | (with_reducible refine on_true (by assumption) ?_) | (with_reducible refine on_false (by assumption) ?_) | (with_reducible refine on_ask (fun g => ?_) (fun g => ?_) <;> (have h := g) <;> (try simp (disch := omega) [hI, k70, en70, an70, hlen, hlen2, hnth, hn, hrs, -List.length_eq_zero_iff] at h) <;> (try (exfalso; omega))) | ((with_reducible refine on_must ?_ ?_); (focus (simp (disch := omega) [hI, k70, en70, an70, hlen, hlen2, hnth, hn, hrs] <;> exact mt)))) <;> (conv => arg 4; cbv))
    (with_reducible refine on_loop ?_)
    simp only [List.cons_append, List.nil_append]
    refine W_go (Y := (Y132 I K)) xok (tY132 hI k70) Tryz.func132 rfl 2000 _ hI ?_; (conv => arg 4; cbv)
    repeat' ((first | ((with_reducible refine on_eqs ?_ ?_); (focus (with_reducible rfl))) | (with_reducible refine on_both ?_ ?_) | (with_reducible refine on_true (by assumption) ?_) | (with_reducible refine on_false (by assumption) ?_) | (with_reducible refine on_ask (fun g => ?_) (fun g => ?_) <;> (have h := g) <;> (try simp (disch := omega) [hI, k70, en70, an70, hlen, hlen2, hnth, hn, hrs, -List.length_eq_zero_iff] at h) <;> (try (exfalso; omega))) | ((with_reducible refine on_must ?_ ?_); (focus (simp (disch := omega) [hI, k70, en70, an70, hlen, hlen2, hnth, hn, hrs] <;> exact mt)))) <;> (conv => arg 4; cbv))
    (with_reducible refine on_ret ?_); refine EndedN_of ?_; (conv => lhs; cbv)
theorem s132 {I : Ops} (hI : I = real) {e : En} (he : e = en132) : SoundR Tryz.prog 132 (markT I e 3) :=
  SoundR.markT (T := tBatch) (r := fun l k => (mkS fBatch l k).1) ent132 (fun _ => rfl) (fun k0 l hp => by
    have hp : bBatchS l = true := hp
    exact ok132 k0 l hp) okn132 hI he
end Go.Proofs.Tryz
