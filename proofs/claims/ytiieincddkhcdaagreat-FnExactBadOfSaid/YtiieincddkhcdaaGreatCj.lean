/- Contracts. -/
import Derived.Test.YtiieincddkhcdaaGreatCi
import Derived.Test.YtiieincddkhcdaaGreatAixG
set_option linter.unusedSimpArgs false
set_option linter.unusedVariables false
namespace Go.Proofs.Tryz
open Go Go.Aix
set_option maxRecDepth 100000
set_option maxHeartbeats 4000000
theorem ent126 : Enters Tryz.prog 126 := ⟨Tryz.f126, Tryz.func126, by kernel_rfl, by kernel_rfl⟩
theorem growA126 (m : Nat) (h0 : 0 < m) (h1 : m ≤ 1000000) : Ok0 Tryz.prog 126 [pNl.enc (), pI.enc (m : Int)] (.one (.arr 0 0 0)) [(0, .row 6 (List.replicate m [.sc (.int .i64 0), .sc (.int .i64 0), .sc (.int .i64 0), .sc (.int .i64 0), .nl, .nl]))] 1 := by
  obtain ⟨I, hI⟩ : ∃ I, I = real := ⟨_, rfl⟩
  have h2 : ¬ (m : Int) < 0 := by omega
  show Ok0 Tryz.prog 126 [.one (.pv .nl), .one (.pv (.sc (.int .i64 (m : Int))))] _ _ _
  refine Ok0_run (Y := (Tab.calls [])) xok (TabOk.calls mixed trivial) Tryz.func126 rfl rfl rfl 2000 hI fun w Xs => ?_; (conv => arg 4; cbv)
  repeat' ((first | ((with_reducible refine on_eqs ?_ ?_); (focus (with_reducible rfl))) | (with_reducible refine on_both ?_ ?_) | (with_reducible refine on_true (by assumption) ?_) | (with_reducible refine on_false (by assumption) ?_) | (with_reducible refine on_ask (fun g => ?_) (fun g => ?_) <;> (have h := g) <;> (try simp (disch := omega) [hI, -List.length_eq_zero_iff] at h) <;> (try (exfalso; omega))) | ((with_reducible refine on_must ?_ ?_); (focus (simp (disch := omega) [hI] <;> exact mt)))) <;> (conv => arg 4; cbv))
  (with_reducible refine on_any ?_)
  refine W_ops (S' := ?s) (Y := Tab.calls []) xok (TabOk.calls mixed trivial) hI rfl (by kernel_rfl) rfl ?k ?h
  case k =>
    refine OpsR.go (S1 := ?s1) (l1 := [0, 1]) (l2 := [2, 3, 4, 5, 6, 7]) rfl ?e1 ?k1
    case e1 => ((conv => lhs; cbv) <;> rfl)
    refine OpsR.step rfl rfl (fun β O a w hr hs => cap_step xok rfl rfl rfl rfl hr (fun t ht => by cases ht; rw [hs]; decide) rfl rfl) ?_
    refine OpsR.go (S1 := ?s) (l1 := [3, 4, 5, 6, 7]) (l2 := []) rfl ?e2 .nil
    case e2 => ((conv => lhs; cbv) <;> rfl)
  refine W_norm (S' := ⟨[(0, .one (.pv .nl)), (1, .one (.pv (.sc (.int .i64 (m : Int)))))], [], 0⟩) [0, 1] ?_ ?_
  · (conv => lhs; cbv)
    simp (disch := omega) [hI]
  refine W_behind (Y := (Tab.calls [])) xok (TabOk.calls mixed trivial) Tryz.func126 rfl 2000 _ hI ?_; (conv => arg 4; cbv)
  repeat' ((first | ((with_reducible refine on_eqs ?_ ?_); (focus (with_reducible rfl))) | (with_reducible refine on_both ?_ ?_) | (with_reducible refine on_true (by assumption) ?_) | (with_reducible refine on_false (by assumption) ?_) | (with_reducible refine on_ask (fun g => ?_) (fun g => ?_) <;> (have h := g) <;> (try simp (disch := omega) [hI, -List.length_eq_zero_iff] at h) <;> (try (exfalso; omega))) | ((with_reducible refine on_must ?_ ?_); (focus (simp (disch := omega) [hI] <;> exact mt)))) <;> (conv => arg 4; cbv))
  (with_reducible refine on_any ?_)
  refine W_ops (S' := ?sb) (Y := Tab.calls []) xok (TabOk.calls mixed trivial) hI rfl (by kernel_rfl) rfl ?kb ?hb
  case kb =>
    refine OpsR.go (S1 := ?s1b) (l1 := [0, 1]) (l2 := [2, 3, 4, 5, 6, 7, 8, 9]) rfl ?e1b ?k1b
    case e1b => ((conv => lhs; cbv) <;> rfl)
    refine OpsR.step rfl rfl (fun β O a w hr hs => cap_step xok rfl rfl rfl rfl hr (fun t ht => by cases ht; rw [hs]; decide) rfl rfl) ?_
    refine OpsR.go (S1 := ?s2b) (l1 := [3, 4]) (l2 := [5, 6, 7, 8, 9]) rfl ?e2b ?k2b
    case e2b =>
      conv => lhs; cbv
      rw [if_pos (by rw [hI]; rfl)]
      rfl
    refine OpsR.step rfl rfl (fun β O a w hr hs => app0_step xok rfl rfl rfl rfl hr (fun t ht => by cases ht; rw [hs]; decide) rfl rfl rfl rfl rfl (by show (0 : Int) < (m : Int); omega) (by show (m : Int) ≤ ((1759218604441 : Nat) : Int); omega) (by decide) rfl rfl) ?_
    refine OpsR.go (S1 := ?sb) (l1 := [6, 7, 8, 9]) (l2 := []) rfl ?e3b .nil
    case e3b =>
      conv => lhs; cbv
      rw [if_pos (by rw [hI]; simp)]
      rfl
  refine W_behind (Y := (Tab.calls [])) xok (TabOk.calls mixed trivial) Tryz.func126 rfl 2000 _ hI ?_; (conv => arg 4; cbv)
  repeat' ((first | ((with_reducible refine on_eqs ?_ ?_); (focus (with_reducible rfl))) | (with_reducible refine on_both ?_ ?_) | (with_reducible refine on_true (by assumption) ?_) | (with_reducible refine on_false (by assumption) ?_) | (with_reducible refine on_ask (fun g => ?_) (fun g => ?_) <;> (have h := g) <;> (try simp (disch := omega) [hI, -List.length_eq_zero_iff] at h) <;> (try (exfalso; omega))) | ((with_reducible refine on_must ?_ ?_); (focus (simp (disch := omega) [hI] <;> exact mt)))) <;> (conv => arg 4; cbv))
  (with_reducible refine on_ret ?_); refine Ended_of rfl ?_; (conv => lhs; cbv)
  simp [hI]
  cases m <;> rfl
theorem growB126 (m : Nat) (h0 : m = 0) : Ok0 Tryz.prog 126 [pNl.enc (), pI.enc (m : Int)] (.one (.pv .nl)) [] 0 := by
  obtain ⟨I, hI⟩ : ∃ I, I = real := ⟨_, rfl⟩
  have h2 : ¬ (m : Int) < 0 := by omega
  show Ok0 Tryz.prog 126 [.one (.pv .nl), .one (.pv (.sc (.int .i64 (m : Int))))] _ _ _
  refine Ok0_run (Y := (Tab.calls [])) xok (TabOk.calls mixed trivial) Tryz.func126 rfl rfl rfl 2000 hI fun w Xs => ?_; (conv => arg 4; cbv)
  repeat' ((first | ((with_reducible refine on_eqs ?_ ?_); (focus (with_reducible rfl))) | (with_reducible refine on_both ?_ ?_) | (with_reducible refine on_true (by assumption) ?_) | (with_reducible refine on_false (by assumption) ?_) | (with_reducible refine on_ask (fun g => ?_) (fun g => ?_) <;> (have h := g) <;> (try simp (disch := omega) [hI, -List.length_eq_zero_iff] at h) <;> (try (exfalso; omega))) | ((with_reducible refine on_must ?_ ?_); (focus (simp (disch := omega) [hI] <;> exact mt)))) <;> (conv => arg 4; cbv))
  (with_reducible refine on_any ?_)
  refine W_ops (S' := ?s) (Y := Tab.calls []) xok (TabOk.calls mixed trivial) hI rfl (by kernel_rfl) rfl ?k ?h
  case k =>
    refine OpsR.go (S1 := ?s1) (l1 := [0, 1]) (l2 := [2, 3, 4, 5, 6, 7]) rfl ?e1 ?k1
    case e1 => ((conv => lhs; cbv) <;> rfl)
    refine OpsR.step rfl rfl (fun β O a w hr hs => cap_step xok rfl rfl rfl rfl hr (fun t ht => by cases ht; rw [hs]; decide) rfl rfl) ?_
    refine OpsR.go (S1 := ?s) (l1 := [3, 4, 5, 6, 7]) (l2 := []) rfl ?e2 .nil
    case e2 => ((conv => lhs; cbv) <;> rfl)
  refine W_norm (S' := ⟨[(0, .one (.pv .nl)), (1, .one (.pv (.sc (.int .i64 (m : Int)))))], [], 0⟩) [0, 1] ?_ ?_
  · (conv => lhs; cbv)
    simp (disch := omega) [hI]
  refine W_behind (Y := (Tab.calls [])) xok (TabOk.calls mixed trivial) Tryz.func126 rfl 2000 _ hI ?_; (conv => arg 4; cbv)
  repeat' ((first | ((with_reducible refine on_eqs ?_ ?_); (focus (with_reducible rfl))) | (with_reducible refine on_both ?_ ?_) | (with_reducible refine on_true (by assumption) ?_) | (with_reducible refine on_false (by assumption) ?_) | (with_reducible refine on_ask (fun g => ?_) (fun g => ?_) <;> (have h := g) <;> (try simp (disch := omega) [hI, -List.length_eq_zero_iff] at h) <;> (try (exfalso; omega))) | ((with_reducible refine on_must ?_ ?_); (focus (simp (disch := omega) [hI] <;> exact mt)))) <;> (conv => arg 4; cbv))
  all_goals ((with_reducible refine on_ret ?_); refine Ended_of rfl ?_; (conv => lhs; cbv))
def sh126 : Shp := fun I i b l s => .ask (b 0) fun t => match t with | true => .ok (.one (.pv .nl), [], 0) | false => .ok (.one (.arr 0 0 (I.len (l 0))), [(0, .row 6 (l 0))], 1)
def an126 : An (Unit × Int × Unit) where
  pre t := decide (0 ≤ t.2.1 ∧ t.2.1 ≤ 1000000)
  b _ t := (decide (t.2.1 = 0))
  l _ t := (tFrame.encs ([] : List FrameV))
noncomputable def en126 : En := mkE (parsC pNl (parsC pI pars0)) an126
attribute [simp] en126 an126
theorem ok126 (s : Unit) (cnt : Int) (p0 : 0 ≤ cnt ∧ cnt ≤ 1000000) : Ok0 Tryz.prog 126 [pNl.enc s, pI.enc cnt] (if (decide (cnt = 0)) = true then ((.one (.pv .nl), [], 0) : RES) else ((.one (.arr 0 0 ([] : List FrameV).length), [(0, .row 6 (tFrame.encs ([] : List FrameV)))], 1) : RES) : RES).1 (if (decide (cnt = 0)) = true then ((.one (.pv .nl), [], 0) : RES) else ((.one (.arr 0 0 ([] : List FrameV).length), [(0, .row 6 (tFrame.encs ([] : List FrameV)))], 1) : RES) : RES).2.1 (if (decide (cnt = 0)) = true then ((.one (.pv .nl), [], 0) : RES) else ((.one (.arr 0 0 ([] : List FrameV).length), [(0, .row 6 (tFrame.encs ([] : List FrameV)))], 1) : RES) : RES).2.2 := by
  obtain ⟨m, rfl⟩ : ∃ m : Nat, cnt = (m : Int) := ⟨cnt.toNat, by omega⟩
  by_cases h : m = 0
  · rw [if_pos (by simp [h])]; exact growB126 m h
  · rw [if_neg (by simp; omega)]; exact (growA126 m (by omega) (by omega)).trim1
theorem s126 {I : Ops} (hI : I = real) {e : En} (he : e = en126) : Sound Tryz.prog 126 (callE I e sh126) := by
  refine Sound.mkR ent126 hI ?_ he
  rintro ⟨s, cnt, ⟨⟩⟩ hp r σ n e
  have hp : (decide (0 ≤ cnt ∧ cnt ≤ 1000000)) = true := hp
  try simp only [Bool.and_eq_true, decide_eq_true_eq] at hp
  have p0 := hp
  have e : (R.ok (if (decide (cnt = 0)) = true then ((.one (.pv .nl), [], 0) : RES) else ((.one (.arr 0 0 ([] : List FrameV).length), [(0, .row 6 (tFrame.encs ([] : List FrameV)))], 1) : RES) : RES) : R RES).val = some (r, σ, n) := by
    rw [← e]
    cases hb : ((decide (cnt = 0)) : Bool) <;> (try simp at hb) <;> simp [sh126, an126, hb, val_ask]
  have k := ok126 s cnt p0
  rw [Option.some.inj e] at k
  exact k
end Go.Proofs.Tryz
