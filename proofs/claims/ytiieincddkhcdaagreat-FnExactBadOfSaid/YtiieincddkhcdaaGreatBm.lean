/- Contracts. -/
import Derived.Test.YtiieincddkhcdaaGreatBi
set_option linter.unusedSimpArgs false
set_option linter.unusedVariables false
namespace Go.Proofs.Tryz
open Go Go.Aix
set_option maxRecDepth 100000
set_option maxHeartbeats 4000000
theorem szS_ok {V : Type} {f : V → Int → Int} {B C : V → Prop} (hf : ∀ e m, B e → 0 ≤ m → m ≤ 1048576 → 0 ≤ f e m → C e ∧ f e m ≤ m) : ∀ (l : List V) (m : Int), (∀ e ∈ l, B e) → 0 ≤ m → m ≤ 1048576 → 0 ≤ szS f l m → (∀ e ∈ l, C e) ∧ szS f l m ≤ m
  | [], m, _, _, _, _ => ⟨fun _ he => by simp at he, Int.le_refl _⟩
  | e :: r, m, hb, h0, h1, h => by
    unfold szS at h ⊢
    by_cases hn : f e m < 0
    · rw [if_pos hn] at h; omega
    · rw [if_neg hn] at h ⊢
      obtain ⟨q1, q2⟩ := hf e m (hb e List.mem_cons_self) h0 h1 (by omega)
      obtain ⟨r1, r2⟩ := szS_ok hf r (f e m) (fun e he => hb e (List.mem_cons_of_mem _ he)) (by omega) (by omega) h
      refine ⟨fun x hx => ?_, by omega⟩
      rcases List.mem_cons.1 hx with rfl | hx
      · exact q1
      · exact r1 x hx
theorem szA_ok {V : Type} {f : V → Int → Int} {B C : V → Prop} (hf : ∀ e m, B e → 0 ≤ m → m ≤ 1048576 → 0 ≤ f e m → C e ∧ f e m ≤ m) {l : List V} {m : Int} (hl : l.length ≤ 9223372036854775807) (hb : ∀ e ∈ l, B e) (h0 : 0 ≤ m) (h1 : m ≤ 1048576) (h : 0 ≤ szA f l m) : l.length ≤ 1048576 ∧ (∀ e ∈ l, C e) ∧ szA f l m ≤ m := by
  unfold szA at h ⊢
  by_cases hn : IntKind.i64.wrap (m - l.length) < 0
  · rw [if_pos hn] at h; omega
  · rw [if_neg hn] at h ⊢
    have q : IntKind.i64.wrap (m - l.length) = m - l.length := by
      rw [IntKind.wrap_i64]; omega
    rw [q] at h hn ⊢
    obtain ⟨r1, r2⟩ := szS_ok hf l (m - l.length) hb (by omega) (by omega) h
    exact ⟨by omega, r1, by omega⟩
theorem szL_ok {n : Nat} {m : Int} (hn : n ≤ 9223372036854775807) (h0 : 0 ≤ m) (h1 : m ≤ 1048576) (h : 0 ≤ szL n m) : n ≤ 1048576 ∧ szL n m ≤ m := by
  unfold szL at h ⊢
  rw [IntKind.wrap_i64] at *
  split at h
  · omega
  · rename_i hh
    rw [if_neg hh]
    omega
theorem zI_g {l : List Int} (h : gL inI64 l) : zI l = true := decide_eq_true h.1
theorem zEntry_g {e : EntryV} (h : gEntry e) : zEntry e = true := by
  obtain ⟨g_row, g_weight⟩ := h
  unfold zEntry
  (try simp only [Bool.and_eq_true, and_assoc])
  exact zI_g g_row
theorem szEntryf_ok (e : EntryV) (m : Int) (hz : zEntry e = true) (h0 : 0 ≤ m) (h1 : m ≤ 1048576) (h : 0 ≤ szEntryf e m) : bEntry e = true ∧ szEntryf e m ≤ m := by
  have hx := hz
  have x0 := zEntry_p hx
  unfold szEntryf at h ⊢
  by_cases q0 : szL e.row.length m < 0
  · rw [if_pos q0] at h; omega
  rw [if_neg q0] at h ⊢
  obtain ⟨c0, d0⟩ := szL_ok (zI_len x0) (by omega) (by omega) (Int.not_lt.1 q0)
  have c0 : bI e.row = true := decide_eq_true c0
  refine ⟨?_, by omega⟩
  unfold bEntry
  (try simp only [Bool.and_eq_true])
  exact c0
theorem szEntryS_ok {l : List EntryV} {m : Int} (hz : zEntryS l = true) (h0 : 0 ≤ m) (h1 : m ≤ 1048576) (h : 0 ≤ szA szEntryf l m) : bEntryS l = true ∧ szA szEntryf l m ≤ m := by
  have hz2 := hz
  unfold zEntryS at hz2
  simp only [Bool.and_eq_true, List.all_eq_true] at hz2
  obtain ⟨a, b, c⟩ := szA_ok (B := fun e => zEntry e = true) (C := fun e => bEntry e = true) szEntryf_ok (zEntryS_len hz) hz2.2 h0 h1 h
  exact ⟨bEntryS_of a b, c⟩
theorem zCount_g {e : CountV} (h : gCount e) : zCount e = true := rfl
theorem zBatch_g {e : BatchV} (h : gBatch e) : zBatch e = true := by
  obtain ⟨g_side, g_epoch, g_set⟩ := h
  unfold zBatch
  (try simp only [Bool.and_eq_true, and_assoc])
  exact zEntryS_of g_set.1 (fun x hx => zEntry_g (g_set.2 x hx))
theorem szBatchf_ok (e : BatchV) (m : Int) (hz : zBatch e = true) (h0 : 0 ≤ m) (h1 : m ≤ 1048576) (h : 0 ≤ szBatchf e m) : bBatch e = true ∧ szBatchf e m ≤ m := by
  have hx := hz
  have x0 := zBatch_p hx
  unfold szBatchf at h ⊢
  by_cases q0 : szA szEntryf e.set m < 0
  · rw [if_pos q0] at h; omega
  rw [if_neg q0] at h ⊢
  obtain ⟨c0, d0⟩ := szEntryS_ok x0 (by omega) (by omega) (Int.not_lt.1 q0)
  refine ⟨?_, by omega⟩
  unfold bBatch
  (try simp only [Bool.and_eq_true])
  exact c0
theorem szBatchS_ok {l : List BatchV} {m : Int} (hz : zBatchS l = true) (h0 : 0 ≤ m) (h1 : m ≤ 1048576) (h : 0 ≤ szA szBatchf l m) : bBatchS l = true ∧ szA szBatchf l m ≤ m := by
  have hz2 := hz
  unfold zBatchS at hz2
  simp only [Bool.and_eq_true, List.all_eq_true] at hz2
  obtain ⟨a, b, c⟩ := szA_ok (B := fun e => zBatch e = true) (C := fun e => bBatch e = true) szBatchf_ok (zBatchS_len hz) hz2.2 h0 h1 h
  exact ⟨bBatchS_of a b, c⟩
theorem zFrame_g {e : FrameV} (h : gFrame e) : zFrame e = true := by
  obtain ⟨g_kind, g_node, g_side, g_epoch, g_set, g_news⟩ := h
  unfold zFrame
  (try simp only [Bool.and_eq_true, and_assoc])
  exact ⟨zEntryS_of g_set.1 (fun x hx => zEntry_g (g_set.2 x hx)), zCountS_of g_news.1 (fun x hx => zCount_g (g_news.2 x hx))⟩
theorem szFramef_ok (e : FrameV) (m : Int) (hz : zFrame e = true) (h0 : 0 ≤ m) (h1 : m ≤ 1048576) (h : 0 ≤ szFramef e m) : bFrame e = true ∧ szFramef e m ≤ m := by
  have hx := hz
  obtain ⟨x0, x1⟩ := zFrame_p hx
  unfold szFramef at h ⊢
  by_cases q0 : szA szEntryf e.set m < 0
  · rw [if_pos q0] at h; omega
  rw [if_neg q0] at h ⊢
  obtain ⟨c0, d0⟩ := szEntryS_ok x0 (by omega) (by omega) (Int.not_lt.1 q0)
  by_cases q1 : szL e.news.length (szA szEntryf e.set m) < 0
  · rw [if_pos q1] at h; omega
  rw [if_neg q1] at h ⊢
  obtain ⟨c1, d1⟩ := szL_ok (zCountS_len x1) (by omega) (by omega) (Int.not_lt.1 q1)
  have c1 : bCountS e.news = true := bCountS_of c1 (fun _ _ => rfl)
  refine ⟨?_, by omega⟩
  unfold bFrame
  (try simp only [Bool.and_eq_true])
  exact ⟨c0, c1⟩
theorem szFrameS_ok {l : List FrameV} {m : Int} (hz : zFrameS l = true) (h0 : 0 ≤ m) (h1 : m ≤ 1048576) (h : 0 ≤ szA szFramef l m) : bFrameS l = true ∧ szA szFramef l m ≤ m := by
  have hz2 := hz
  unfold zFrameS at hz2
  simp only [Bool.and_eq_true, List.all_eq_true] at hz2
  obtain ⟨a, b, c⟩ := szA_ok (B := fun e => zFrame e = true) (C := fun e => bFrame e = true) szFramef_ok (zFrameS_len hz) hz2.2 h0 h1 h
  exact ⟨bFrameS_of a b, c⟩
theorem zHeld_g {e : HeldV} (h : gHeld e) : zHeld e = true := by
  obtain ⟨g_oldA, g_oldB, g_waits, g_told⟩ := h
  unfold zHeld
  (try simp only [Bool.and_eq_true, and_assoc])
  exact ⟨zEntryS_of g_oldA.1 (fun x hx => zEntry_g (g_oldA.2 x hx)), zEntryS_of g_oldB.1 (fun x hx => zEntry_g (g_oldB.2 x hx)), zBatchS_of g_waits.1 (fun x hx => zBatch_g (g_waits.2 x hx))⟩
theorem szHeldf_ok (e : HeldV) (m : Int) (hz : zHeld e = true) (h0 : 0 ≤ m) (h1 : m ≤ 1048576) (h : 0 ≤ szHeldf e m) : bHeld e = true ∧ szHeldf e m ≤ m := by
  have hx := hz
  obtain ⟨x0, x1, x2⟩ := zHeld_p hx
  unfold szHeldf at h ⊢
  by_cases q0 : szA szEntryf e.oldA m < 0
  · rw [if_pos q0] at h; omega
  rw [if_neg q0] at h ⊢
  obtain ⟨c0, d0⟩ := szEntryS_ok x0 (by omega) (by omega) (Int.not_lt.1 q0)
  by_cases q1 : szA szEntryf e.oldB (szA szEntryf e.oldA m) < 0
  · rw [if_pos q1] at h; omega
  rw [if_neg q1] at h ⊢
  obtain ⟨c1, d1⟩ := szEntryS_ok x1 (by omega) (by omega) (Int.not_lt.1 q1)
  by_cases q2 : szA szBatchf e.waits (szA szEntryf e.oldB (szA szEntryf e.oldA m)) < 0
  · rw [if_pos q2] at h; omega
  rw [if_neg q2] at h ⊢
  obtain ⟨c2, d2⟩ := szBatchS_ok x2 (by omega) (by omega) (Int.not_lt.1 q2)
  refine ⟨?_, by omega⟩
  unfold bHeld
  (try simp only [Bool.and_eq_true])
  exact ⟨⟨c0, c1⟩, c2⟩
theorem szHeldS_ok {l : List HeldV} {m : Int} (hz : zHeldS l = true) (h0 : 0 ≤ m) (h1 : m ≤ 1048576) (h : 0 ≤ szA szHeldf l m) : bHeldS l = true ∧ szA szHeldf l m ≤ m := by
  have hz2 := hz
  unfold zHeldS at hz2
  simp only [Bool.and_eq_true, List.all_eq_true] at hz2
  obtain ⟨a, b, c⟩ := szA_ok (B := fun e => zHeld e = true) (C := fun e => bHeld e = true) szHeldf_ok (zHeldS_len hz) hz2.2 h0 h1 h
  exact ⟨bHeldS_of a b, c⟩
theorem zRelease_g {e : ReleaseV} (h : gRelease e) : zRelease e = true := by
  obtain ⟨g_node, g_epoch, g_set⟩ := h
  unfold zRelease
  (try simp only [Bool.and_eq_true, and_assoc])
  exact zEntryS_of g_set.1 (fun x hx => zEntry_g (g_set.2 x hx))
theorem szReleasef_ok (e : ReleaseV) (m : Int) (hz : zRelease e = true) (h0 : 0 ≤ m) (h1 : m ≤ 1048576) (h : 0 ≤ szReleasef e m) : bRelease e = true ∧ szReleasef e m ≤ m := by
  have hx := hz
  have x0 := zRelease_p hx
  unfold szReleasef at h ⊢
  by_cases q0 : szA szEntryf e.set m < 0
  · rw [if_pos q0] at h; omega
  rw [if_neg q0] at h ⊢
  obtain ⟨c0, d0⟩ := szEntryS_ok x0 (by omega) (by omega) (Int.not_lt.1 q0)
  refine ⟨?_, by omega⟩
  unfold bRelease
  (try simp only [Bool.and_eq_true])
  exact c0
theorem szReleaseS_ok {l : List ReleaseV} {m : Int} (hz : zReleaseS l = true) (h0 : 0 ≤ m) (h1 : m ≤ 1048576) (h : 0 ≤ szA szReleasef l m) : bReleaseS l = true ∧ szA szReleasef l m ≤ m := by
  have hz2 := hz
  unfold zReleaseS at hz2
  simp only [Bool.and_eq_true, List.all_eq_true] at hz2
  obtain ⟨a, b, c⟩ := szA_ok (B := fun e => zRelease e = true) (C := fun e => bRelease e = true) szReleasef_ok (zReleaseS_len hz) hz2.2 h0 h1 h
  exact ⟨bReleaseS_of a b, c⟩
theorem zWorker_g {e : WorkerV} (h : gWorker e) : zWorker e = true := by
  obtain ⟨g_inbox, g_counts, g_nodes, g_epoch, g_top, g_outs⟩ := h
  unfold zWorker
  (try simp only [Bool.and_eq_true, and_assoc])
  exact ⟨zFrameS_of g_inbox.1 (fun x hx => zFrame_g (g_inbox.2 x hx)), zCountS_of g_counts.1 (fun x hx => zCount_g (g_counts.2 x hx)), zHeldS_of g_nodes.1 (fun x hx => zHeld_g (g_nodes.2 x hx)), zReleaseS_of g_outs.1 (fun x hx => zRelease_g (g_outs.2 x hx))⟩
theorem szWorkerf_ok (e : WorkerV) (m : Int) (hz : zWorker e = true) (h0 : 0 ≤ m) (h1 : m ≤ 1048576) (h : 0 ≤ szWorkerf e m) : bWorker e = true ∧ szWorkerf e m ≤ m := by
  have hx := hz
  obtain ⟨x0, x1, x2, x3⟩ := zWorker_p hx
  unfold szWorkerf at h ⊢
  by_cases q0 : szA szFramef e.inbox m < 0
  · rw [if_pos q0] at h; omega
  rw [if_neg q0] at h ⊢
  obtain ⟨c0, d0⟩ := szFrameS_ok x0 (by omega) (by omega) (Int.not_lt.1 q0)
  by_cases q1 : szL e.counts.length (szA szFramef e.inbox m) < 0
  · rw [if_pos q1] at h; omega
  rw [if_neg q1] at h ⊢
  obtain ⟨c1, d1⟩ := szL_ok (zCountS_len x1) (by omega) (by omega) (Int.not_lt.1 q1)
  have c1 : bCountS e.counts = true := bCountS_of c1 (fun _ _ => rfl)
  by_cases q2 : szA szHeldf e.nodes (szL e.counts.length (szA szFramef e.inbox m)) < 0
  · rw [if_pos q2] at h; omega
  rw [if_neg q2] at h ⊢
  obtain ⟨c2, d2⟩ := szHeldS_ok x2 (by omega) (by omega) (Int.not_lt.1 q2)
  by_cases q3 : szA szReleasef e.outs (szA szHeldf e.nodes (szL e.counts.length (szA szFramef e.inbox m))) < 0
  · rw [if_pos q3] at h; omega
  rw [if_neg q3] at h ⊢
  obtain ⟨c3, d3⟩ := szReleaseS_ok x3 (by omega) (by omega) (Int.not_lt.1 q3)
  refine ⟨?_, by omega⟩
  unfold bWorker
  (try simp only [Bool.and_eq_true])
  exact ⟨⟨⟨c0, c1⟩, c2⟩, c3⟩
theorem szWorkerS_ok {l : List WorkerV} {m : Int} (hz : zWorkerS l = true) (h0 : 0 ≤ m) (h1 : m ≤ 1048576) (h : 0 ≤ szA szWorkerf l m) : bWorkerS l = true ∧ szA szWorkerf l m ≤ m := by
  have hz2 := hz
  unfold zWorkerS at hz2
  simp only [Bool.and_eq_true, List.all_eq_true] at hz2
  obtain ⟨a, b, c⟩ := szA_ok (B := fun e => zWorker e = true) (C := fun e => bWorker e = true) szWorkerf_ok (zWorkerS_len hz) hz2.2 h0 h1 h
  exact ⟨bWorkerS_of a b, c⟩
theorem zNode_g {e : NodeV} (h : gNode e) : zNode e = true := by
  obtain ⟨g_op, g_a, g_b, g_col, g_test, g_value, g_cells⟩ := h
  unfold zNode
  (try simp only [Bool.and_eq_true, and_assoc])
  exact zI_g g_cells
theorem szNodef_ok (e : NodeV) (m : Int) (hz : zNode e = true) (h0 : 0 ≤ m) (h1 : m ≤ 1048576) (h : 0 ≤ szNodef e m) : bNode e = true ∧ szNodef e m ≤ m := by
  have hx := hz
  have x0 := zNode_p hx
  unfold szNodef at h ⊢
  by_cases q0 : szL e.cells.length m < 0
  · rw [if_pos q0] at h; omega
  rw [if_neg q0] at h ⊢
  obtain ⟨c0, d0⟩ := szL_ok (zI_len x0) (by omega) (by omega) (Int.not_lt.1 q0)
  have c0 : bI e.cells = true := decide_eq_true c0
  refine ⟨?_, by omega⟩
  unfold bNode
  (try simp only [Bool.and_eq_true])
  exact c0
theorem szNodeS_ok {l : List NodeV} {m : Int} (hz : zNodeS l = true) (h0 : 0 ≤ m) (h1 : m ≤ 1048576) (h : 0 ≤ szA szNodef l m) : bNodeS l = true ∧ szA szNodef l m ≤ m := by
  have hz2 := hz
  unfold zNodeS at hz2
  simp only [Bool.and_eq_true, List.all_eq_true] at hz2
  obtain ⟨a, b, c⟩ := szA_ok (B := fun e => zNode e = true) (C := fun e => bNode e = true) szNodef_ok (zNodeS_len hz) hz2.2 h0 h1 h
  exact ⟨bNodeS_of a b, c⟩
theorem zLink_g {e : LinkV} (h : gL gFrame e.frames) : zLink e = true := zFrameS_of h.1 (fun x hx => zFrame_g (h.2 x hx))
theorem szLinkf_ok (e : LinkV) (m : Int) (hz : zLink e = true) (h0 : 0 ≤ m) (h1 : m ≤ 1048576) (h : 0 ≤ szLinkf e m) : bLink e = true ∧ szLinkf e m ≤ m := by
  have hx := hz
  have x0 := zLink_p hx
  unfold szLinkf at h ⊢
  by_cases q0 : szA szFramef e.frames m < 0
  · rw [if_pos q0] at h; omega
  rw [if_neg q0] at h ⊢
  obtain ⟨c0, d0⟩ := szFrameS_ok x0 (by omega) (by omega) (Int.not_lt.1 q0)
  refine ⟨?_, by omega⟩
  unfold bLink
  (try simp only [Bool.and_eq_true])
  exact c0
theorem szLinkS_ok {l : List LinkV} {m : Int} (hz : zLinkS l = true) (h0 : 0 ≤ m) (h1 : m ≤ 1048576) (h : 0 ≤ szA szLinkf l m) : bLinkS l = true ∧ szA szLinkf l m ≤ m := by
  have hz2 := hz
  unfold zLinkS at hz2
  simp only [Bool.and_eq_true, List.all_eq_true] at hz2
  obtain ⟨a, b, c⟩ := szA_ok (B := fun e => zLink e = true) (C := fun e => bLink e = true) szLinkf_ok (zLinkS_len hz) hz2.2 h0 h1 h
  exact ⟨bLinkS_of a b, c⟩
def zClu (c : CluV) : Bool := zNodeS c.plan && zWorkerS c.workers && zLinkS c.links
def ofClu (c : ClusterV) : CluV := ⟨c.plan, c.workers, c.links.map LinkV.mk⟩
theorem links_enc : ∀ l : List (List FrameV), (tL tFrame).encs l = tLink.encs (l.map LinkV.mk)
  | [] => rfl
  | x :: r => by show _ :: (tL tFrame).encs r = _ :: tLink.encs (r.map LinkV.mk); rw [links_enc r]; rfl
theorem ofClu_enc (c : ClusterV) : (pS tCluster).enc c = (pS tClu).enc (ofClu c) := by
  show AV.ag _ = AV.ag _
  simp only [tCluster, tClu, ofClu, links_enc]
theorem zClu_g {c : ClusterV} (h : gCluster c) : zClu (ofClu c) = true := by
  obtain ⟨h0, h1, h2⟩ := h
  unfold zClu ofClu
  simp only [Bool.and_eq_true]
  refine ⟨⟨zNodeS_of h0.1 (fun x hx => zNode_g (h0.2 x hx)), zWorkerS_of h1.1 (fun x hx => zWorker_g (h1.2 x hx))⟩, zLinkS_of (by rw [List.length_map]; exact h2.1) (fun x hx => ?_)⟩
  obtain ⟨y, hy, rfl⟩ := List.mem_map.1 hx
  exact zLink_g (h2.2 y hy)
theorem RL.rcs {w : World} {M : Nat → Prop} {env : EnvT} : ∀ {ps : List PV} {vs : List Value} {O : List Nat}, RL w M ps vs O → O = [] → vs.length = ps.length → RCs w M env (ps.map .pv) vs
  | _, [], _, .nil, _, _ => .nil
  | _, v :: vs, _, .nil, _, h => by simp at h
  | _, _, _, .cons h hr, e, hl => by
    obtain ⟨rfl, rfl⟩ := List.append_eq_nil_iff.1 e
    exact .cons (.pv h) (RL.rcs hr rfl (by simpa using hl))
end Go.Proofs.Tryz
