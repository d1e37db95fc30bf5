/- Contracts. -/
import Derived.Test.YtiieincddkhcdaaGreatBa
set_option linter.unusedSimpArgs false
set_option linter.unusedVariables false
namespace Go.Proofs.Tryz
open Go Go.Aix
set_option maxRecDepth 100000
set_option maxHeartbeats 4000000
def bI (l : List Int) : Bool := decide (l.length ≤ 1048576)
def zI (l : List Int) : Bool := decide (l.length ≤ 9223372036854775807)
theorem bI_len {l : List Int} (h : bI l = true) : l.length ≤ 1048576 := of_decide_eq_true h
theorem zI_len {l : List Int} (h : zI l = true) : l.length ≤ 9223372036854775807 := of_decide_eq_true h
def bEntry (e : EntryV) : Bool := bI e.row
def bEntryS (l : List EntryV) : Bool := decide (l.length ≤ 1048576) && l.all bEntry
theorem bEntryS_len {l : List EntryV} (h : bEntryS l = true) : l.length ≤ 1048576 := by
  unfold bEntryS at h
  simp only [Bool.and_eq_true, decide_eq_true_eq] at h
  exact h.1
theorem bEntryS_nth {l : List EntryV} (h : bEntryS l = true) {i : Nat} (hi : i < l.length) : bEntry (nth l i) = true := by
  unfold bEntryS at h
  simp only [Bool.and_eq_true, List.all_eq_true] at h
  exact h.2 _ (nth_mem hi)
theorem bEntryS_of {l : List EntryV} (h : l.length ≤ 1048576) (h2 : ∀ e ∈ l, bEntry e = true) : bEntryS l = true := by
  unfold bEntryS
  simp only [Bool.and_eq_true, decide_eq_true_eq, List.all_eq_true]
  exact ⟨h, h2⟩
theorem bEntry_p {e : EntryV} (h : bEntry e = true) : bI e.row = true := by
  unfold bEntry at h
  simpa only [Bool.and_eq_true, and_assoc] using h
def zEntry (e : EntryV) : Bool := zI e.row
def zEntryS (l : List EntryV) : Bool := decide (l.length ≤ 9223372036854775807) && l.all zEntry
theorem zEntryS_len {l : List EntryV} (h : zEntryS l = true) : l.length ≤ 9223372036854775807 := by
  unfold zEntryS at h
  simp only [Bool.and_eq_true, decide_eq_true_eq] at h
  exact h.1
theorem zEntryS_nth {l : List EntryV} (h : zEntryS l = true) {i : Nat} (hi : i < l.length) : zEntry (nth l i) = true := by
  unfold zEntryS at h
  simp only [Bool.and_eq_true, List.all_eq_true] at h
  exact h.2 _ (nth_mem hi)
theorem zEntryS_of {l : List EntryV} (h : l.length ≤ 9223372036854775807) (h2 : ∀ e ∈ l, zEntry e = true) : zEntryS l = true := by
  unfold zEntryS
  simp only [Bool.and_eq_true, decide_eq_true_eq, List.all_eq_true]
  exact ⟨h, h2⟩
theorem zEntry_p {e : EntryV} (h : zEntry e = true) : zI e.row = true := by
  unfold zEntry at h
  simpa only [Bool.and_eq_true, and_assoc] using h
theorem extEntry {x y : EntryV} (h0 : x.row = y.row) (h1 : x.weight = y.weight) : x = y := by
  cases x; cases y; simp_all
def bCount (e : CountV) : Bool := true
def bCountS (l : List CountV) : Bool := decide (l.length ≤ 1048576) && l.all bCount
theorem bCountS_len {l : List CountV} (h : bCountS l = true) : l.length ≤ 1048576 := by
  unfold bCountS at h
  simp only [Bool.and_eq_true, decide_eq_true_eq] at h
  exact h.1
theorem bCountS_nth {l : List CountV} (h : bCountS l = true) {i : Nat} (hi : i < l.length) : bCount (nth l i) = true := by
  unfold bCountS at h
  simp only [Bool.and_eq_true, List.all_eq_true] at h
  exact h.2 _ (nth_mem hi)
theorem bCountS_of {l : List CountV} (h : l.length ≤ 1048576) (h2 : ∀ e ∈ l, bCount e = true) : bCountS l = true := by
  unfold bCountS
  simp only [Bool.and_eq_true, decide_eq_true_eq, List.all_eq_true]
  exact ⟨h, h2⟩
def zCount (e : CountV) : Bool := true
def zCountS (l : List CountV) : Bool := decide (l.length ≤ 9223372036854775807) && l.all zCount
theorem zCountS_len {l : List CountV} (h : zCountS l = true) : l.length ≤ 9223372036854775807 := by
  unfold zCountS at h
  simp only [Bool.and_eq_true, decide_eq_true_eq] at h
  exact h.1
theorem zCountS_of {l : List CountV} (h : l.length ≤ 9223372036854775807) (h2 : ∀ e ∈ l, zCount e = true) : zCountS l = true := by
  unfold zCountS
  simp only [Bool.and_eq_true, decide_eq_true_eq, List.all_eq_true]
  exact ⟨h, h2⟩
theorem extCount {x y : CountV} (h0 : x.place = y.place) (h1 : x.epoch = y.epoch) (h2 : x.n = y.n) : x = y := by
  cases x; cases y; simp_all
def bBatch (e : BatchV) : Bool := bEntryS e.set
def bBatchS (l : List BatchV) : Bool := decide (l.length ≤ 1048576) && l.all bBatch
theorem bBatchS_len {l : List BatchV} (h : bBatchS l = true) : l.length ≤ 1048576 := by
  unfold bBatchS at h
  simp only [Bool.and_eq_true, decide_eq_true_eq] at h
  exact h.1
theorem bBatchS_nth {l : List BatchV} (h : bBatchS l = true) {i : Nat} (hi : i < l.length) : bBatch (nth l i) = true := by
  unfold bBatchS at h
  simp only [Bool.and_eq_true, List.all_eq_true] at h
  exact h.2 _ (nth_mem hi)
theorem bBatchS_of {l : List BatchV} (h : l.length ≤ 1048576) (h2 : ∀ e ∈ l, bBatch e = true) : bBatchS l = true := by
  unfold bBatchS
  simp only [Bool.and_eq_true, decide_eq_true_eq, List.all_eq_true]
  exact ⟨h, h2⟩
theorem bBatch_p {e : BatchV} (h : bBatch e = true) : bEntryS e.set = true := by
  unfold bBatch at h
  simpa only [Bool.and_eq_true, and_assoc] using h
def zBatch (e : BatchV) : Bool := zEntryS e.set
def zBatchS (l : List BatchV) : Bool := decide (l.length ≤ 9223372036854775807) && l.all zBatch
theorem zBatchS_len {l : List BatchV} (h : zBatchS l = true) : l.length ≤ 9223372036854775807 := by
  unfold zBatchS at h
  simp only [Bool.and_eq_true, decide_eq_true_eq] at h
  exact h.1
theorem zBatchS_nth {l : List BatchV} (h : zBatchS l = true) {i : Nat} (hi : i < l.length) : zBatch (nth l i) = true := by
  unfold zBatchS at h
  simp only [Bool.and_eq_true, List.all_eq_true] at h
  exact h.2 _ (nth_mem hi)
theorem zBatchS_of {l : List BatchV} (h : l.length ≤ 9223372036854775807) (h2 : ∀ e ∈ l, zBatch e = true) : zBatchS l = true := by
  unfold zBatchS
  simp only [Bool.and_eq_true, decide_eq_true_eq, List.all_eq_true]
  exact ⟨h, h2⟩
theorem zBatch_p {e : BatchV} (h : zBatch e = true) : zEntryS e.set = true := by
  unfold zBatch at h
  simpa only [Bool.and_eq_true, and_assoc] using h
theorem extBatch {x y : BatchV} (h0 : x.side = y.side) (h1 : x.epoch = y.epoch) (h2 : x.set = y.set) : x = y := by
  cases x; cases y; simp_all
def bFrame (e : FrameV) : Bool := bEntryS e.set && bCountS e.news
def bFrameS (l : List FrameV) : Bool := decide (l.length ≤ 1048576) && l.all bFrame
theorem bFrameS_len {l : List FrameV} (h : bFrameS l = true) : l.length ≤ 1048576 := by
  unfold bFrameS at h
  simp only [Bool.and_eq_true, decide_eq_true_eq] at h
  exact h.1
theorem bFrameS_nth {l : List FrameV} (h : bFrameS l = true) {i : Nat} (hi : i < l.length) : bFrame (nth l i) = true := by
  unfold bFrameS at h
  simp only [Bool.and_eq_true, List.all_eq_true] at h
  exact h.2 _ (nth_mem hi)
theorem bFrameS_of {l : List FrameV} (h : l.length ≤ 1048576) (h2 : ∀ e ∈ l, bFrame e = true) : bFrameS l = true := by
  unfold bFrameS
  simp only [Bool.and_eq_true, decide_eq_true_eq, List.all_eq_true]
  exact ⟨h, h2⟩
theorem bFrame_p {e : FrameV} (h : bFrame e = true) : bEntryS e.set = true ∧ bCountS e.news = true := by
  unfold bFrame at h
  simpa only [Bool.and_eq_true, and_assoc] using h
def zFrame (e : FrameV) : Bool := zEntryS e.set && zCountS e.news
def zFrameS (l : List FrameV) : Bool := decide (l.length ≤ 9223372036854775807) && l.all zFrame
theorem zFrameS_len {l : List FrameV} (h : zFrameS l = true) : l.length ≤ 9223372036854775807 := by
  unfold zFrameS at h
  simp only [Bool.and_eq_true, decide_eq_true_eq] at h
  exact h.1
theorem zFrameS_nth {l : List FrameV} (h : zFrameS l = true) {i : Nat} (hi : i < l.length) : zFrame (nth l i) = true := by
  unfold zFrameS at h
  simp only [Bool.and_eq_true, List.all_eq_true] at h
  exact h.2 _ (nth_mem hi)
theorem zFrameS_of {l : List FrameV} (h : l.length ≤ 9223372036854775807) (h2 : ∀ e ∈ l, zFrame e = true) : zFrameS l = true := by
  unfold zFrameS
  simp only [Bool.and_eq_true, decide_eq_true_eq, List.all_eq_true]
  exact ⟨h, h2⟩
theorem zFrame_p {e : FrameV} (h : zFrame e = true) : zEntryS e.set = true ∧ zCountS e.news = true := by
  unfold zFrame at h
  simpa only [Bool.and_eq_true, and_assoc] using h
theorem extFrame {x y : FrameV} (h0 : x.kind = y.kind) (h1 : x.node = y.node) (h2 : x.side = y.side) (h3 : x.epoch = y.epoch) (h4 : x.set = y.set) (h5 : x.news = y.news) : x = y := by
  cases x; cases y; simp_all
def bHeld (e : HeldV) : Bool := bEntryS e.oldA && bEntryS e.oldB && bBatchS e.waits
def bHeldS (l : List HeldV) : Bool := decide (l.length ≤ 1048576) && l.all bHeld
theorem bHeldS_len {l : List HeldV} (h : bHeldS l = true) : l.length ≤ 1048576 := by
  unfold bHeldS at h
  simp only [Bool.and_eq_true, decide_eq_true_eq] at h
  exact h.1
theorem bHeldS_nth {l : List HeldV} (h : bHeldS l = true) {i : Nat} (hi : i < l.length) : bHeld (nth l i) = true := by
  unfold bHeldS at h
  simp only [Bool.and_eq_true, List.all_eq_true] at h
  exact h.2 _ (nth_mem hi)
theorem bHeldS_of {l : List HeldV} (h : l.length ≤ 1048576) (h2 : ∀ e ∈ l, bHeld e = true) : bHeldS l = true := by
  unfold bHeldS
  simp only [Bool.and_eq_true, decide_eq_true_eq, List.all_eq_true]
  exact ⟨h, h2⟩
theorem bHeld_p {e : HeldV} (h : bHeld e = true) : bEntryS e.oldA = true ∧ bEntryS e.oldB = true ∧ bBatchS e.waits = true := by
  unfold bHeld at h
  simpa only [Bool.and_eq_true, and_assoc] using h
def zHeld (e : HeldV) : Bool := zEntryS e.oldA && zEntryS e.oldB && zBatchS e.waits
def zHeldS (l : List HeldV) : Bool := decide (l.length ≤ 9223372036854775807) && l.all zHeld
theorem zHeldS_len {l : List HeldV} (h : zHeldS l = true) : l.length ≤ 9223372036854775807 := by
  unfold zHeldS at h
  simp only [Bool.and_eq_true, decide_eq_true_eq] at h
  exact h.1
theorem zHeldS_nth {l : List HeldV} (h : zHeldS l = true) {i : Nat} (hi : i < l.length) : zHeld (nth l i) = true := by
  unfold zHeldS at h
  simp only [Bool.and_eq_true, List.all_eq_true] at h
  exact h.2 _ (nth_mem hi)
theorem zHeldS_of {l : List HeldV} (h : l.length ≤ 9223372036854775807) (h2 : ∀ e ∈ l, zHeld e = true) : zHeldS l = true := by
  unfold zHeldS
  simp only [Bool.and_eq_true, decide_eq_true_eq, List.all_eq_true]
  exact ⟨h, h2⟩
theorem zHeld_p {e : HeldV} (h : zHeld e = true) : zEntryS e.oldA = true ∧ zEntryS e.oldB = true ∧ zBatchS e.waits = true := by
  unfold zHeld at h
  simpa only [Bool.and_eq_true, and_assoc] using h
theorem extHeld {x y : HeldV} (h0 : x.oldA = y.oldA) (h1 : x.oldB = y.oldB) (h2 : x.waits = y.waits) (h3 : x.told = y.told) : x = y := by
  cases x; cases y; simp_all
def bRelease (e : ReleaseV) : Bool := bEntryS e.set
def bReleaseS (l : List ReleaseV) : Bool := decide (l.length ≤ 1048576) && l.all bRelease
theorem bReleaseS_len {l : List ReleaseV} (h : bReleaseS l = true) : l.length ≤ 1048576 := by
  unfold bReleaseS at h
  simp only [Bool.and_eq_true, decide_eq_true_eq] at h
  exact h.1
theorem bReleaseS_nth {l : List ReleaseV} (h : bReleaseS l = true) {i : Nat} (hi : i < l.length) : bRelease (nth l i) = true := by
  unfold bReleaseS at h
  simp only [Bool.and_eq_true, List.all_eq_true] at h
  exact h.2 _ (nth_mem hi)
theorem bReleaseS_of {l : List ReleaseV} (h : l.length ≤ 1048576) (h2 : ∀ e ∈ l, bRelease e = true) : bReleaseS l = true := by
  unfold bReleaseS
  simp only [Bool.and_eq_true, decide_eq_true_eq, List.all_eq_true]
  exact ⟨h, h2⟩
theorem bRelease_p {e : ReleaseV} (h : bRelease e = true) : bEntryS e.set = true := by
  unfold bRelease at h
  simpa only [Bool.and_eq_true, and_assoc] using h
def zRelease (e : ReleaseV) : Bool := zEntryS e.set
def zReleaseS (l : List ReleaseV) : Bool := decide (l.length ≤ 9223372036854775807) && l.all zRelease
theorem zReleaseS_len {l : List ReleaseV} (h : zReleaseS l = true) : l.length ≤ 9223372036854775807 := by
  unfold zReleaseS at h
  simp only [Bool.and_eq_true, decide_eq_true_eq] at h
  exact h.1
theorem zReleaseS_nth {l : List ReleaseV} (h : zReleaseS l = true) {i : Nat} (hi : i < l.length) : zRelease (nth l i) = true := by
  unfold zReleaseS at h
  simp only [Bool.and_eq_true, List.all_eq_true] at h
  exact h.2 _ (nth_mem hi)
theorem zReleaseS_of {l : List ReleaseV} (h : l.length ≤ 9223372036854775807) (h2 : ∀ e ∈ l, zRelease e = true) : zReleaseS l = true := by
  unfold zReleaseS
  simp only [Bool.and_eq_true, decide_eq_true_eq, List.all_eq_true]
  exact ⟨h, h2⟩
theorem zRelease_p {e : ReleaseV} (h : zRelease e = true) : zEntryS e.set = true := by
  unfold zRelease at h
  simpa only [Bool.and_eq_true, and_assoc] using h
theorem extRelease {x y : ReleaseV} (h0 : x.node = y.node) (h1 : x.epoch = y.epoch) (h2 : x.set = y.set) : x = y := by
  cases x; cases y; simp_all
def bWorker (e : WorkerV) : Bool := bFrameS e.inbox && bCountS e.counts && bHeldS e.nodes && bReleaseS e.outs
def bWorkerS (l : List WorkerV) : Bool := decide (l.length ≤ 1048576) && l.all bWorker
theorem bWorkerS_len {l : List WorkerV} (h : bWorkerS l = true) : l.length ≤ 1048576 := by
  unfold bWorkerS at h
  simp only [Bool.and_eq_true, decide_eq_true_eq] at h
  exact h.1
theorem bWorkerS_nth {l : List WorkerV} (h : bWorkerS l = true) {i : Nat} (hi : i < l.length) : bWorker (nth l i) = true := by
  unfold bWorkerS at h
  simp only [Bool.and_eq_true, List.all_eq_true] at h
  exact h.2 _ (nth_mem hi)
theorem bWorkerS_of {l : List WorkerV} (h : l.length ≤ 1048576) (h2 : ∀ e ∈ l, bWorker e = true) : bWorkerS l = true := by
  unfold bWorkerS
  simp only [Bool.and_eq_true, decide_eq_true_eq, List.all_eq_true]
  exact ⟨h, h2⟩
theorem bWorker_p {e : WorkerV} (h : bWorker e = true) : bFrameS e.inbox = true ∧ bCountS e.counts = true ∧ bHeldS e.nodes = true ∧ bReleaseS e.outs = true := by
  unfold bWorker at h
  simpa only [Bool.and_eq_true, and_assoc] using h
def zWorker (e : WorkerV) : Bool := zFrameS e.inbox && zCountS e.counts && zHeldS e.nodes && zReleaseS e.outs
def zWorkerS (l : List WorkerV) : Bool := decide (l.length ≤ 9223372036854775807) && l.all zWorker
theorem zWorkerS_len {l : List WorkerV} (h : zWorkerS l = true) : l.length ≤ 9223372036854775807 := by
  unfold zWorkerS at h
  simp only [Bool.and_eq_true, decide_eq_true_eq] at h
  exact h.1
theorem zWorkerS_nth {l : List WorkerV} (h : zWorkerS l = true) {i : Nat} (hi : i < l.length) : zWorker (nth l i) = true := by
  unfold zWorkerS at h
  simp only [Bool.and_eq_true, List.all_eq_true] at h
  exact h.2 _ (nth_mem hi)
theorem zWorkerS_of {l : List WorkerV} (h : l.length ≤ 9223372036854775807) (h2 : ∀ e ∈ l, zWorker e = true) : zWorkerS l = true := by
  unfold zWorkerS
  simp only [Bool.and_eq_true, decide_eq_true_eq, List.all_eq_true]
  exact ⟨h, h2⟩
theorem zWorker_p {e : WorkerV} (h : zWorker e = true) : zFrameS e.inbox = true ∧ zCountS e.counts = true ∧ zHeldS e.nodes = true ∧ zReleaseS e.outs = true := by
  unfold zWorker at h
  simpa only [Bool.and_eq_true, and_assoc] using h
theorem extWorker {x y : WorkerV} (h0 : x.inbox = y.inbox) (h1 : x.counts = y.counts) (h2 : x.nodes = y.nodes) (h3 : x.epoch = y.epoch) (h4 : x.top = y.top) (h5 : x.outs = y.outs) (h6 : x.bad = y.bad) : x = y := by
  cases x; cases y; simp_all
def bNode (e : NodeV) : Bool := bI e.cells
def bNodeS (l : List NodeV) : Bool := decide (l.length ≤ 1048576) && l.all bNode
theorem bNodeS_len {l : List NodeV} (h : bNodeS l = true) : l.length ≤ 1048576 := by
  unfold bNodeS at h
  simp only [Bool.and_eq_true, decide_eq_true_eq] at h
  exact h.1
theorem bNodeS_nth {l : List NodeV} (h : bNodeS l = true) {i : Nat} (hi : i < l.length) : bNode (nth l i) = true := by
  unfold bNodeS at h
  simp only [Bool.and_eq_true, List.all_eq_true] at h
  exact h.2 _ (nth_mem hi)
theorem bNodeS_of {l : List NodeV} (h : l.length ≤ 1048576) (h2 : ∀ e ∈ l, bNode e = true) : bNodeS l = true := by
  unfold bNodeS
  simp only [Bool.and_eq_true, decide_eq_true_eq, List.all_eq_true]
  exact ⟨h, h2⟩
theorem bNode_p {e : NodeV} (h : bNode e = true) : bI e.cells = true := by
  unfold bNode at h
  simpa only [Bool.and_eq_true, and_assoc] using h
def zNode (e : NodeV) : Bool := zI e.cells
def zNodeS (l : List NodeV) : Bool := decide (l.length ≤ 9223372036854775807) && l.all zNode
theorem zNodeS_len {l : List NodeV} (h : zNodeS l = true) : l.length ≤ 9223372036854775807 := by
  unfold zNodeS at h
  simp only [Bool.and_eq_true, decide_eq_true_eq] at h
  exact h.1
theorem zNodeS_nth {l : List NodeV} (h : zNodeS l = true) {i : Nat} (hi : i < l.length) : zNode (nth l i) = true := by
  unfold zNodeS at h
  simp only [Bool.and_eq_true, List.all_eq_true] at h
  exact h.2 _ (nth_mem hi)
theorem zNodeS_of {l : List NodeV} (h : l.length ≤ 9223372036854775807) (h2 : ∀ e ∈ l, zNode e = true) : zNodeS l = true := by
  unfold zNodeS
  simp only [Bool.and_eq_true, decide_eq_true_eq, List.all_eq_true]
  exact ⟨h, h2⟩
theorem zNode_p {e : NodeV} (h : zNode e = true) : zI e.cells = true := by
  unfold zNode at h
  simpa only [Bool.and_eq_true, and_assoc] using h
theorem extNode {x y : NodeV} (h0 : x.op = y.op) (h1 : x.a = y.a) (h2 : x.b = y.b) (h3 : x.col = y.col) (h4 : x.test = y.test) (h5 : x.value = y.value) (h6 : x.cells = y.cells) : x = y := by
  cases x; cases y; simp_all
def bLink (e : LinkV) : Bool := bFrameS e.frames
def bLinkS (l : List LinkV) : Bool := decide (l.length ≤ 1048576) && l.all bLink
theorem bLinkS_len {l : List LinkV} (h : bLinkS l = true) : l.length ≤ 1048576 := by
  unfold bLinkS at h
  simp only [Bool.and_eq_true, decide_eq_true_eq] at h
  exact h.1
theorem bLinkS_nth {l : List LinkV} (h : bLinkS l = true) {i : Nat} (hi : i < l.length) : bLink (nth l i) = true := by
  unfold bLinkS at h
  simp only [Bool.and_eq_true, List.all_eq_true] at h
  exact h.2 _ (nth_mem hi)
theorem bLinkS_of {l : List LinkV} (h : l.length ≤ 1048576) (h2 : ∀ e ∈ l, bLink e = true) : bLinkS l = true := by
  unfold bLinkS
  simp only [Bool.and_eq_true, decide_eq_true_eq, List.all_eq_true]
  exact ⟨h, h2⟩
theorem bLink_p {e : LinkV} (h : bLink e = true) : bFrameS e.frames = true := by
  unfold bLink at h
  simpa only [Bool.and_eq_true, and_assoc] using h
def zLink (e : LinkV) : Bool := zFrameS e.frames
def zLinkS (l : List LinkV) : Bool := decide (l.length ≤ 9223372036854775807) && l.all zLink
theorem zLinkS_len {l : List LinkV} (h : zLinkS l = true) : l.length ≤ 9223372036854775807 := by
  unfold zLinkS at h
  simp only [Bool.and_eq_true, decide_eq_true_eq] at h
  exact h.1
theorem zLinkS_nth {l : List LinkV} (h : zLinkS l = true) {i : Nat} (hi : i < l.length) : zLink (nth l i) = true := by
  unfold zLinkS at h
  simp only [Bool.and_eq_true, List.all_eq_true] at h
  exact h.2 _ (nth_mem hi)
theorem zLinkS_of {l : List LinkV} (h : l.length ≤ 9223372036854775807) (h2 : ∀ e ∈ l, zLink e = true) : zLinkS l = true := by
  unfold zLinkS
  simp only [Bool.and_eq_true, decide_eq_true_eq, List.all_eq_true]
  exact ⟨h, h2⟩
theorem zLink_p {e : LinkV} (h : zLink e = true) : zFrameS e.frames = true := by
  unfold zLink at h
  simpa only [Bool.and_eq_true, and_assoc] using h
theorem extLink {x y : LinkV} (h0 : x.frames = y.frames) : x = y := by
  cases x; cases y; simp_all
end Go.Proofs.Tryz
