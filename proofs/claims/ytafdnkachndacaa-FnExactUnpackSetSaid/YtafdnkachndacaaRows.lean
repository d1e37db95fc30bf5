/-
  No cell of these rows narrows 'for every input' (looked for: loops, veiled, ifaces, maps, wideKeys, modest, calm, conditions, laid).
  DERIVED. THE GIVEN ROWS OF THIS SEAT. 14 by the template 'for every input the law returns true; each argument reads behind the call as it read before'; 0 by the template 'total and deterministic' (their statements: YtafdnkachndacaaTotals.lean).
  GIVEN WITH THE SEED: the statements are not yours to turn. If you find one false, say at which input.
  Laid BY PROGRAM, IN A SANDBOX (cutbox-rows.mjs): the forced cells as the released guide's own fill.sh prints them over the translation af6440803d1f0672… (all of the seat's roots in one cut). By AI agents, Wed Nov 11 2026. No macro, syntax, notation, axiom, sorry.
-/
import Derived.Test.YtafdnkachndacaaChecked
import GoSem.Claim
import GoSem.ClaimJoined
import GoSem.ClaimMapViews
import Derived.JoinedTies
import Derived.KernelRfl
namespace Go.Proofs.Ytafdnkachndacaa
/- THE CELL 'sum', in the pinned program and in every row, IS THE sha256 OF THE DUMP (.gsa) THAT YtafdnkachndacaaProg.lean LOADS. Nothing in Lean hashes anything: it is a label: what it is worth is what the hold of that sum in a sandbox is worth. -/
noncomputable def Try.pinned : Pinned := { name := "ytafdnkachndacaa", sum := "af6440803d1f0672dfebf4acc7e1b0e647f2ef54a42005bde82516e466dace08", checked := Try.checked }
namespace Rows
def none {H : Type} : Left H := { results := [], args := [] }

/-- 'laws.FnExactPutsFault': WHATEVER THE INPUT: true; the input reads as it did. -/
def fnExactPutsFaultSpec : ChangeSpec := { name := "fnExactPutsFault", fn := fun _ => fun
  | [d1, d2] => { results := [.lit (.bool true)], args := [d1, d2] }
  | _ => none }
def fnExactPutsFaultRow : OpenClaim := { program := "ytafdnkachndacaa", sum := "af6440803d1f0672dfebf4acc7e1b0e647f2ef54a42005bde82516e466dace08", func := "loop.example/g00160/laws.FnExactPutsFault", spec := "fnExactPutsFault", recurses := true, apart := false }
def FnExactPutsFaultSaid : Prop := fnExactPutsFaultRow.holds Try.pinned (OpenSpec.ofChange fnExactPutsFaultSpec)

/-- ITS FALSE NEIGHBOUR: 'it returns false'. Refute it at one input. -/
def fnExactPutsFaultWrong : ChangeSpec := { name := "fnExactPutsFault", fn := fun _ => fun
  | [d1, d2] => { results := [.lit (.bool false)], args := [d1, d2] }
  | _ => none }
def FnExactPutsFaultWrongFalsely : Prop := fnExactPutsFaultRow.holds Try.pinned (OpenSpec.ofChange fnExactPutsFaultWrong)

/-- 'laws.FnExactSkewOf': WHATEVER THE INPUT: true; the input reads as it did. -/
def fnExactSkewOfSpec : ChangeSpec := { name := "fnExactSkewOf", fn := fun _ => fun
  | [d1, d2, d3] => { results := [.lit (.bool true)], args := [d1, d2, d3] }
  | _ => none }
def fnExactSkewOfRow : OpenClaim := { program := "ytafdnkachndacaa", sum := "af6440803d1f0672dfebf4acc7e1b0e647f2ef54a42005bde82516e466dace08", func := "loop.example/g00160/laws.FnExactSkewOf", spec := "fnExactSkewOf", unfollowed := true, recurses := true, apart := false }
def FnExactSkewOfSaid : Prop := fnExactSkewOfRow.holds Try.pinned (OpenSpec.ofChange fnExactSkewOfSpec)

/-- ITS FALSE NEIGHBOUR: 'it returns false'. Refute it at one input. -/
def fnExactSkewOfWrong : ChangeSpec := { name := "fnExactSkewOf", fn := fun _ => fun
  | [d1, d2, d3] => { results := [.lit (.bool false)], args := [d1, d2, d3] }
  | _ => none }
def FnExactSkewOfWrongFalsely : Prop := fnExactSkewOfRow.holds Try.pinned (OpenSpec.ofChange fnExactSkewOfWrong)

/-- 'laws.FnExactDeadNodes': WHATEVER THE INPUT: true; the input reads as it did. -/
def fnExactDeadNodesSpec : ChangeSpec := { name := "fnExactDeadNodes", fn := fun _ => fun
  | [d] => { results := [.lit (.bool true)], args := [d] }
  | _ => none }
def fnExactDeadNodesRow : OpenClaim := { program := "ytafdnkachndacaa", sum := "af6440803d1f0672dfebf4acc7e1b0e647f2ef54a42005bde82516e466dace08", func := "loop.example/g00160/laws.FnExactDeadNodes", spec := "fnExactDeadNodes", unfollowed := true, recurses := true, apart := false }
def FnExactDeadNodesSaid : Prop := fnExactDeadNodesRow.holds Try.pinned (OpenSpec.ofChange fnExactDeadNodesSpec)

/-- ITS FALSE NEIGHBOUR: 'it returns false'. Refute it at one input. -/
def fnExactDeadNodesWrong : ChangeSpec := { name := "fnExactDeadNodes", fn := fun _ => fun
  | [d] => { results := [.lit (.bool false)], args := [d] }
  | _ => none }
def FnExactDeadNodesWrongFalsely : Prop := fnExactDeadNodesRow.holds Try.pinned (OpenSpec.ofChange fnExactDeadNodesWrong)

/-- 'laws.FnExactHotKeys': WHATEVER THE INPUT: true; the input reads as it did. -/
def fnExactHotKeysSpec : ChangeSpec := { name := "fnExactHotKeys", fn := fun _ => fun
  | [d1, d2, d3] => { results := [.lit (.bool true)], args := [d1, d2, d3] }
  | _ => none }
def fnExactHotKeysRow : OpenClaim := { program := "ytafdnkachndacaa", sum := "af6440803d1f0672dfebf4acc7e1b0e647f2ef54a42005bde82516e466dace08", func := "loop.example/g00160/laws.FnExactHotKeys", spec := "fnExactHotKeys", unfollowed := true, recurses := true, apart := false }
def FnExactHotKeysSaid : Prop := fnExactHotKeysRow.holds Try.pinned (OpenSpec.ofChange fnExactHotKeysSpec)

/-- ITS FALSE NEIGHBOUR: 'it returns false'. Refute it at one input. -/
def fnExactHotKeysWrong : ChangeSpec := { name := "fnExactHotKeys", fn := fun _ => fun
  | [d1, d2, d3] => { results := [.lit (.bool false)], args := [d1, d2, d3] }
  | _ => none }
def FnExactHotKeysWrongFalsely : Prop := fnExactHotKeysRow.holds Try.pinned (OpenSpec.ofChange fnExactHotKeysWrong)

/-- 'laws.FnExactPackNews': WHATEVER THE INPUT: true; the input reads as it did. -/
def fnExactPackNewsSpec : ChangeSpec := { name := "fnExactPackNews", fn := fun _ => fun
  | [d] => { results := [.lit (.bool true)], args := [d] }
  | _ => none }
def fnExactPackNewsRow : OpenClaim := { program := "ytafdnkachndacaa", sum := "af6440803d1f0672dfebf4acc7e1b0e647f2ef54a42005bde82516e466dace08", func := "loop.example/g00160/laws.FnExactPackNews", spec := "fnExactPackNews", apart := false }
def FnExactPackNewsSaid : Prop := fnExactPackNewsRow.holds Try.pinned (OpenSpec.ofChange fnExactPackNewsSpec)

/-- ITS FALSE NEIGHBOUR: 'it returns false'. Refute it at one input. -/
def fnExactPackNewsWrong : ChangeSpec := { name := "fnExactPackNews", fn := fun _ => fun
  | [d] => { results := [.lit (.bool false)], args := [d] }
  | _ => none }
def FnExactPackNewsWrongFalsely : Prop := fnExactPackNewsRow.holds Try.pinned (OpenSpec.ofChange fnExactPackNewsWrong)

/-- 'laws.FnExactUnpackNews': WHATEVER THE INPUT: true; the input reads as it did. -/
def fnExactUnpackNewsSpec : ChangeSpec := { name := "fnExactUnpackNews", fn := fun _ => fun
  | [d] => { results := [.lit (.bool true)], args := [d] }
  | _ => none }
def fnExactUnpackNewsRow : OpenClaim := { program := "ytafdnkachndacaa", sum := "af6440803d1f0672dfebf4acc7e1b0e647f2ef54a42005bde82516e466dace08", func := "loop.example/g00160/laws.FnExactUnpackNews", spec := "fnExactUnpackNews", apart := false }
def FnExactUnpackNewsSaid : Prop := fnExactUnpackNewsRow.holds Try.pinned (OpenSpec.ofChange fnExactUnpackNewsSpec)

/-- ITS FALSE NEIGHBOUR: 'it returns false'. Refute it at one input. -/
def fnExactUnpackNewsWrong : ChangeSpec := { name := "fnExactUnpackNews", fn := fun _ => fun
  | [d] => { results := [.lit (.bool false)], args := [d] }
  | _ => none }
def FnExactUnpackNewsWrongFalsely : Prop := fnExactUnpackNewsRow.holds Try.pinned (OpenSpec.ofChange fnExactUnpackNewsWrong)

/-- 'laws.FnExactPackSet': WHATEVER THE INPUT: true; the input reads as it did. -/
def fnExactPackSetSpec : ChangeSpec := { name := "fnExactPackSet", fn := fun _ => fun
  | [d] => { results := [.lit (.bool true)], args := [d] }
  | _ => none }
def fnExactPackSetRow : OpenClaim := { program := "ytafdnkachndacaa", sum := "af6440803d1f0672dfebf4acc7e1b0e647f2ef54a42005bde82516e466dace08", func := "loop.example/g00160/laws.FnExactPackSet", spec := "fnExactPackSet", apart := false }
def FnExactPackSetSaid : Prop := fnExactPackSetRow.holds Try.pinned (OpenSpec.ofChange fnExactPackSetSpec)

/-- ITS FALSE NEIGHBOUR: 'it returns false'. Refute it at one input. -/
def fnExactPackSetWrong : ChangeSpec := { name := "fnExactPackSet", fn := fun _ => fun
  | [d] => { results := [.lit (.bool false)], args := [d] }
  | _ => none }
def FnExactPackSetWrongFalsely : Prop := fnExactPackSetRow.holds Try.pinned (OpenSpec.ofChange fnExactPackSetWrong)

/-- 'laws.FnExactUnpackSet': WHATEVER THE INPUT: true; the input reads as it did. -/
def fnExactUnpackSetSpec : ChangeSpec := { name := "fnExactUnpackSet", fn := fun _ => fun
  | [d] => { results := [.lit (.bool true)], args := [d] }
  | _ => none }
def fnExactUnpackSetRow : OpenClaim := { program := "ytafdnkachndacaa", sum := "af6440803d1f0672dfebf4acc7e1b0e647f2ef54a42005bde82516e466dace08", func := "loop.example/g00160/laws.FnExactUnpackSet", spec := "fnExactUnpackSet", apart := false }
def FnExactUnpackSetSaid : Prop := fnExactUnpackSetRow.holds Try.pinned (OpenSpec.ofChange fnExactUnpackSetSpec)

/-- ITS FALSE NEIGHBOUR: 'it returns false'. Refute it at one input. -/
def fnExactUnpackSetWrong : ChangeSpec := { name := "fnExactUnpackSet", fn := fun _ => fun
  | [d] => { results := [.lit (.bool false)], args := [d] }
  | _ => none }
def FnExactUnpackSetWrongFalsely : Prop := fnExactUnpackSetRow.holds Try.pinned (OpenSpec.ofChange fnExactUnpackSetWrong)

/-- 'laws.FnExactFoldProjects': WHATEVER THE INPUT: true; the input reads as it did. -/
def fnExactFoldProjectsSpec : ChangeSpec := { name := "fnExactFoldProjects", fn := fun _ => fun
  | [d] => { results := [.lit (.bool true)], args := [d] }
  | _ => none }
def fnExactFoldProjectsRow : OpenClaim := { program := "ytafdnkachndacaa", sum := "af6440803d1f0672dfebf4acc7e1b0e647f2ef54a42005bde82516e466dace08", func := "loop.example/g00160/laws.FnExactFoldProjects", spec := "fnExactFoldProjects", unfollowed := true, recurses := true, apart := false }
def FnExactFoldProjectsSaid : Prop := fnExactFoldProjectsRow.holds Try.pinned (OpenSpec.ofChange fnExactFoldProjectsSpec)

/-- ITS FALSE NEIGHBOUR: 'it returns false'. Refute it at one input. -/
def fnExactFoldProjectsWrong : ChangeSpec := { name := "fnExactFoldProjects", fn := fun _ => fun
  | [d] => { results := [.lit (.bool false)], args := [d] }
  | _ => none }
def FnExactFoldProjectsWrongFalsely : Prop := fnExactFoldProjectsRow.holds Try.pinned (OpenSpec.ofChange fnExactFoldProjectsWrong)

/-- 'laws.FnExactDropDoubles': WHATEVER THE INPUT: true; the input reads as it did. -/
def fnExactDropDoublesSpec : ChangeSpec := { name := "fnExactDropDoubles", fn := fun _ => fun
  | [d] => { results := [.lit (.bool true)], args := [d] }
  | _ => none }
def fnExactDropDoublesRow : OpenClaim := { program := "ytafdnkachndacaa", sum := "af6440803d1f0672dfebf4acc7e1b0e647f2ef54a42005bde82516e466dace08", func := "loop.example/g00160/laws.FnExactDropDoubles", spec := "fnExactDropDoubles", unfollowed := true, recurses := true, apart := false }
def FnExactDropDoublesSaid : Prop := fnExactDropDoublesRow.holds Try.pinned (OpenSpec.ofChange fnExactDropDoublesSpec)

/-- ITS FALSE NEIGHBOUR: 'it returns false'. Refute it at one input. -/
def fnExactDropDoublesWrong : ChangeSpec := { name := "fnExactDropDoubles", fn := fun _ => fun
  | [d] => { results := [.lit (.bool false)], args := [d] }
  | _ => none }
def FnExactDropDoublesWrongFalsely : Prop := fnExactDropDoublesRow.holds Try.pinned (OpenSpec.ofChange fnExactDropDoublesWrong)

/-- 'laws.FnExactPushFilters': WHATEVER THE INPUT: true; the input reads as it did. -/
def fnExactPushFiltersSpec : ChangeSpec := { name := "fnExactPushFilters", fn := fun _ => fun
  | [d] => { results := [.lit (.bool true)], args := [d] }
  | _ => none }
def fnExactPushFiltersRow : OpenClaim := { program := "ytafdnkachndacaa", sum := "af6440803d1f0672dfebf4acc7e1b0e647f2ef54a42005bde82516e466dace08", func := "loop.example/g00160/laws.FnExactPushFilters", spec := "fnExactPushFilters", unfollowed := true, recurses := true, apart := false }
def FnExactPushFiltersSaid : Prop := fnExactPushFiltersRow.holds Try.pinned (OpenSpec.ofChange fnExactPushFiltersSpec)

/-- ITS FALSE NEIGHBOUR: 'it returns false'. Refute it at one input. -/
def fnExactPushFiltersWrong : ChangeSpec := { name := "fnExactPushFilters", fn := fun _ => fun
  | [d] => { results := [.lit (.bool false)], args := [d] }
  | _ => none }
def FnExactPushFiltersWrongFalsely : Prop := fnExactPushFiltersRow.holds Try.pinned (OpenSpec.ofChange fnExactPushFiltersWrong)

/-- 'laws.FnExactPrunePlan': WHATEVER THE INPUT: true; the input reads as it did. -/
def fnExactPrunePlanSpec : ChangeSpec := { name := "fnExactPrunePlan", fn := fun _ => fun
  | [d] => { results := [.lit (.bool true)], args := [d] }
  | _ => none }
def fnExactPrunePlanRow : OpenClaim := { program := "ytafdnkachndacaa", sum := "af6440803d1f0672dfebf4acc7e1b0e647f2ef54a42005bde82516e466dace08", func := "loop.example/g00160/laws.FnExactPrunePlan", spec := "fnExactPrunePlan", unfollowed := true, recurses := true, apart := false }
def FnExactPrunePlanSaid : Prop := fnExactPrunePlanRow.holds Try.pinned (OpenSpec.ofChange fnExactPrunePlanSpec)

/-- ITS FALSE NEIGHBOUR: 'it returns false'. Refute it at one input. -/
def fnExactPrunePlanWrong : ChangeSpec := { name := "fnExactPrunePlan", fn := fun _ => fun
  | [d] => { results := [.lit (.bool false)], args := [d] }
  | _ => none }
def FnExactPrunePlanWrongFalsely : Prop := fnExactPrunePlanRow.holds Try.pinned (OpenSpec.ofChange fnExactPrunePlanWrong)

/-- 'laws.FnLoads': WHATEVER THE INPUT: true; the input reads as it did. -/
def fnLoadsSpec : ChangeSpec := { name := "fnLoads", fn := fun _ => fun
  | [d] => { results := [.lit (.bool true)], args := [d] }
  | _ => none }
def fnLoadsRow : OpenClaim := { program := "ytafdnkachndacaa", sum := "af6440803d1f0672dfebf4acc7e1b0e647f2ef54a42005bde82516e466dace08", func := "loop.example/g00160/laws.FnLoads", spec := "fnLoads", unfollowed := true, recurses := true, apart := false }
def FnLoadsSaid : Prop := fnLoadsRow.holds Try.pinned (OpenSpec.ofChange fnLoadsSpec)

/-- ITS FALSE NEIGHBOUR: 'it returns false'. Refute it at one input. -/
def fnLoadsWrong : ChangeSpec := { name := "fnLoads", fn := fun _ => fun
  | [d] => { results := [.lit (.bool false)], args := [d] }
  | _ => none }
def FnLoadsWrongFalsely : Prop := fnLoadsRow.holds Try.pinned (OpenSpec.ofChange fnLoadsWrong)

/-- 'laws.FnWires': WHATEVER THE INPUT: true; the input reads as it did. -/
def fnWiresSpec : ChangeSpec := { name := "fnWires", fn := fun _ => fun
  | [d] => { results := [.lit (.bool true)], args := [d] }
  | _ => none }
def fnWiresRow : OpenClaim := { program := "ytafdnkachndacaa", sum := "af6440803d1f0672dfebf4acc7e1b0e647f2ef54a42005bde82516e466dace08", func := "loop.example/g00160/laws.FnWires", spec := "fnWires", unfollowed := true, recurses := true, apart := false }
def FnWiresSaid : Prop := fnWiresRow.holds Try.pinned (OpenSpec.ofChange fnWiresSpec)

/-- ITS FALSE NEIGHBOUR: 'it returns false'. Refute it at one input. -/
def fnWiresWrong : ChangeSpec := { name := "fnWires", fn := fun _ => fun
  | [d] => { results := [.lit (.bool false)], args := [d] }
  | _ => none }
def FnWiresWrongFalsely : Prop := fnWiresRow.holds Try.pinned (OpenSpec.ofChange fnWiresWrong)

/- THE SECOND FORM. 'bulk': how many values and letters a reading holds, each counted each time it is reached (what is shared counts as often as it is met; a slice's spare places count too). A statement '..UptoSaid' is the law's where the arguments, and the package variables that the reading takes, are together of bulk at most 1048576: NARROWER than '..Said'. Prove '..Said' where nothing that the law and all that it calls make is longer than what came in: it says more and counts as full. Else prove '..UptoSaid'. A law counts once. -/
mutual
def uptoBulk {H : Type} : DataW H → Nat
  | .lit (.string bytes) => bytes.length + 1
  | .lit _ => 1
  | .nil => 1
  | .ptr d => uptoBulk d + 1
  | .slice elems spare => uptoBulkAll elems + uptoBulkAll spare + 1
  | .agg parts => uptoBulkAll parts + 1
  | .iface _ d => uptoBulk d + 1
  | .map entries => uptoBulkEntries entries + 1
  | .held _ => 1
def uptoBulkAll {H : Type} : List (DataW H) → Nat
  | [] => 0
  | d :: r => uptoBulk d + uptoBulkAll r
def uptoBulkEntries {H : Type} : List (Lit × DataW H) → Nat
  | [] => 0
  | x :: r => uptoBulkEntry x + uptoBulkEntries r
def uptoBulkEntry {H : Type} : Lit × DataW H → Nat
  | (.string bytes, d) => bytes.length + uptoBulk d + 1
  | (_, d) => uptoBulk d + 1
 end
def uptoSmall : (H : Type) → List (DataW H) → Bool := fun _ ds => decide (uptoBulkAll ds ≤ 1048576)
def OpenSpec.upto (s : _root_.Go.ChangeSpec) : _root_.Go.OpenSpec := { _root_.Go.OpenSpec.ofChange s with cond := some uptoSmall }

/-- 'laws.FnExactPutsFault', WHERE WHAT IT READS IS OF BULK AT MOST 1048576: true; the input reads as it did. -/
def fnExactPutsFaultUptoRow : OpenClaim := { program := "ytafdnkachndacaa", sum := "af6440803d1f0672dfebf4acc7e1b0e647f2ef54a42005bde82516e466dace08", func := "loop.example/g00160/laws.FnExactPutsFault", spec := "fnExactPutsFault", recurses := true, apart := false, narrowed := true }
def FnExactPutsFaultUptoSaid : Prop := fnExactPutsFaultUptoRow.holds Try.pinned (OpenSpec.upto fnExactPutsFaultSpec)

/-- 'laws.FnExactSkewOf', WHERE WHAT IT READS IS OF BULK AT MOST 1048576: true; the input reads as it did. -/
def fnExactSkewOfUptoRow : OpenClaim := { program := "ytafdnkachndacaa", sum := "af6440803d1f0672dfebf4acc7e1b0e647f2ef54a42005bde82516e466dace08", func := "loop.example/g00160/laws.FnExactSkewOf", spec := "fnExactSkewOf", unfollowed := true, recurses := true, apart := false, narrowed := true }
def FnExactSkewOfUptoSaid : Prop := fnExactSkewOfUptoRow.holds Try.pinned (OpenSpec.upto fnExactSkewOfSpec)

/-- 'laws.FnExactDeadNodes', WHERE WHAT IT READS IS OF BULK AT MOST 1048576: true; the input reads as it did. -/
def fnExactDeadNodesUptoRow : OpenClaim := { program := "ytafdnkachndacaa", sum := "af6440803d1f0672dfebf4acc7e1b0e647f2ef54a42005bde82516e466dace08", func := "loop.example/g00160/laws.FnExactDeadNodes", spec := "fnExactDeadNodes", unfollowed := true, recurses := true, apart := false, narrowed := true }
def FnExactDeadNodesUptoSaid : Prop := fnExactDeadNodesUptoRow.holds Try.pinned (OpenSpec.upto fnExactDeadNodesSpec)

/-- 'laws.FnExactHotKeys', WHERE WHAT IT READS IS OF BULK AT MOST 1048576: true; the input reads as it did. -/
def fnExactHotKeysUptoRow : OpenClaim := { program := "ytafdnkachndacaa", sum := "af6440803d1f0672dfebf4acc7e1b0e647f2ef54a42005bde82516e466dace08", func := "loop.example/g00160/laws.FnExactHotKeys", spec := "fnExactHotKeys", unfollowed := true, recurses := true, apart := false, narrowed := true }
def FnExactHotKeysUptoSaid : Prop := fnExactHotKeysUptoRow.holds Try.pinned (OpenSpec.upto fnExactHotKeysSpec)

/-- 'laws.FnExactPackNews', WHERE WHAT IT READS IS OF BULK AT MOST 1048576: true; the input reads as it did. -/
def fnExactPackNewsUptoRow : OpenClaim := { program := "ytafdnkachndacaa", sum := "af6440803d1f0672dfebf4acc7e1b0e647f2ef54a42005bde82516e466dace08", func := "loop.example/g00160/laws.FnExactPackNews", spec := "fnExactPackNews", apart := false, narrowed := true }
def FnExactPackNewsUptoSaid : Prop := fnExactPackNewsUptoRow.holds Try.pinned (OpenSpec.upto fnExactPackNewsSpec)

/-- 'laws.FnExactUnpackNews', WHERE WHAT IT READS IS OF BULK AT MOST 1048576: true; the input reads as it did. -/
def fnExactUnpackNewsUptoRow : OpenClaim := { program := "ytafdnkachndacaa", sum := "af6440803d1f0672dfebf4acc7e1b0e647f2ef54a42005bde82516e466dace08", func := "loop.example/g00160/laws.FnExactUnpackNews", spec := "fnExactUnpackNews", apart := false, narrowed := true }
def FnExactUnpackNewsUptoSaid : Prop := fnExactUnpackNewsUptoRow.holds Try.pinned (OpenSpec.upto fnExactUnpackNewsSpec)

/-- 'laws.FnExactPackSet', WHERE WHAT IT READS IS OF BULK AT MOST 1048576: true; the input reads as it did. -/
def fnExactPackSetUptoRow : OpenClaim := { program := "ytafdnkachndacaa", sum := "af6440803d1f0672dfebf4acc7e1b0e647f2ef54a42005bde82516e466dace08", func := "loop.example/g00160/laws.FnExactPackSet", spec := "fnExactPackSet", apart := false, narrowed := true }
def FnExactPackSetUptoSaid : Prop := fnExactPackSetUptoRow.holds Try.pinned (OpenSpec.upto fnExactPackSetSpec)

/-- 'laws.FnExactUnpackSet', WHERE WHAT IT READS IS OF BULK AT MOST 1048576: true; the input reads as it did. -/
def fnExactUnpackSetUptoRow : OpenClaim := { program := "ytafdnkachndacaa", sum := "af6440803d1f0672dfebf4acc7e1b0e647f2ef54a42005bde82516e466dace08", func := "loop.example/g00160/laws.FnExactUnpackSet", spec := "fnExactUnpackSet", apart := false, narrowed := true }
def FnExactUnpackSetUptoSaid : Prop := fnExactUnpackSetUptoRow.holds Try.pinned (OpenSpec.upto fnExactUnpackSetSpec)

/-- 'laws.FnExactFoldProjects', WHERE WHAT IT READS IS OF BULK AT MOST 1048576: true; the input reads as it did. -/
def fnExactFoldProjectsUptoRow : OpenClaim := { program := "ytafdnkachndacaa", sum := "af6440803d1f0672dfebf4acc7e1b0e647f2ef54a42005bde82516e466dace08", func := "loop.example/g00160/laws.FnExactFoldProjects", spec := "fnExactFoldProjects", unfollowed := true, recurses := true, apart := false, narrowed := true }
def FnExactFoldProjectsUptoSaid : Prop := fnExactFoldProjectsUptoRow.holds Try.pinned (OpenSpec.upto fnExactFoldProjectsSpec)

/-- 'laws.FnExactDropDoubles', WHERE WHAT IT READS IS OF BULK AT MOST 1048576: true; the input reads as it did. -/
def fnExactDropDoublesUptoRow : OpenClaim := { program := "ytafdnkachndacaa", sum := "af6440803d1f0672dfebf4acc7e1b0e647f2ef54a42005bde82516e466dace08", func := "loop.example/g00160/laws.FnExactDropDoubles", spec := "fnExactDropDoubles", unfollowed := true, recurses := true, apart := false, narrowed := true }
def FnExactDropDoublesUptoSaid : Prop := fnExactDropDoublesUptoRow.holds Try.pinned (OpenSpec.upto fnExactDropDoublesSpec)

/-- 'laws.FnExactPushFilters', WHERE WHAT IT READS IS OF BULK AT MOST 1048576: true; the input reads as it did. -/
def fnExactPushFiltersUptoRow : OpenClaim := { program := "ytafdnkachndacaa", sum := "af6440803d1f0672dfebf4acc7e1b0e647f2ef54a42005bde82516e466dace08", func := "loop.example/g00160/laws.FnExactPushFilters", spec := "fnExactPushFilters", unfollowed := true, recurses := true, apart := false, narrowed := true }
def FnExactPushFiltersUptoSaid : Prop := fnExactPushFiltersUptoRow.holds Try.pinned (OpenSpec.upto fnExactPushFiltersSpec)

/-- 'laws.FnExactPrunePlan', WHERE WHAT IT READS IS OF BULK AT MOST 1048576: true; the input reads as it did. -/
def fnExactPrunePlanUptoRow : OpenClaim := { program := "ytafdnkachndacaa", sum := "af6440803d1f0672dfebf4acc7e1b0e647f2ef54a42005bde82516e466dace08", func := "loop.example/g00160/laws.FnExactPrunePlan", spec := "fnExactPrunePlan", unfollowed := true, recurses := true, apart := false, narrowed := true }
def FnExactPrunePlanUptoSaid : Prop := fnExactPrunePlanUptoRow.holds Try.pinned (OpenSpec.upto fnExactPrunePlanSpec)

/-- 'laws.FnLoads', WHERE WHAT IT READS IS OF BULK AT MOST 1048576: true; the input reads as it did. -/
def fnLoadsUptoRow : OpenClaim := { program := "ytafdnkachndacaa", sum := "af6440803d1f0672dfebf4acc7e1b0e647f2ef54a42005bde82516e466dace08", func := "loop.example/g00160/laws.FnLoads", spec := "fnLoads", unfollowed := true, recurses := true, apart := false, narrowed := true }
def FnLoadsUptoSaid : Prop := fnLoadsUptoRow.holds Try.pinned (OpenSpec.upto fnLoadsSpec)

/-- 'laws.FnWires', WHERE WHAT IT READS IS OF BULK AT MOST 1048576: true; the input reads as it did. -/
def fnWiresUptoRow : OpenClaim := { program := "ytafdnkachndacaa", sum := "af6440803d1f0672dfebf4acc7e1b0e647f2ef54a42005bde82516e466dace08", func := "loop.example/g00160/laws.FnWires", spec := "fnWires", unfollowed := true, recurses := true, apart := false, narrowed := true }
def FnWiresUptoSaid : Prop := fnWiresUptoRow.holds Try.pinned (OpenSpec.upto fnWiresSpec)

end Rows
end Go.Proofs.Ytafdnkachndacaa
