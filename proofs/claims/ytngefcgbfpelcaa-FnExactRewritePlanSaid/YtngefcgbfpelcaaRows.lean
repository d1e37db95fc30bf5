/-
  No cell of these rows narrows 'for every input' (looked for: loops, veiled, ifaces, maps, wideKeys, modest, calm, conditions, laid).
  DERIVED. THE GIVEN ROWS OF THIS SEAT. 6 by the template 'for every input the law returns true; each argument reads behind the call as it read before'; 0 by the template 'total and deterministic' (their statements: YtngefcgbfpelcaaTotals.lean).
  GIVEN WITH THE SEED: the statements are not yours to turn. If you find one false, say at which input.
  Laid BY PROGRAM, IN A SANDBOX (cutbox-rows.mjs): the forced cells as the released guide's own fill.sh prints them over the translation 0748306cf36009fb… (all of the seat's roots in one cut). By AI agents, Wed Nov 11 2026. No macro, syntax, notation, axiom, sorry.
-/
import Derived.Test.YtngefcgbfpelcaaChecked
import GoSem.Claim
import GoSem.ClaimJoined
import GoSem.ClaimMapViews
import Derived.JoinedTies
import Derived.KernelRfl
namespace Go.Proofs.Ytngefcgbfpelcaa
/- THE CELL 'sum', in the pinned program and in every row, IS THE sha256 OF THE DUMP (.gsa) THAT YtngefcgbfpelcaaProg.lean LOADS. Nothing in Lean hashes anything: it is a label: what it is worth is what the hold of that sum in a sandbox is worth. -/
noncomputable def Try.pinned : Pinned := { name := "ytngefcgbfpelcaa", sum := "0748306cf36009fb85ffb9e42b6c14c8dfee751791979e389fea8674509afb0c", checked := Try.checked }
namespace Rows
def none {H : Type} : Left H := { results := [], args := [] }

/-- 'laws.FnExactDeadNodes': WHATEVER THE INPUT: true; the input reads as it did. -/
def fnExactDeadNodesSpec : ChangeSpec := { name := "fnExactDeadNodes", fn := fun _ => fun
  | [d] => { results := [.lit (.bool true)], args := [d] }
  | _ => none }
def fnExactDeadNodesRow : OpenClaim := { program := "ytngefcgbfpelcaa", sum := "0748306cf36009fb85ffb9e42b6c14c8dfee751791979e389fea8674509afb0c", func := "loop.example/g00160/laws.FnExactDeadNodes", spec := "fnExactDeadNodes", unfollowed := true, recurses := true, apart := false }
def FnExactDeadNodesSaid : Prop := fnExactDeadNodesRow.holds Try.pinned (OpenSpec.ofChange fnExactDeadNodesSpec)

/-- ITS FALSE NEIGHBOUR: 'it returns false'. Refute it at one input. -/
def fnExactDeadNodesWrong : ChangeSpec := { name := "fnExactDeadNodes", fn := fun _ => fun
  | [d] => { results := [.lit (.bool false)], args := [d] }
  | _ => none }
def FnExactDeadNodesWrongFalsely : Prop := fnExactDeadNodesRow.holds Try.pinned (OpenSpec.ofChange fnExactDeadNodesWrong)

/-- 'laws.FnExactFoldProjects': WHATEVER THE INPUT: true; the input reads as it did. -/
def fnExactFoldProjectsSpec : ChangeSpec := { name := "fnExactFoldProjects", fn := fun _ => fun
  | [d] => { results := [.lit (.bool true)], args := [d] }
  | _ => none }
def fnExactFoldProjectsRow : OpenClaim := { program := "ytngefcgbfpelcaa", sum := "0748306cf36009fb85ffb9e42b6c14c8dfee751791979e389fea8674509afb0c", func := "loop.example/g00160/laws.FnExactFoldProjects", spec := "fnExactFoldProjects", unfollowed := true, recurses := true, apart := false }
def FnExactFoldProjectsSaid : Prop := fnExactFoldProjectsRow.holds Try.pinned (OpenSpec.ofChange fnExactFoldProjectsSpec)

/-- ITS FALSE NEIGHBOUR: 'it returns false'. Refute it at one input. -/
def fnExactFoldProjectsWrong : ChangeSpec := { name := "fnExactFoldProjects", fn := fun _ => fun
  | [d] => { results := [.lit (.bool false)], args := [d] }
  | _ => none }
def FnExactFoldProjectsWrongFalsely : Prop := fnExactFoldProjectsRow.holds Try.pinned (OpenSpec.ofChange fnExactFoldProjectsWrong)

/-- 'laws.FnExactDropDoubles': WHATEVER THE INPUT: true; the input reads as it did. -/
def fnExactDropDoublesSpec : ChangeSpec := { name := "fnExactDropDoubles", fn := fun _ => fun
  | [d] => { results := [.lit (.bool true)], args := [d] }
  | _ => none }
def fnExactDropDoublesRow : OpenClaim := { program := "ytngefcgbfpelcaa", sum := "0748306cf36009fb85ffb9e42b6c14c8dfee751791979e389fea8674509afb0c", func := "loop.example/g00160/laws.FnExactDropDoubles", spec := "fnExactDropDoubles", unfollowed := true, recurses := true, apart := false }
def FnExactDropDoublesSaid : Prop := fnExactDropDoublesRow.holds Try.pinned (OpenSpec.ofChange fnExactDropDoublesSpec)

/-- ITS FALSE NEIGHBOUR: 'it returns false'. Refute it at one input. -/
def fnExactDropDoublesWrong : ChangeSpec := { name := "fnExactDropDoubles", fn := fun _ => fun
  | [d] => { results := [.lit (.bool false)], args := [d] }
  | _ => none }
def FnExactDropDoublesWrongFalsely : Prop := fnExactDropDoublesRow.holds Try.pinned (OpenSpec.ofChange fnExactDropDoublesWrong)

/-- 'laws.FnExactPushFilters': WHATEVER THE INPUT: true; the input reads as it did. -/
def fnExactPushFiltersSpec : ChangeSpec := { name := "fnExactPushFilters", fn := fun _ => fun
  | [d] => { results := [.lit (.bool true)], args := [d] }
  | _ => none }
def fnExactPushFiltersRow : OpenClaim := { program := "ytngefcgbfpelcaa", sum := "0748306cf36009fb85ffb9e42b6c14c8dfee751791979e389fea8674509afb0c", func := "loop.example/g00160/laws.FnExactPushFilters", spec := "fnExactPushFilters", unfollowed := true, recurses := true, apart := false }
def FnExactPushFiltersSaid : Prop := fnExactPushFiltersRow.holds Try.pinned (OpenSpec.ofChange fnExactPushFiltersSpec)

/-- ITS FALSE NEIGHBOUR: 'it returns false'. Refute it at one input. -/
def fnExactPushFiltersWrong : ChangeSpec := { name := "fnExactPushFilters", fn := fun _ => fun
  | [d] => { results := [.lit (.bool false)], args := [d] }
  | _ => none }
def FnExactPushFiltersWrongFalsely : Prop := fnExactPushFiltersRow.holds Try.pinned (OpenSpec.ofChange fnExactPushFiltersWrong)

/-- 'laws.FnExactPrunePlan': WHATEVER THE INPUT: true; the input reads as it did. -/
def fnExactPrunePlanSpec : ChangeSpec := { name := "fnExactPrunePlan", fn := fun _ => fun
  | [d] => { results := [.lit (.bool true)], args := [d] }
  | _ => none }
def fnExactPrunePlanRow : OpenClaim := { program := "ytngefcgbfpelcaa", sum := "0748306cf36009fb85ffb9e42b6c14c8dfee751791979e389fea8674509afb0c", func := "loop.example/g00160/laws.FnExactPrunePlan", spec := "fnExactPrunePlan", unfollowed := true, recurses := true, apart := false }
def FnExactPrunePlanSaid : Prop := fnExactPrunePlanRow.holds Try.pinned (OpenSpec.ofChange fnExactPrunePlanSpec)

/-- ITS FALSE NEIGHBOUR: 'it returns false'. Refute it at one input. -/
def fnExactPrunePlanWrong : ChangeSpec := { name := "fnExactPrunePlan", fn := fun _ => fun
  | [d] => { results := [.lit (.bool false)], args := [d] }
  | _ => none }
def FnExactPrunePlanWrongFalsely : Prop := fnExactPrunePlanRow.holds Try.pinned (OpenSpec.ofChange fnExactPrunePlanWrong)

/-- 'laws.FnExactRewritePlan': WHATEVER THE INPUT: true; the input reads as it did. -/
def fnExactRewritePlanSpec : ChangeSpec := { name := "fnExactRewritePlan", fn := fun _ => fun
  | [d] => { results := [.lit (.bool true)], args := [d] }
  | _ => none }
def fnExactRewritePlanRow : OpenClaim := { program := "ytngefcgbfpelcaa", sum := "0748306cf36009fb85ffb9e42b6c14c8dfee751791979e389fea8674509afb0c", func := "loop.example/g00160/laws.FnExactRewritePlan", spec := "fnExactRewritePlan", unfollowed := true, recurses := true, apart := false }
def FnExactRewritePlanSaid : Prop := fnExactRewritePlanRow.holds Try.pinned (OpenSpec.ofChange fnExactRewritePlanSpec)

/-- ITS FALSE NEIGHBOUR: 'it returns false'. Refute it at one input. -/
def fnExactRewritePlanWrong : ChangeSpec := { name := "fnExactRewritePlan", fn := fun _ => fun
  | [d] => { results := [.lit (.bool false)], args := [d] }
  | _ => none }
def FnExactRewritePlanWrongFalsely : Prop := fnExactRewritePlanRow.holds Try.pinned (OpenSpec.ofChange fnExactRewritePlanWrong)

/- THE SECOND FORM. 'bulk': how many values and letters a reading holds, each counted each time it is reached (what is shared counts as often as it is met; a slice's spare places count too). A statement '..UptoSaid' is the law's where the arguments, and the package variables that the reading takes, are together of bulk at most 1048576: NARROWER than '..Said'. Prove '..Said' where nothing that the law and all that it calls make is longer than what came in: it says more and counts as full. Else prove '..UptoSaid'. A law counts once. -/
mutual
def uptoBulk {H : Type} : DataW H → Nat
  | .lit (.string bytes) => bytes.length + 1
  | .lit _ => 1
  | .nil => 1
  | .ptr d => uptoBulk d + 1
  | .slice elems spare => uptoBulkAll elems + uptoBulkAll spare + 1
  | .agg parts => uptoBulkAll parts + 1
  | .iface _ d => uptoBulk d + 1
  | .map entries => uptoBulkEntries entries + 1
  | .held _ => 1
def uptoBulkAll {H : Type} : List (DataW H) → Nat
  | [] => 0
  | d :: r => uptoBulk d + uptoBulkAll r
def uptoBulkEntries {H : Type} : List (Lit × DataW H) → Nat
  | [] => 0
  | x :: r => uptoBulkEntry x + uptoBulkEntries r
def uptoBulkEntry {H : Type} : Lit × DataW H → Nat
  | (.string bytes, d) => bytes.length + uptoBulk d + 1
  | (_, d) => uptoBulk d + 1
 end
def uptoSmall : (H : Type) → List (DataW H) → Bool := fun _ ds => decide (uptoBulkAll ds ≤ 1048576)
def OpenSpec.upto (s : _root_.Go.ChangeSpec) : _root_.Go.OpenSpec := { _root_.Go.OpenSpec.ofChange s with cond := some uptoSmall }

/-- 'laws.FnExactDeadNodes', WHERE WHAT IT READS IS OF BULK AT MOST 1048576: true; the input reads as it did. -/
def fnExactDeadNodesUptoRow : OpenClaim := { program := "ytngefcgbfpelcaa", sum := "0748306cf36009fb85ffb9e42b6c14c8dfee751791979e389fea8674509afb0c", func := "loop.example/g00160/laws.FnExactDeadNodes", spec := "fnExactDeadNodes", unfollowed := true, recurses := true, apart := false, narrowed := true }
def FnExactDeadNodesUptoSaid : Prop := fnExactDeadNodesUptoRow.holds Try.pinned (OpenSpec.upto fnExactDeadNodesSpec)

/-- 'laws.FnExactFoldProjects', WHERE WHAT IT READS IS OF BULK AT MOST 1048576: true; the input reads as it did. -/
def fnExactFoldProjectsUptoRow : OpenClaim := { program := "ytngefcgbfpelcaa", sum := "0748306cf36009fb85ffb9e42b6c14c8dfee751791979e389fea8674509afb0c", func := "loop.example/g00160/laws.FnExactFoldProjects", spec := "fnExactFoldProjects", unfollowed := true, recurses := true, apart := false, narrowed := true }
def FnExactFoldProjectsUptoSaid : Prop := fnExactFoldProjectsUptoRow.holds Try.pinned (OpenSpec.upto fnExactFoldProjectsSpec)

/-- 'laws.FnExactDropDoubles', WHERE WHAT IT READS IS OF BULK AT MOST 1048576: true; the input reads as it did. -/
def fnExactDropDoublesUptoRow : OpenClaim := { program := "ytngefcgbfpelcaa", sum := "0748306cf36009fb85ffb9e42b6c14c8dfee751791979e389fea8674509afb0c", func := "loop.example/g00160/laws.FnExactDropDoubles", spec := "fnExactDropDoubles", unfollowed := true, recurses := true, apart := false, narrowed := true }
def FnExactDropDoublesUptoSaid : Prop := fnExactDropDoublesUptoRow.holds Try.pinned (OpenSpec.upto fnExactDropDoublesSpec)

/-- 'laws.FnExactPushFilters', WHERE WHAT IT READS IS OF BULK AT MOST 1048576: true; the input reads as it did. -/
def fnExactPushFiltersUptoRow : OpenClaim := { program := "ytngefcgbfpelcaa", sum := "0748306cf36009fb85ffb9e42b6c14c8dfee751791979e389fea8674509afb0c", func := "loop.example/g00160/laws.FnExactPushFilters", spec := "fnExactPushFilters", unfollowed := true, recurses := true, apart := false, narrowed := true }
def FnExactPushFiltersUptoSaid : Prop := fnExactPushFiltersUptoRow.holds Try.pinned (OpenSpec.upto fnExactPushFiltersSpec)

/-- 'laws.FnExactPrunePlan', WHERE WHAT IT READS IS OF BULK AT MOST 1048576: true; the input reads as it did. -/
def fnExactPrunePlanUptoRow : OpenClaim := { program := "ytngefcgbfpelcaa", sum := "0748306cf36009fb85ffb9e42b6c14c8dfee751791979e389fea8674509afb0c", func := "loop.example/g00160/laws.FnExactPrunePlan", spec := "fnExactPrunePlan", unfollowed := true, recurses := true, apart := false, narrowed := true }
def FnExactPrunePlanUptoSaid : Prop := fnExactPrunePlanUptoRow.holds Try.pinned (OpenSpec.upto fnExactPrunePlanSpec)

/-- 'laws.FnExactRewritePlan', WHERE WHAT IT READS IS OF BULK AT MOST 1048576: true; the input reads as it did. -/
def fnExactRewritePlanUptoRow : OpenClaim := { program := "ytngefcgbfpelcaa", sum := "0748306cf36009fb85ffb9e42b6c14c8dfee751791979e389fea8674509afb0c", func := "loop.example/g00160/laws.FnExactRewritePlan", spec := "fnExactRewritePlan", unfollowed := true, recurses := true, apart := false, narrowed := true }
def FnExactRewritePlanUptoSaid : Prop := fnExactRewritePlanUptoRow.holds Try.pinned (OpenSpec.upto fnExactRewritePlanSpec)

end Rows
end Go.Proofs.Ytngefcgbfpelcaa
