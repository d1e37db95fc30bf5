/-
  No cell of these rows narrows 'for every input' (looked for: loops, veiled, ifaces, maps, wideKeys, modest, calm, conditions, laid).
  DERIVED. THE GIVEN ROWS OF THIS SEAT. 7 by the template 'for every input the law returns true; each argument reads behind the call as it read before'; 0 by the template 'total and deterministic' (their statements: YtiieincddkhcdaaGreatTotals.lean).
  GIVEN WITH THE SEED: the statements are not yours to turn. If you find one false, say at which input.
  Laid BY PROGRAM, IN A SANDBOX (cutbox-rows.mjs): the forced cells as the released guide's own fill.sh prints them over the translation ce72a432a6f94144… (all of the seat's roots in one cut). By AI agents, Wed Nov 11 2026. No macro, syntax, notation, axiom, sorry.
-/
import Derived.Test.YtiieincddkhcdaaGreatChecked
import GoSem.Claim
import GoSem.ClaimJoined
import GoSem.ClaimMapViews
import Derived.JoinedTies
import Derived.KernelRfl
namespace Go.Proofs.YtiieincddkhcdaaGreat
/- THE CELL 'sum', in the pinned program and in every row, IS THE sha256 OF THE DUMP (.gsa) THAT YtiieincddkhcdaaGreatProg.lean LOADS. Nothing in Lean hashes anything: it is a label: what it is worth is what the hold of that sum in a sandbox is worth. -/
noncomputable def Tryz.pinned : Pinned := { name := "ytiieincddkhcdaagreat", sum := "ce72a432a6f94144694d2c2b5f3307c6802a7c82abc0f44d570064743237a50d", checked := Tryz.checked }
namespace Rows
def none {H : Type} : Left H := { results := [], args := [] }

/-- 'laws.FnExactWaitsAt': WHATEVER THE INPUT: true; the input reads as it did. -/
def fnExactWaitsAtSpec : ChangeSpec := { name := "fnExactWaitsAt", fn := fun _ => fun
  | [d1, d2] => { results := [.lit (.bool true)], args := [d1, d2] }
  | _ => none }
def fnExactWaitsAtRow : OpenClaim := { program := "ytiieincddkhcdaagreat", sum := "ce72a432a6f94144694d2c2b5f3307c6802a7c82abc0f44d570064743237a50d", func := "loop.example/g00160/laws.FnExactWaitsAt", spec := "fnExactWaitsAt", unfollowed := true, recurses := true, apart := false }
def FnExactWaitsAtSaid : Prop := fnExactWaitsAtRow.holds Tryz.pinned (OpenSpec.ofChange fnExactWaitsAtSpec)

/-- ITS FALSE NEIGHBOUR: 'it returns false'. Refute it at one input. -/
def fnExactWaitsAtWrong : ChangeSpec := { name := "fnExactWaitsAt", fn := fun _ => fun
  | [d1, d2] => { results := [.lit (.bool false)], args := [d1, d2] }
  | _ => none }
def FnExactWaitsAtWrongFalsely : Prop := fnExactWaitsAtRow.holds Tryz.pinned (OpenSpec.ofChange fnExactWaitsAtWrong)

/-- 'laws.FnExactLagOf': WHATEVER THE INPUT: true; the input reads as it did. -/
def fnExactLagOfSpec : ChangeSpec := { name := "fnExactLagOf", fn := fun _ => fun
  | [d1, d2, d3] => { results := [.lit (.bool true)], args := [d1, d2, d3] }
  | _ => none }
def fnExactLagOfRow : OpenClaim := { program := "ytiieincddkhcdaagreat", sum := "ce72a432a6f94144694d2c2b5f3307c6802a7c82abc0f44d570064743237a50d", func := "loop.example/g00160/laws.FnExactLagOf", spec := "fnExactLagOf", unfollowed := true, recurses := true, apart := false }
def FnExactLagOfSaid : Prop := fnExactLagOfRow.holds Tryz.pinned (OpenSpec.ofChange fnExactLagOfSpec)

/-- ITS FALSE NEIGHBOUR: 'it returns false'. Refute it at one input. -/
def fnExactLagOfWrong : ChangeSpec := { name := "fnExactLagOf", fn := fun _ => fun
  | [d1, d2, d3] => { results := [.lit (.bool false)], args := [d1, d2, d3] }
  | _ => none }
def FnExactLagOfWrongFalsely : Prop := fnExactLagOfRow.holds Tryz.pinned (OpenSpec.ofChange fnExactLagOfWrong)

/-- 'laws.FnExactSameOuts': WHATEVER THE INPUT: true; the input reads as it did. -/
def fnExactSameOutsSpec : ChangeSpec := { name := "fnExactSameOuts", fn := fun _ => fun
  | [d1, d2] => { results := [.lit (.bool true)], args := [d1, d2] }
  | _ => none }
def fnExactSameOutsRow : OpenClaim := { program := "ytiieincddkhcdaagreat", sum := "ce72a432a6f94144694d2c2b5f3307c6802a7c82abc0f44d570064743237a50d", func := "loop.example/g00160/laws.FnExactSameOuts", spec := "fnExactSameOuts", unfollowed := true, recurses := true, apart := false }
def FnExactSameOutsSaid : Prop := fnExactSameOutsRow.holds Tryz.pinned (OpenSpec.ofChange fnExactSameOutsSpec)

/-- ITS FALSE NEIGHBOUR: 'it returns false'. Refute it at one input. -/
def fnExactSameOutsWrong : ChangeSpec := { name := "fnExactSameOuts", fn := fun _ => fun
  | [d1, d2] => { results := [.lit (.bool false)], args := [d1, d2] }
  | _ => none }
def FnExactSameOutsWrongFalsely : Prop := fnExactSameOutsRow.holds Tryz.pinned (OpenSpec.ofChange fnExactSameOutsWrong)

/-- 'laws.FnExactBadOf': WHATEVER THE INPUT: true; the input reads as it did. -/
def fnExactBadOfSpec : ChangeSpec := { name := "fnExactBadOf", fn := fun _ => fun
  | [d] => { results := [.lit (.bool true)], args := [d] }
  | _ => none }
def fnExactBadOfRow : OpenClaim := { program := "ytiieincddkhcdaagreat", sum := "ce72a432a6f94144694d2c2b5f3307c6802a7c82abc0f44d570064743237a50d", func := "loop.example/g00160/laws.FnExactBadOf", spec := "fnExactBadOf", unfollowed := true, recurses := true, apart := false }
def FnExactBadOfSaid : Prop := fnExactBadOfRow.holds Tryz.pinned (OpenSpec.ofChange fnExactBadOfSpec)

/-- ITS FALSE NEIGHBOUR: 'it returns false'. Refute it at one input. -/
def fnExactBadOfWrong : ChangeSpec := { name := "fnExactBadOf", fn := fun _ => fun
  | [d] => { results := [.lit (.bool false)], args := [d] }
  | _ => none }
def FnExactBadOfWrongFalsely : Prop := fnExactBadOfRow.holds Tryz.pinned (OpenSpec.ofChange fnExactBadOfWrong)

/-- 'laws.FnExactRowsHeld': WHATEVER THE INPUT: true; the input reads as it did. -/
def fnExactRowsHeldSpec : ChangeSpec := { name := "fnExactRowsHeld", fn := fun _ => fun
  | [d] => { results := [.lit (.bool true)], args := [d] }
  | _ => none }
def fnExactRowsHeldRow : OpenClaim := { program := "ytiieincddkhcdaagreat", sum := "ce72a432a6f94144694d2c2b5f3307c6802a7c82abc0f44d570064743237a50d", func := "loop.example/g00160/laws.FnExactRowsHeld", spec := "fnExactRowsHeld", unfollowed := true, recurses := true, apart := false }
def FnExactRowsHeldSaid : Prop := fnExactRowsHeldRow.holds Tryz.pinned (OpenSpec.ofChange fnExactRowsHeldSpec)

/-- ITS FALSE NEIGHBOUR: 'it returns false'. Refute it at one input. -/
def fnExactRowsHeldWrong : ChangeSpec := { name := "fnExactRowsHeld", fn := fun _ => fun
  | [d] => { results := [.lit (.bool false)], args := [d] }
  | _ => none }
def FnExactRowsHeldWrongFalsely : Prop := fnExactRowsHeldRow.holds Tryz.pinned (OpenSpec.ofChange fnExactRowsHeldWrong)

/-- 'laws.FnExactFullLinks': WHATEVER THE INPUT: true; the input reads as it did. -/
def fnExactFullLinksSpec : ChangeSpec := { name := "fnExactFullLinks", fn := fun _ => fun
  | [d1, d2] => { results := [.lit (.bool true)], args := [d1, d2] }
  | _ => none }
def fnExactFullLinksRow : OpenClaim := { program := "ytiieincddkhcdaagreat", sum := "ce72a432a6f94144694d2c2b5f3307c6802a7c82abc0f44d570064743237a50d", func := "loop.example/g00160/laws.FnExactFullLinks", spec := "fnExactFullLinks", unfollowed := true, recurses := true, apart := false }
def FnExactFullLinksSaid : Prop := fnExactFullLinksRow.holds Tryz.pinned (OpenSpec.ofChange fnExactFullLinksSpec)

/-- ITS FALSE NEIGHBOUR: 'it returns false'. Refute it at one input. -/
def fnExactFullLinksWrong : ChangeSpec := { name := "fnExactFullLinks", fn := fun _ => fun
  | [d1, d2] => { results := [.lit (.bool false)], args := [d1, d2] }
  | _ => none }
def FnExactFullLinksWrongFalsely : Prop := fnExactFullLinksRow.holds Tryz.pinned (OpenSpec.ofChange fnExactFullLinksWrong)

/-- 'laws.FnExactViewAt': WHATEVER THE INPUT: true; the input reads as it did. -/
def fnExactViewAtSpec : ChangeSpec := { name := "fnExactViewAt", fn := fun _ => fun
  | [d1, d2, d3, d4] => { results := [.lit (.bool true)], args := [d1, d2, d3, d4] }
  | _ => none }
def fnExactViewAtRow : OpenClaim := { program := "ytiieincddkhcdaagreat", sum := "ce72a432a6f94144694d2c2b5f3307c6802a7c82abc0f44d570064743237a50d", func := "loop.example/g00160/laws.FnExactViewAt", spec := "fnExactViewAt", unfollowed := true, recurses := true, apart := false }
def FnExactViewAtSaid : Prop := fnExactViewAtRow.holds Tryz.pinned (OpenSpec.ofChange fnExactViewAtSpec)

/-- ITS FALSE NEIGHBOUR: 'it returns false'. Refute it at one input. -/
def fnExactViewAtWrong : ChangeSpec := { name := "fnExactViewAt", fn := fun _ => fun
  | [d1, d2, d3, d4] => { results := [.lit (.bool false)], args := [d1, d2, d3, d4] }
  | _ => none }
def FnExactViewAtWrongFalsely : Prop := fnExactViewAtRow.holds Tryz.pinned (OpenSpec.ofChange fnExactViewAtWrong)

/- THE SECOND FORM. 'bulk': how many values and letters a reading holds, each counted each time it is reached (what is shared counts as often as it is met; a slice's spare places count too). A statement '..UptoSaid' is the law's where the arguments, and the package variables that the reading takes, are together of bulk at most 1048576: NARROWER than '..Said'. Prove '..Said' where nothing that the law and all that it calls make is longer than what came in: it says more and counts as full. Else prove '..UptoSaid'. A law counts once. -/
mutual
def uptoBulk {H : Type} : DataW H → Nat
  | .lit (.string bytes) => bytes.length + 1
  | .lit _ => 1
  | .nil => 1
  | .ptr d => uptoBulk d + 1
  | .slice elems spare => uptoBulkAll elems + uptoBulkAll spare + 1
  | .agg parts => uptoBulkAll parts + 1
  | .iface _ d => uptoBulk d + 1
  | .map entries => uptoBulkEntries entries + 1
  | .held _ => 1
def uptoBulkAll {H : Type} : List (DataW H) → Nat
  | [] => 0
  | d :: r => uptoBulk d + uptoBulkAll r
def uptoBulkEntries {H : Type} : List (Lit × DataW H) → Nat
  | [] => 0
  | x :: r => uptoBulkEntry x + uptoBulkEntries r
def uptoBulkEntry {H : Type} : Lit × DataW H → Nat
  | (.string bytes, d) => bytes.length + uptoBulk d + 1
  | (_, d) => uptoBulk d + 1
 end
def uptoSmall : (H : Type) → List (DataW H) → Bool := fun _ ds => decide (uptoBulkAll ds ≤ 1048576)
def OpenSpec.upto (s : _root_.Go.ChangeSpec) : _root_.Go.OpenSpec := { _root_.Go.OpenSpec.ofChange s with cond := some uptoSmall }

/-- 'laws.FnExactWaitsAt', WHERE WHAT IT READS IS OF BULK AT MOST 1048576: true; the input reads as it did. -/
def fnExactWaitsAtUptoRow : OpenClaim := { program := "ytiieincddkhcdaagreat", sum := "ce72a432a6f94144694d2c2b5f3307c6802a7c82abc0f44d570064743237a50d", func := "loop.example/g00160/laws.FnExactWaitsAt", spec := "fnExactWaitsAt", unfollowed := true, recurses := true, apart := false, narrowed := true }
def FnExactWaitsAtUptoSaid : Prop := fnExactWaitsAtUptoRow.holds Tryz.pinned (OpenSpec.upto fnExactWaitsAtSpec)

/-- 'laws.FnExactLagOf', WHERE WHAT IT READS IS OF BULK AT MOST 1048576: true; the input reads as it did. -/
def fnExactLagOfUptoRow : OpenClaim := { program := "ytiieincddkhcdaagreat", sum := "ce72a432a6f94144694d2c2b5f3307c6802a7c82abc0f44d570064743237a50d", func := "loop.example/g00160/laws.FnExactLagOf", spec := "fnExactLagOf", unfollowed := true, recurses := true, apart := false, narrowed := true }
def FnExactLagOfUptoSaid : Prop := fnExactLagOfUptoRow.holds Tryz.pinned (OpenSpec.upto fnExactLagOfSpec)

/-- 'laws.FnExactSameOuts', WHERE WHAT IT READS IS OF BULK AT MOST 1048576: true; the input reads as it did. -/
def fnExactSameOutsUptoRow : OpenClaim := { program := "ytiieincddkhcdaagreat", sum := "ce72a432a6f94144694d2c2b5f3307c6802a7c82abc0f44d570064743237a50d", func := "loop.example/g00160/laws.FnExactSameOuts", spec := "fnExactSameOuts", unfollowed := true, recurses := true, apart := false, narrowed := true }
def FnExactSameOutsUptoSaid : Prop := fnExactSameOutsUptoRow.holds Tryz.pinned (OpenSpec.upto fnExactSameOutsSpec)

/-- 'laws.FnExactBadOf', WHERE WHAT IT READS IS OF BULK AT MOST 1048576: true; the input reads as it did. -/
def fnExactBadOfUptoRow : OpenClaim := { program := "ytiieincddkhcdaagreat", sum := "ce72a432a6f94144694d2c2b5f3307c6802a7c82abc0f44d570064743237a50d", func := "loop.example/g00160/laws.FnExactBadOf", spec := "fnExactBadOf", unfollowed := true, recurses := true, apart := false, narrowed := true }
def FnExactBadOfUptoSaid : Prop := fnExactBadOfUptoRow.holds Tryz.pinned (OpenSpec.upto fnExactBadOfSpec)

/-- 'laws.FnExactRowsHeld', WHERE WHAT IT READS IS OF BULK AT MOST 1048576: true; the input reads as it did. -/
def fnExactRowsHeldUptoRow : OpenClaim := { program := "ytiieincddkhcdaagreat", sum := "ce72a432a6f94144694d2c2b5f3307c6802a7c82abc0f44d570064743237a50d", func := "loop.example/g00160/laws.FnExactRowsHeld", spec := "fnExactRowsHeld", unfollowed := true, recurses := true, apart := false, narrowed := true }
def FnExactRowsHeldUptoSaid : Prop := fnExactRowsHeldUptoRow.holds Tryz.pinned (OpenSpec.upto fnExactRowsHeldSpec)

/-- 'laws.FnExactFullLinks', WHERE WHAT IT READS IS OF BULK AT MOST 1048576: true; the input reads as it did. -/
def fnExactFullLinksUptoRow : OpenClaim := { program := "ytiieincddkhcdaagreat", sum := "ce72a432a6f94144694d2c2b5f3307c6802a7c82abc0f44d570064743237a50d", func := "loop.example/g00160/laws.FnExactFullLinks", spec := "fnExactFullLinks", unfollowed := true, recurses := true, apart := false, narrowed := true }
def FnExactFullLinksUptoSaid : Prop := fnExactFullLinksUptoRow.holds Tryz.pinned (OpenSpec.upto fnExactFullLinksSpec)

/-- 'laws.FnExactViewAt', WHERE WHAT IT READS IS OF BULK AT MOST 1048576: true; the input reads as it did. -/
def fnExactViewAtUptoRow : OpenClaim := { program := "ytiieincddkhcdaagreat", sum := "ce72a432a6f94144694d2c2b5f3307c6802a7c82abc0f44d570064743237a50d", func := "loop.example/g00160/laws.FnExactViewAt", spec := "fnExactViewAt", unfollowed := true, recurses := true, apart := false, narrowed := true }
def FnExactViewAtUptoSaid : Prop := fnExactViewAtUptoRow.holds Tryz.pinned (OpenSpec.upto fnExactViewAtSpec)

end Rows
end Go.Proofs.YtiieincddkhcdaaGreat
