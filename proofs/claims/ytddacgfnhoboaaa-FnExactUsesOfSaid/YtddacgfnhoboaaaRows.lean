/-
  NARROWER THAN 'FOR EVERY INPUT', by the rows' own cells (each row's printed sentence says how): FnExactUsesOf: loops · FnExactSingles: loops · FnExactPutFor: loops · FnExactFold: loops · FnExactFoldAll: loops · FnExactTypeOf: loops.
  DERIVED. THE GIVEN ROWS OF THIS SEAT. 11 by the template 'for every input the law returns true; each argument reads behind the call as it read before'; 0 by the template 'total and deterministic' (their statements: YtddacgfnhoboaaaTotals.lean).
  GIVEN WITH THE SEED: the statements are not yours to turn. If you find one false, say at which input.
  Laid BY PROGRAM, IN A SANDBOX (cutbox-rows.mjs): the forced cells as the released guide's own fill.sh prints them over the translation 54e8734ca41af7aa… (all of the seat's roots in one cut). By AI agents, Wed Nov 11 2026. No macro, syntax, notation, axiom, sorry.
-/
import Derived.Test.YtddacgfnhoboaaaChecked
import GoSem.Claim
import GoSem.ClaimJoined
import GoSem.ClaimMapViews
import Derived.JoinedTies
import Derived.KernelRfl
namespace Go.Proofs.Ytddacgfnhoboaaa
/- THE CELL 'sum', in the pinned program and in every row, IS THE sha256 OF THE DUMP (.gsa) THAT YtddacgfnhoboaaaProg.lean LOADS. Nothing in Lean hashes anything: it is a label: what it is worth is what the hold of that sum in a sandbox is worth. -/
noncomputable def Try.pinned : Pinned := { name := "ytddacgfnhoboaaa", sum := "54e8734ca41af7aacc8d7d33220374f2a245fbeb5df31de0cd56a33f26e2d033", checked := Try.checked }
namespace Rows
def none {H : Type} : Left H := { results := [], args := [] }

/-- 'laws.FnExactUsesOf': WHATEVER THE INPUT: true; the input reads as it did. -/
def fnExactUsesOfSpec : ChangeSpec := { name := "fnExactUsesOf", fn := fun _ => fun
  | [d1, d2] => { results := [.lit (.bool true)], args := [d1, d2] }
  | _ => none }
def fnExactUsesOfRow : OpenClaim := { program := "ytddacgfnhoboaaa", sum := "54e8734ca41af7aacc8d7d33220374f2a245fbeb5df31de0cd56a33f26e2d033", func := "loop.example/g00187/laws.FnExactUsesOf", spec := "fnExactUsesOf", unfollowed := true, recurses := true, loops := true, apart := false }
def FnExactUsesOfSaid : Prop := fnExactUsesOfRow.holds Try.pinned (OpenSpec.ofChange fnExactUsesOfSpec)

/-- ITS FALSE NEIGHBOUR: 'it returns false'. Refute it at one input. -/
def fnExactUsesOfWrong : ChangeSpec := { name := "fnExactUsesOf", fn := fun _ => fun
  | [d1, d2] => { results := [.lit (.bool false)], args := [d1, d2] }
  | _ => none }
def FnExactUsesOfWrongFalsely : Prop := fnExactUsesOfRow.holds Try.pinned (OpenSpec.ofChange fnExactUsesOfWrong)

/-- 'laws.FnExactPutCode': WHATEVER THE INPUT: true; the input reads as it did. -/
def fnExactPutCodeSpec : ChangeSpec := { name := "fnExactPutCode", fn := fun _ => fun
  | [d] => { results := [.lit (.bool true)], args := [d] }
  | _ => none }
def fnExactPutCodeRow : OpenClaim := { program := "ytddacgfnhoboaaa", sum := "54e8734ca41af7aacc8d7d33220374f2a245fbeb5df31de0cd56a33f26e2d033", func := "loop.example/g00187/laws.FnExactPutCode", spec := "fnExactPutCode", unfollowed := true, recurses := true, apart := false }
def FnExactPutCodeSaid : Prop := fnExactPutCodeRow.holds Try.pinned (OpenSpec.ofChange fnExactPutCodeSpec)

/-- ITS FALSE NEIGHBOUR: 'it returns false'. Refute it at one input. -/
def fnExactPutCodeWrong : ChangeSpec := { name := "fnExactPutCode", fn := fun _ => fun
  | [d] => { results := [.lit (.bool false)], args := [d] }
  | _ => none }
def FnExactPutCodeWrongFalsely : Prop := fnExactPutCodeRow.holds Try.pinned (OpenSpec.ofChange fnExactPutCodeWrong)

/-- 'laws.FnExactSingles': WHATEVER THE INPUT: true; the input reads as it did. -/
def fnExactSinglesSpec : ChangeSpec := { name := "fnExactSingles", fn := fun _ => fun
  | [d] => { results := [.lit (.bool true)], args := [d] }
  | _ => none }
def fnExactSinglesRow : OpenClaim := { program := "ytddacgfnhoboaaa", sum := "54e8734ca41af7aacc8d7d33220374f2a245fbeb5df31de0cd56a33f26e2d033", func := "loop.example/g00187/laws.FnExactSingles", spec := "fnExactSingles", unfollowed := true, recurses := true, loops := true, apart := false }
def FnExactSinglesSaid : Prop := fnExactSinglesRow.holds Try.pinned (OpenSpec.ofChange fnExactSinglesSpec)

/-- ITS FALSE NEIGHBOUR: 'it returns false'. Refute it at one input. -/
def fnExactSinglesWrong : ChangeSpec := { name := "fnExactSingles", fn := fun _ => fun
  | [d] => { results := [.lit (.bool false)], args := [d] }
  | _ => none }
def FnExactSinglesWrongFalsely : Prop := fnExactSinglesRow.holds Try.pinned (OpenSpec.ofChange fnExactSinglesWrong)

/-- 'laws.FnExactGetCode': WHATEVER THE INPUT: true; the input reads as it did. -/
def fnExactGetCodeSpec : ChangeSpec := { name := "fnExactGetCode", fn := fun _ => fun
  | [d] => { results := [.lit (.bool true)], args := [d] }
  | _ => none }
def fnExactGetCodeRow : OpenClaim := { program := "ytddacgfnhoboaaa", sum := "54e8734ca41af7aacc8d7d33220374f2a245fbeb5df31de0cd56a33f26e2d033", func := "loop.example/g00187/laws.FnExactGetCode", spec := "fnExactGetCode", unfollowed := true, recurses := true, apart := false }
def FnExactGetCodeSaid : Prop := fnExactGetCodeRow.holds Try.pinned (OpenSpec.ofChange fnExactGetCodeSpec)

/-- ITS FALSE NEIGHBOUR: 'it returns false'. Refute it at one input. -/
def fnExactGetCodeWrong : ChangeSpec := { name := "fnExactGetCode", fn := fun _ => fun
  | [d] => { results := [.lit (.bool false)], args := [d] }
  | _ => none }
def FnExactGetCodeWrongFalsely : Prop := fnExactGetCodeRow.holds Try.pinned (OpenSpec.ofChange fnExactGetCodeWrong)

/-- 'laws.FnExactBlockOf': WHATEVER THE INPUT: true; the input reads as it did. -/
def fnExactBlockOfSpec : ChangeSpec := { name := "fnExactBlockOf", fn := fun _ => fun
  | [d1, d2] => { results := [.lit (.bool true)], args := [d1, d2] }
  | _ => none }
def fnExactBlockOfRow : OpenClaim := { program := "ytddacgfnhoboaaa", sum := "54e8734ca41af7aacc8d7d33220374f2a245fbeb5df31de0cd56a33f26e2d033", func := "loop.example/g00187/laws.FnExactBlockOf", spec := "fnExactBlockOf", unfollowed := true, recurses := true, apart := false }
def FnExactBlockOfSaid : Prop := fnExactBlockOfRow.holds Try.pinned (OpenSpec.ofChange fnExactBlockOfSpec)

/-- ITS FALSE NEIGHBOUR: 'it returns false'. Refute it at one input. -/
def fnExactBlockOfWrong : ChangeSpec := { name := "fnExactBlockOf", fn := fun _ => fun
  | [d1, d2] => { results := [.lit (.bool false)], args := [d1, d2] }
  | _ => none }
def FnExactBlockOfWrongFalsely : Prop := fnExactBlockOfRow.holds Try.pinned (OpenSpec.ofChange fnExactBlockOfWrong)

/-- 'laws.FnExactLeaders': WHATEVER THE INPUT: true; the input reads as it did. -/
def fnExactLeadersSpec : ChangeSpec := { name := "fnExactLeaders", fn := fun _ => fun
  | [d] => { results := [.lit (.bool true)], args := [d] }
  | _ => none }
def fnExactLeadersRow : OpenClaim := { program := "ytddacgfnhoboaaa", sum := "54e8734ca41af7aacc8d7d33220374f2a245fbeb5df31de0cd56a33f26e2d033", func := "loop.example/g00187/laws.FnExactLeaders", spec := "fnExactLeaders", unfollowed := true, recurses := true, apart := false }
def FnExactLeadersSaid : Prop := fnExactLeadersRow.holds Try.pinned (OpenSpec.ofChange fnExactLeadersSpec)

/-- ITS FALSE NEIGHBOUR: 'it returns false'. Refute it at one input. -/
def fnExactLeadersWrong : ChangeSpec := { name := "fnExactLeaders", fn := fun _ => fun
  | [d] => { results := [.lit (.bool false)], args := [d] }
  | _ => none }
def FnExactLeadersWrongFalsely : Prop := fnExactLeadersRow.holds Try.pinned (OpenSpec.ofChange fnExactLeadersWrong)

/-- 'laws.FnExactPutFor': WHATEVER THE INPUT: true; the input reads as it did. -/
def fnExactPutForSpec : ChangeSpec := { name := "fnExactPutFor", fn := fun _ => fun
  | [d1, d2, d3] => { results := [.lit (.bool true)], args := [d1, d2, d3] }
  | _ => none }
def fnExactPutForRow : OpenClaim := { program := "ytddacgfnhoboaaa", sum := "54e8734ca41af7aacc8d7d33220374f2a245fbeb5df31de0cd56a33f26e2d033", func := "loop.example/g00187/laws.FnExactPutFor", spec := "fnExactPutFor", unfollowed := true, recurses := true, loops := true, apart := false }
def FnExactPutForSaid : Prop := fnExactPutForRow.holds Try.pinned (OpenSpec.ofChange fnExactPutForSpec)

/-- ITS FALSE NEIGHBOUR: 'it returns false'. Refute it at one input. -/
def fnExactPutForWrong : ChangeSpec := { name := "fnExactPutFor", fn := fun _ => fun
  | [d1, d2, d3] => { results := [.lit (.bool false)], args := [d1, d2, d3] }
  | _ => none }
def FnExactPutForWrongFalsely : Prop := fnExactPutForRow.holds Try.pinned (OpenSpec.ofChange fnExactPutForWrong)

/-- 'laws.FnExactFold': WHATEVER THE INPUT: true; the input reads as it did. -/
def fnExactFoldSpec : ChangeSpec := { name := "fnExactFold", fn := fun _ => fun
  | [d] => { results := [.lit (.bool true)], args := [d] }
  | _ => none }
def fnExactFoldRow : OpenClaim := { program := "ytddacgfnhoboaaa", sum := "54e8734ca41af7aacc8d7d33220374f2a245fbeb5df31de0cd56a33f26e2d033", func := "loop.example/g00187/laws.FnExactFold", spec := "fnExactFold", unfollowed := true, recurses := true, loops := true, apart := false }
def FnExactFoldSaid : Prop := fnExactFoldRow.holds Try.pinned (OpenSpec.ofChange fnExactFoldSpec)

/-- ITS FALSE NEIGHBOUR: 'it returns false'. Refute it at one input. -/
def fnExactFoldWrong : ChangeSpec := { name := "fnExactFold", fn := fun _ => fun
  | [d] => { results := [.lit (.bool false)], args := [d] }
  | _ => none }
def FnExactFoldWrongFalsely : Prop := fnExactFoldRow.holds Try.pinned (OpenSpec.ofChange fnExactFoldWrong)

/-- 'laws.FnExactMet': WHATEVER THE INPUT: true; the input reads as it did. -/
def fnExactMetSpec : ChangeSpec := { name := "fnExactMet", fn := fun _ => fun
  | [d] => { results := [.lit (.bool true)], args := [d] }
  | _ => none }
def fnExactMetRow : OpenClaim := { program := "ytddacgfnhoboaaa", sum := "54e8734ca41af7aacc8d7d33220374f2a245fbeb5df31de0cd56a33f26e2d033", func := "loop.example/g00187/laws.FnExactMet", spec := "fnExactMet", unfollowed := true, recurses := true, apart := false }
def FnExactMetSaid : Prop := fnExactMetRow.holds Try.pinned (OpenSpec.ofChange fnExactMetSpec)

/-- ITS FALSE NEIGHBOUR: 'it returns false'. Refute it at one input. -/
def fnExactMetWrong : ChangeSpec := { name := "fnExactMet", fn := fun _ => fun
  | [d] => { results := [.lit (.bool false)], args := [d] }
  | _ => none }
def FnExactMetWrongFalsely : Prop := fnExactMetRow.holds Try.pinned (OpenSpec.ofChange fnExactMetWrong)

/-- 'laws.FnExactFoldAll': WHATEVER THE INPUT: true; the input reads as it did. -/
def fnExactFoldAllSpec : ChangeSpec := { name := "fnExactFoldAll", fn := fun _ => fun
  | [d] => { results := [.lit (.bool true)], args := [d] }
  | _ => none }
def fnExactFoldAllRow : OpenClaim := { program := "ytddacgfnhoboaaa", sum := "54e8734ca41af7aacc8d7d33220374f2a245fbeb5df31de0cd56a33f26e2d033", func := "loop.example/g00187/laws.FnExactFoldAll", spec := "fnExactFoldAll", unfollowed := true, recurses := true, loops := true, apart := false }
def FnExactFoldAllSaid : Prop := fnExactFoldAllRow.holds Try.pinned (OpenSpec.ofChange fnExactFoldAllSpec)

/-- ITS FALSE NEIGHBOUR: 'it returns false'. Refute it at one input. -/
def fnExactFoldAllWrong : ChangeSpec := { name := "fnExactFoldAll", fn := fun _ => fun
  | [d] => { results := [.lit (.bool false)], args := [d] }
  | _ => none }
def FnExactFoldAllWrongFalsely : Prop := fnExactFoldAllRow.holds Try.pinned (OpenSpec.ofChange fnExactFoldAllWrong)

/-- 'laws.FnExactTypeOf': WHATEVER THE INPUT: true; the input reads as it did. -/
def fnExactTypeOfSpec : ChangeSpec := { name := "fnExactTypeOf", fn := fun _ => fun
  | [d] => { results := [.lit (.bool true)], args := [d] }
  | _ => none }
def fnExactTypeOfRow : OpenClaim := { program := "ytddacgfnhoboaaa", sum := "54e8734ca41af7aacc8d7d33220374f2a245fbeb5df31de0cd56a33f26e2d033", func := "loop.example/g00187/laws.FnExactTypeOf", spec := "fnExactTypeOf", unfollowed := true, recurses := true, loops := true, apart := false }
def FnExactTypeOfSaid : Prop := fnExactTypeOfRow.holds Try.pinned (OpenSpec.ofChange fnExactTypeOfSpec)

/-- ITS FALSE NEIGHBOUR: 'it returns false'. Refute it at one input. -/
def fnExactTypeOfWrong : ChangeSpec := { name := "fnExactTypeOf", fn := fun _ => fun
  | [d] => { results := [.lit (.bool false)], args := [d] }
  | _ => none }
def FnExactTypeOfWrongFalsely : Prop := fnExactTypeOfRow.holds Try.pinned (OpenSpec.ofChange fnExactTypeOfWrong)

/- THE SECOND FORM. 'bulk': how many values and letters a reading holds, each counted each time it is reached (what is shared counts as often as it is met; a slice's spare places count too). A statement '..UptoSaid' is the law's where the arguments, and the package variables that the reading takes, are together of bulk at most 1048576: NARROWER than '..Said'. Prove '..Said' where nothing that the law and all that it calls make is longer than what came in: it says more and counts as full. Else prove '..UptoSaid'. A law counts once. -/
mutual
def uptoBulk {H : Type} : DataW H → Nat
  | .lit (.string bytes) => bytes.length + 1
  | .lit _ => 1
  | .nil => 1
  | .ptr d => uptoBulk d + 1
  | .slice elems spare => uptoBulkAll elems + uptoBulkAll spare + 1
  | .agg parts => uptoBulkAll parts + 1
  | .iface _ d => uptoBulk d + 1
  | .map entries => uptoBulkEntries entries + 1
  | .held _ => 1
def uptoBulkAll {H : Type} : List (DataW H) → Nat
  | [] => 0
  | d :: r => uptoBulk d + uptoBulkAll r
def uptoBulkEntries {H : Type} : List (Lit × DataW H) → Nat
  | [] => 0
  | x :: r => uptoBulkEntry x + uptoBulkEntries r
def uptoBulkEntry {H : Type} : Lit × DataW H → Nat
  | (.string bytes, d) => bytes.length + uptoBulk d + 1
  | (_, d) => uptoBulk d + 1
 end
def uptoSmall : (H : Type) → List (DataW H) → Bool := fun _ ds => decide (uptoBulkAll ds ≤ 1048576)
def OpenSpec.upto (s : _root_.Go.ChangeSpec) : _root_.Go.OpenSpec := { _root_.Go.OpenSpec.ofChange s with cond := some uptoSmall }

/-- 'laws.FnExactUsesOf', WHERE WHAT IT READS IS OF BULK AT MOST 1048576: true; the input reads as it did. -/
def fnExactUsesOfUptoRow : OpenClaim := { program := "ytddacgfnhoboaaa", sum := "54e8734ca41af7aacc8d7d33220374f2a245fbeb5df31de0cd56a33f26e2d033", func := "loop.example/g00187/laws.FnExactUsesOf", spec := "fnExactUsesOf", unfollowed := true, recurses := true, loops := true, apart := false, narrowed := true }
def FnExactUsesOfUptoSaid : Prop := fnExactUsesOfUptoRow.holds Try.pinned (OpenSpec.upto fnExactUsesOfSpec)

/-- 'laws.FnExactPutCode', WHERE WHAT IT READS IS OF BULK AT MOST 1048576: true; the input reads as it did. -/
def fnExactPutCodeUptoRow : OpenClaim := { program := "ytddacgfnhoboaaa", sum := "54e8734ca41af7aacc8d7d33220374f2a245fbeb5df31de0cd56a33f26e2d033", func := "loop.example/g00187/laws.FnExactPutCode", spec := "fnExactPutCode", unfollowed := true, recurses := true, apart := false, narrowed := true }
def FnExactPutCodeUptoSaid : Prop := fnExactPutCodeUptoRow.holds Try.pinned (OpenSpec.upto fnExactPutCodeSpec)

/-- 'laws.FnExactSingles', WHERE WHAT IT READS IS OF BULK AT MOST 1048576: true; the input reads as it did. -/
def fnExactSinglesUptoRow : OpenClaim := { program := "ytddacgfnhoboaaa", sum := "54e8734ca41af7aacc8d7d33220374f2a245fbeb5df31de0cd56a33f26e2d033", func := "loop.example/g00187/laws.FnExactSingles", spec := "fnExactSingles", unfollowed := true, recurses := true, loops := true, apart := false, narrowed := true }
def FnExactSinglesUptoSaid : Prop := fnExactSinglesUptoRow.holds Try.pinned (OpenSpec.upto fnExactSinglesSpec)

/-- 'laws.FnExactGetCode', WHERE WHAT IT READS IS OF BULK AT MOST 1048576: true; the input reads as it did. -/
def fnExactGetCodeUptoRow : OpenClaim := { program := "ytddacgfnhoboaaa", sum := "54e8734ca41af7aacc8d7d33220374f2a245fbeb5df31de0cd56a33f26e2d033", func := "loop.example/g00187/laws.FnExactGetCode", spec := "fnExactGetCode", unfollowed := true, recurses := true, apart := false, narrowed := true }
def FnExactGetCodeUptoSaid : Prop := fnExactGetCodeUptoRow.holds Try.pinned (OpenSpec.upto fnExactGetCodeSpec)

/-- 'laws.FnExactBlockOf', WHERE WHAT IT READS IS OF BULK AT MOST 1048576: true; the input reads as it did. -/
def fnExactBlockOfUptoRow : OpenClaim := { program := "ytddacgfnhoboaaa", sum := "54e8734ca41af7aacc8d7d33220374f2a245fbeb5df31de0cd56a33f26e2d033", func := "loop.example/g00187/laws.FnExactBlockOf", spec := "fnExactBlockOf", unfollowed := true, recurses := true, apart := false, narrowed := true }
def FnExactBlockOfUptoSaid : Prop := fnExactBlockOfUptoRow.holds Try.pinned (OpenSpec.upto fnExactBlockOfSpec)

/-- 'laws.FnExactLeaders', WHERE WHAT IT READS IS OF BULK AT MOST 1048576: true; the input reads as it did. -/
def fnExactLeadersUptoRow : OpenClaim := { program := "ytddacgfnhoboaaa", sum := "54e8734ca41af7aacc8d7d33220374f2a245fbeb5df31de0cd56a33f26e2d033", func := "loop.example/g00187/laws.FnExactLeaders", spec := "fnExactLeaders", unfollowed := true, recurses := true, apart := false, narrowed := true }
def FnExactLeadersUptoSaid : Prop := fnExactLeadersUptoRow.holds Try.pinned (OpenSpec.upto fnExactLeadersSpec)

/-- 'laws.FnExactPutFor', WHERE WHAT IT READS IS OF BULK AT MOST 1048576: true; the input reads as it did. -/
def fnExactPutForUptoRow : OpenClaim := { program := "ytddacgfnhoboaaa", sum := "54e8734ca41af7aacc8d7d33220374f2a245fbeb5df31de0cd56a33f26e2d033", func := "loop.example/g00187/laws.FnExactPutFor", spec := "fnExactPutFor", unfollowed := true, recurses := true, loops := true, apart := false, narrowed := true }
def FnExactPutForUptoSaid : Prop := fnExactPutForUptoRow.holds Try.pinned (OpenSpec.upto fnExactPutForSpec)

/-- 'laws.FnExactFold', WHERE WHAT IT READS IS OF BULK AT MOST 1048576: true; the input reads as it did. -/
def fnExactFoldUptoRow : OpenClaim := { program := "ytddacgfnhoboaaa", sum := "54e8734ca41af7aacc8d7d33220374f2a245fbeb5df31de0cd56a33f26e2d033", func := "loop.example/g00187/laws.FnExactFold", spec := "fnExactFold", unfollowed := true, recurses := true, loops := true, apart := false, narrowed := true }
def FnExactFoldUptoSaid : Prop := fnExactFoldUptoRow.holds Try.pinned (OpenSpec.upto fnExactFoldSpec)

/-- 'laws.FnExactMet', WHERE WHAT IT READS IS OF BULK AT MOST 1048576: true; the input reads as it did. -/
def fnExactMetUptoRow : OpenClaim := { program := "ytddacgfnhoboaaa", sum := "54e8734ca41af7aacc8d7d33220374f2a245fbeb5df31de0cd56a33f26e2d033", func := "loop.example/g00187/laws.FnExactMet", spec := "fnExactMet", unfollowed := true, recurses := true, apart := false, narrowed := true }
def FnExactMetUptoSaid : Prop := fnExactMetUptoRow.holds Try.pinned (OpenSpec.upto fnExactMetSpec)

/-- 'laws.FnExactFoldAll', WHERE WHAT IT READS IS OF BULK AT MOST 1048576: true; the input reads as it did. -/
def fnExactFoldAllUptoRow : OpenClaim := { program := "ytddacgfnhoboaaa", sum := "54e8734ca41af7aacc8d7d33220374f2a245fbeb5df31de0cd56a33f26e2d033", func := "loop.example/g00187/laws.FnExactFoldAll", spec := "fnExactFoldAll", unfollowed := true, recurses := true, loops := true, apart := false, narrowed := true }
def FnExactFoldAllUptoSaid : Prop := fnExactFoldAllUptoRow.holds Try.pinned (OpenSpec.upto fnExactFoldAllSpec)

/-- 'laws.FnExactTypeOf', WHERE WHAT IT READS IS OF BULK AT MOST 1048576: true; the input reads as it did. -/
def fnExactTypeOfUptoRow : OpenClaim := { program := "ytddacgfnhoboaaa", sum := "54e8734ca41af7aacc8d7d33220374f2a245fbeb5df31de0cd56a33f26e2d033", func := "loop.example/g00187/laws.FnExactTypeOf", spec := "fnExactTypeOf", unfollowed := true, recurses := true, loops := true, apart := false, narrowed := true }
def FnExactTypeOfUptoSaid : Prop := fnExactTypeOfUptoRow.holds Try.pinned (OpenSpec.upto fnExactTypeOfSpec)

end Rows
end Go.Proofs.Ytddacgfnhoboaaa
