/-
  No cell of these rows narrows 'for every input' (looked for: loops, veiled, ifaces, maps, wideKeys, modest, calm, conditions, laid).
  DERIVED. THE GIVEN ROWS OF THIS SEAT. 4 by the template 'for every input the law returns true; each argument reads behind the call as it read before'; 0 by the template 'total and deterministic' (their statements: YtejioaahmgljgaaTotals.lean).
  GIVEN WITH THE SEED: the statements are not yours to turn. If you find one false, say at which input.
  Laid BY PROGRAM, IN A SANDBOX (cutbox-rows.mjs): the forced cells as the released guide's own fill.sh prints them over the translation a5f7c9f559d00d5a… (all of the seat's roots in one cut). By AI agents, Wed Nov 11 2026. No macro, syntax, notation, axiom, sorry.
-/
import Derived.Test.YtejioaahmgljgaaChecked
import GoSem.Claim
import GoSem.ClaimJoined
import GoSem.ClaimMapViews
import Derived.JoinedTies
import Derived.KernelRfl
namespace Go.Proofs.Ytejioaahmgljgaa
/- THE CELL 'sum', in the pinned program and in every row, IS THE sha256 OF THE DUMP (.gsa) THAT YtejioaahmgljgaaProg.lean LOADS. Nothing in Lean hashes anything: it is a label: what it is worth is what the hold of that sum in a sandbox is worth. -/
noncomputable def Try.pinned : Pinned := { name := "ytejioaahmgljgaa", sum := "a5f7c9f559d00d5ab23ed1174024b3904e5a3ddf892d1c36b6606caf9c6a19c4", checked := Try.checked }
namespace Rows
def none {H : Type} : Left H := { results := [], args := [] }

/-- 'laws.FnExactPutCode': WHATEVER THE INPUT: true; the input reads as it did. -/
def fnExactPutCodeSpec : ChangeSpec := { name := "fnExactPutCode", fn := fun _ => fun
  | [d] => { results := [.lit (.bool true)], args := [d] }
  | _ => none }
def fnExactPutCodeRow : OpenClaim := { program := "ytejioaahmgljgaa", sum := "a5f7c9f559d00d5ab23ed1174024b3904e5a3ddf892d1c36b6606caf9c6a19c4", func := "loop.example/g00187/laws.FnExactPutCode", spec := "fnExactPutCode", unfollowed := true, recurses := true, apart := false }
def FnExactPutCodeSaid : Prop := fnExactPutCodeRow.holds Try.pinned (OpenSpec.ofChange fnExactPutCodeSpec)

/-- ITS FALSE NEIGHBOUR: 'it returns false'. Refute it at one input. -/
def fnExactPutCodeWrong : ChangeSpec := { name := "fnExactPutCode", fn := fun _ => fun
  | [d] => { results := [.lit (.bool false)], args := [d] }
  | _ => none }
def FnExactPutCodeWrongFalsely : Prop := fnExactPutCodeRow.holds Try.pinned (OpenSpec.ofChange fnExactPutCodeWrong)

/-- 'laws.FnExactGetCode': WHATEVER THE INPUT: true; the input reads as it did. -/
def fnExactGetCodeSpec : ChangeSpec := { name := "fnExactGetCode", fn := fun _ => fun
  | [d] => { results := [.lit (.bool true)], args := [d] }
  | _ => none }
def fnExactGetCodeRow : OpenClaim := { program := "ytejioaahmgljgaa", sum := "a5f7c9f559d00d5ab23ed1174024b3904e5a3ddf892d1c36b6606caf9c6a19c4", func := "loop.example/g00187/laws.FnExactGetCode", spec := "fnExactGetCode", unfollowed := true, recurses := true, apart := false }
def FnExactGetCodeSaid : Prop := fnExactGetCodeRow.holds Try.pinned (OpenSpec.ofChange fnExactGetCodeSpec)

/-- ITS FALSE NEIGHBOUR: 'it returns false'. Refute it at one input. -/
def fnExactGetCodeWrong : ChangeSpec := { name := "fnExactGetCode", fn := fun _ => fun
  | [d] => { results := [.lit (.bool false)], args := [d] }
  | _ => none }
def FnExactGetCodeWrongFalsely : Prop := fnExactGetCodeRow.holds Try.pinned (OpenSpec.ofChange fnExactGetCodeWrong)

/-- 'laws.FnExactBlockOf': WHATEVER THE INPUT: true; the input reads as it did. -/
def fnExactBlockOfSpec : ChangeSpec := { name := "fnExactBlockOf", fn := fun _ => fun
  | [d1, d2] => { results := [.lit (.bool true)], args := [d1, d2] }
  | _ => none }
def fnExactBlockOfRow : OpenClaim := { program := "ytejioaahmgljgaa", sum := "a5f7c9f559d00d5ab23ed1174024b3904e5a3ddf892d1c36b6606caf9c6a19c4", func := "loop.example/g00187/laws.FnExactBlockOf", spec := "fnExactBlockOf", unfollowed := true, recurses := true, apart := false }
def FnExactBlockOfSaid : Prop := fnExactBlockOfRow.holds Try.pinned (OpenSpec.ofChange fnExactBlockOfSpec)

/-- ITS FALSE NEIGHBOUR: 'it returns false'. Refute it at one input. -/
def fnExactBlockOfWrong : ChangeSpec := { name := "fnExactBlockOf", fn := fun _ => fun
  | [d1, d2] => { results := [.lit (.bool false)], args := [d1, d2] }
  | _ => none }
def FnExactBlockOfWrongFalsely : Prop := fnExactBlockOfRow.holds Try.pinned (OpenSpec.ofChange fnExactBlockOfWrong)

/-- 'laws.FnExactLeaders': WHATEVER THE INPUT: true; the input reads as it did. -/
def fnExactLeadersSpec : ChangeSpec := { name := "fnExactLeaders", fn := fun _ => fun
  | [d] => { results := [.lit (.bool true)], args := [d] }
  | _ => none }
def fnExactLeadersRow : OpenClaim := { program := "ytejioaahmgljgaa", sum := "a5f7c9f559d00d5ab23ed1174024b3904e5a3ddf892d1c36b6606caf9c6a19c4", func := "loop.example/g00187/laws.FnExactLeaders", spec := "fnExactLeaders", unfollowed := true, recurses := true, apart := false }
def FnExactLeadersSaid : Prop := fnExactLeadersRow.holds Try.pinned (OpenSpec.ofChange fnExactLeadersSpec)

/-- ITS FALSE NEIGHBOUR: 'it returns false'. Refute it at one input. -/
def fnExactLeadersWrong : ChangeSpec := { name := "fnExactLeaders", fn := fun _ => fun
  | [d] => { results := [.lit (.bool false)], args := [d] }
  | _ => none }
def FnExactLeadersWrongFalsely : Prop := fnExactLeadersRow.holds Try.pinned (OpenSpec.ofChange fnExactLeadersWrong)

/- THE SECOND FORM. 'bulk': how many values and letters a reading holds, each counted each time it is reached (what is shared counts as often as it is met; a slice's spare places count too). A statement '..UptoSaid' is the law's where the arguments, and the package variables that the reading takes, are together of bulk at most 1048576: NARROWER than '..Said'. Prove '..Said' where nothing that the law and all that it calls make is longer than what came in: it says more and counts as full. Else prove '..UptoSaid'. A law counts once. -/
mutual
def uptoBulk {H : Type} : DataW H → Nat
  | .lit (.string bytes) => bytes.length + 1
  | .lit _ => 1
  | .nil => 1
  | .ptr d => uptoBulk d + 1
  | .slice elems spare => uptoBulkAll elems + uptoBulkAll spare + 1
  | .agg parts => uptoBulkAll parts + 1
  | .iface _ d => uptoBulk d + 1
  | .map entries => uptoBulkEntries entries + 1
  | .held _ => 1
def uptoBulkAll {H : Type} : List (DataW H) → Nat
  | [] => 0
  | d :: r => uptoBulk d + uptoBulkAll r
def uptoBulkEntries {H : Type} : List (Lit × DataW H) → Nat
  | [] => 0
  | x :: r => uptoBulkEntry x + uptoBulkEntries r
def uptoBulkEntry {H : Type} : Lit × DataW H → Nat
  | (.string bytes, d) => bytes.length + uptoBulk d + 1
  | (_, d) => uptoBulk d + 1
 end
def uptoSmall : (H : Type) → List (DataW H) → Bool := fun _ ds => decide (uptoBulkAll ds ≤ 1048576)
def OpenSpec.upto (s : _root_.Go.ChangeSpec) : _root_.Go.OpenSpec := { _root_.Go.OpenSpec.ofChange s with cond := some uptoSmall }

/-- 'laws.FnExactPutCode', WHERE WHAT IT READS IS OF BULK AT MOST 1048576: true; the input reads as it did. -/
def fnExactPutCodeUptoRow : OpenClaim := { program := "ytejioaahmgljgaa", sum := "a5f7c9f559d00d5ab23ed1174024b3904e5a3ddf892d1c36b6606caf9c6a19c4", func := "loop.example/g00187/laws.FnExactPutCode", spec := "fnExactPutCode", unfollowed := true, recurses := true, apart := false, narrowed := true }
def FnExactPutCodeUptoSaid : Prop := fnExactPutCodeUptoRow.holds Try.pinned (OpenSpec.upto fnExactPutCodeSpec)

/-- 'laws.FnExactGetCode', WHERE WHAT IT READS IS OF BULK AT MOST 1048576: true; the input reads as it did. -/
def fnExactGetCodeUptoRow : OpenClaim := { program := "ytejioaahmgljgaa", sum := "a5f7c9f559d00d5ab23ed1174024b3904e5a3ddf892d1c36b6606caf9c6a19c4", func := "loop.example/g00187/laws.FnExactGetCode", spec := "fnExactGetCode", unfollowed := true, recurses := true, apart := false, narrowed := true }
def FnExactGetCodeUptoSaid : Prop := fnExactGetCodeUptoRow.holds Try.pinned (OpenSpec.upto fnExactGetCodeSpec)

/-- 'laws.FnExactBlockOf', WHERE WHAT IT READS IS OF BULK AT MOST 1048576: true; the input reads as it did. -/
def fnExactBlockOfUptoRow : OpenClaim := { program := "ytejioaahmgljgaa", sum := "a5f7c9f559d00d5ab23ed1174024b3904e5a3ddf892d1c36b6606caf9c6a19c4", func := "loop.example/g00187/laws.FnExactBlockOf", spec := "fnExactBlockOf", unfollowed := true, recurses := true, apart := false, narrowed := true }
def FnExactBlockOfUptoSaid : Prop := fnExactBlockOfUptoRow.holds Try.pinned (OpenSpec.upto fnExactBlockOfSpec)

/-- 'laws.FnExactLeaders', WHERE WHAT IT READS IS OF BULK AT MOST 1048576: true; the input reads as it did. -/
def fnExactLeadersUptoRow : OpenClaim := { program := "ytejioaahmgljgaa", sum := "a5f7c9f559d00d5ab23ed1174024b3904e5a3ddf892d1c36b6606caf9c6a19c4", func := "loop.example/g00187/laws.FnExactLeaders", spec := "fnExactLeaders", unfollowed := true, recurses := true, apart := false, narrowed := true }
def FnExactLeadersUptoSaid : Prop := fnExactLeadersUptoRow.holds Try.pinned (OpenSpec.upto fnExactLeadersSpec)

end Rows
end Go.Proofs.Ytejioaahmgljgaa
