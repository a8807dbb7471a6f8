-- written by wip/tools/prune.py: what this claim reaches of the print's and our texts
import Derived.Test.YtddacgfnhoboaaaQHWInv
import Derived.Test.YtddacgfnhoboaaaQHWFootNe
namespace Go.Proofs.YtddacgfnhoboaaaW.PrintWords
open Go.RowKit
end Go.Proofs.YtddacgfnhoboaaaW.PrintWords
namespace Go.Proofs.YtddacgfnhoboaaaW.PrintLast
section
variable {ops : Array Oper} {a : Act} {o og : Oper} {g : Nat} {t : Tmp} {u : Bool}
end
end Go.Proofs.YtddacgfnhoboaaaW.PrintLast
