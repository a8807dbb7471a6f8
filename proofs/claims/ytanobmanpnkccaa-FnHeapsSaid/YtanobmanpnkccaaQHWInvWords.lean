-- written by wip/tools/prune.py: what this claim reaches of the print's and our texts
import Derived.Test.YtanobmanpnkccaaQHWInv
import Derived.Test.YtanobmanpnkccaaQHWFootNe
namespace Go.Proofs.YtanobmanpnkccaaW.PrintWords
open Go.RowKit
end Go.Proofs.YtanobmanpnkccaaW.PrintWords
namespace Go.Proofs.YtanobmanpnkccaaW.PrintLast
section
variable {ops : Array Oper} {a : Act} {o og : Oper} {g : Nat} {t : Tmp} {u : Bool}
end
end Go.Proofs.YtanobmanpnkccaaW.PrintLast
