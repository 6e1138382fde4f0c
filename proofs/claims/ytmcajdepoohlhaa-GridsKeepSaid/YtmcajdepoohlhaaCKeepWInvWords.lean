/- Lemmas for the printed walks (the print's words, those that are used here). No condition beyond what each states. -/
import Derived.Test.YtmcajdepoohlhaaCKeepWInv
import Derived.Test.YtmcajdepoohlhaaCKeepWFootNe
namespace Go.Proofs.YtmcajdepoohlhaaW.PrintWords
open Go.RowKit
end Go.Proofs.YtmcajdepoohlhaaW.PrintWords
namespace Go.Proofs.YtmcajdepoohlhaaW.PrintLast
section
variable {ops : Array Oper} {a : Act} {o og : Oper} {g : Nat} {t : Tmp} {u : Bool}
end
end Go.Proofs.YtmcajdepoohlhaaW.PrintLast
