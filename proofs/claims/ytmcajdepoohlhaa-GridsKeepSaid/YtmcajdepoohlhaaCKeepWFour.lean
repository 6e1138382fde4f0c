/- Lemmas for the printed walks (the print's words, those that are used here). No condition beyond what each states. -/
import Derived.Test.YtmcajdepoohlhaaCKeepWTab
/-! ### 56. Four, five, six operations that may come up next, in any order -/
namespace Go.Proofs.YtmcajdepoohlhaaW.PrintLast
section
variable {P : Program} {ops : Array Oper} {Q : Exit → Act → World → Prop} {md : Region.Mode} {S : World → Prop} {ds : List Nat} {T : Bool × List (List Nat × List Nat)}
end
end Go.Proofs.YtmcajdepoohlhaaW.PrintLast
