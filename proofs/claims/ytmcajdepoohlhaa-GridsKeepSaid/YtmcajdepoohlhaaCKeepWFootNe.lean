/- Lemmas for the printed walks (the print's words, those that are used here). No condition beyond what each states. -/
import Derived.Test.YtmcajdepoohlhaaCKeepWN
/-! ### 52. A row that stays read whatever happens to a block (a set of blocks) doesn't lie there -/
namespace Go.Proofs.YtmcajdepoohlhaaW.PrintWords
open Go.RowKit
namespace Kd
section
variable {α : Type} {d : Kd α} {W : World} {g n : Nat} {S ok : Nat → Prop} {A : Option Addr} {ad : Addr} {xs : List α}
end
end Kd
end Go.Proofs.YtmcajdepoohlhaaW.PrintWords
