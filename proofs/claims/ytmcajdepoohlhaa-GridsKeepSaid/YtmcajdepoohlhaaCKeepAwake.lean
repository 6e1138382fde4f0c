/- The results that each law asks for first are as the document says. No condition. -/
import Derived.Test.YtmcajdepoohlhaaCKeepP4
import Derived.KernelRfl
namespace Go.Proofs.Ytmcajdepoohlhaa.Val
open Go.Proofs.Ytmcajdepoohlhaa.G Go.Proofs.YtmcajdepoohlhaaW.PrintWords
theorem awake_130 : torchonlaw06_awake.f 130 = some true := by kernel_rfl
theorem awake_val (k : Nat) (hk : 130 ≤ k) : torchonlaw06_awake.f k = some true := by
  obtain ⟨d, rfl⟩ : ∃ d, k = 130 + d := ⟨k - 130, by omega⟩
  induction d with
  | zero => exact awake_130
  | succ d ih => exact torchonlaw06_awake.mono (130 + d) _ (ih (by omega))
end Go.Proofs.Ytmcajdepoohlhaa.Val
