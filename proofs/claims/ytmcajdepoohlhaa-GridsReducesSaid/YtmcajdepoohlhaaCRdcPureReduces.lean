/- The law GridsReduces, as its printed function tells it: true for every lattice. No condition beyond that the numbers fit. -/
import Derived.Test.YtmcajdepoohlhaaCRdcVal12
import Derived.Test.YtmcajdepoohlhaaCRdcAwake
import Derived.Test.YtmcajdepoohlhaaCRdcP3
namespace Go.Proofs.Ytmcajdepoohlhaa.Pure
open Go.RowKit Go.Proofs.Ytmcajdepoohlhaa.G Go.Proofs.Ytmcajdepoohlhaa.Spec Go.Proofs.Ytmcajdepoohlhaa.Val
theorem one_red {l r s : Lat} {m n : Mat} (h : Round l r m) (hr : Red r) (k : Round l s n) (hs : Red s) : s = r := by
  refine (red_unique (g := mul (inv m) n) hr hs ?_ ?_).symm
  · rw [det_mul, det_inv h.dd]
    have a := h.dd
    have b := k.dd
    grind
  · rw [← lead_mul]
    conv => lhs; arg 1; arg 1; rw [← h.ld]
    rw [lead_inv h.dd]
    exact k.ld
theorem GridsReduces (a0_0 a0_1 a0_2 : Int) (_h0 : ∀ x ∈ [a0_0, a0_1, a0_2], (Lit.int .i64 x).wf = true) :
    ∃ k, torchonlaw06_GridsReduces.f k a0_0 a0_1 a0_2 = some true := by
  obtain ⟨l, rfl, rfl, rfl⟩ : ∃ l : Lat, a0_0 = l.A ∧ a0_1 = l.B ∧ a0_2 = l.C := ⟨⟨a0_0, a0_1, a0_2⟩, rfl, rfl, rfl⟩
  by_cases hv : Valid l
  · obtain ⟨r, m, hf, hR, hr, hm⟩ := Reduce_val l hv
    obtain ⟨s, n, ⟨K, hK⟩, hS, hs, hn⟩ := refReduce_val l hv
    obtain rfl := one_red hR hr hS hs
    have e : n = m := by
      by_cases c : ofM n = ofM m
      · have := congrArg toM c; rwa [to_of, to_of] at this
      · exact absurd (lt_total c (hm _ hS)) (hn _ hR)
    subst e
    refine ⟨K + 30000, ?_⟩
    unfold torchonlaw06_GridsReduces.f
    rw [hf _ (by omega), hK _ (by omega)]
    simp only [Option.bind_some, beq_self_eq_true, Bool.and_self, if_true]
    rw [awake_val _ (by omega)]
    rfl
  · refine ⟨200, ?_⟩
    unfold torchonlaw06_GridsReduces.f
    rw [Reduce_err _ l hv (by omega), refReduce_err _ l hv (by omega)]
    simp only [Option.bind_some, beq_self_eq_true, Bool.and_self, if_true]
    rw [awake_val _ (by omega)]
    rfl
end Go.Proofs.Ytmcajdepoohlhaa.Pure
