/- Whether a matrix keeps a lattice. Condition: one round at least. -/
import Derived.Test.YtmcajdepoohlhaaCKeepVal4
import Derived.Test.YtmcajdepoohlhaaCKeepVal6
import Derived.Test.YtmcajdepoohlhaaCKeepP4
namespace Go.Proofs.Ytmcajdepoohlhaa.Val
open Go.RowKit Go.Proofs.Ytmcajdepoohlhaa.G Go.Proofs.Ytmcajdepoohlhaa.Spec
theorem goutside_val (a : Int) : grids_outside.f a 10000 = some (!decide (-10000 ≤ a ∧ a ≤ 10000)) := by
  unfold grids_outside.f
  rw [w64 (by omega) (by omega)]
  simp only [Option.bind_some]
  by_cases h : -10000 ≤ a ∧ a ≤ 10000
  · rw [if_neg (by omega)]; simp [h]
  · by_cases h2 : a < -10000
    · rw [if_pos h2]; simp [h]
    · rw [if_neg h2]; simp [h]; omega
theorem gmatrix_val (m : Mat) : grids_matrix.f m.a m.b m.c m.d = some (decide (Small m)) := by
  unfold grids_matrix.f
  simp only [goutside_val, Option.bind_some]
  unfold Small
  by_cases h1 : -10000 ≤ m.a ∧ m.a ≤ 10000
  · by_cases h2 : -10000 ≤ m.b ∧ m.b ≤ 10000
    · by_cases h3 : -10000 ≤ m.c ∧ m.c ≤ 10000
      · simp [h1, h2, h3]
      · simp [h1, h2, h3]
    · simp [h1, h2]
  · simp [h1]
/-- What Keeps answers. -/
def keepsP (l : Lat) (m : Mat) : Bool × Int := if Valid l then (if Small m then (decide (Keep l m), 0) else (false, 2)) else (false, 2)
theorem Keeps_val (k : Nat) (l : Lat) (m : Mat) (hk : 1 ≤ k) : grids_Keeps.f k l.A l.B l.C m.a m.b m.c m.d = some (keepsP l m) := by
  unfold grids_Keeps.f keepsP
  rw [gcheck_val k l hk]
  by_cases hv : Valid l
  · rw [if_pos hv, if_pos hv]
    simp only [Option.bind_some, if_true]
    rw [gmatrix_val]
    simp only [Option.bind_some]
    by_cases hs : Small m
    · rw [decide_eq_true hs, if_pos rfl, if_pos hs, glead_val l m (valid_lb hv) ((small_bd hs).mono (by omega))]
      simp only [Option.bind_some]
      rw [bool_lat]
      rfl
    · rw [decide_eq_false hs, if_neg (by simp), if_neg hs]
  · rw [if_neg hv, if_neg hv]
    simp
end Go.Proofs.Ytmcajdepoohlhaa.Val
