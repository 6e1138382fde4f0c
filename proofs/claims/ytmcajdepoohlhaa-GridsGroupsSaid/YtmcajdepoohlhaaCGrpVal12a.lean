/- What the reference's check of a lattice comes to. Condition: one round at least. -/
import Derived.Test.YtmcajdepoohlhaaCGrpVal6
import Derived.Test.YtmcajdepoohlhaaCGrpP5
namespace Go.Proofs.Ytmcajdepoohlhaa.Val
open Go.RowKit Go.Proofs.Ytmcajdepoohlhaa.G Go.Proofs.Ytmcajdepoohlhaa.Spec
theorem refCheck_val (k : Nat) (l : Lat) (hk : 1 ≤ k) : torchonref06_Check.f k l.A l.B l.C = some (if Valid l then 0 else 2) := by
  obtain ⟨k, rfl⟩ : ∃ q, k = q + 1 := ⟨k - 1, by omega⟩
  unfold torchonref06_Check.f
  simp only [from_val, Option.bind_some]
  by_cases h1 : 1 ≤ l.A ∧ l.A ≤ 10000
  · rw [decide_eq_true h1, if_pos rfl]
    by_cases h2 : 1 ≤ l.C ∧ l.C ≤ 10000
    · rw [decide_eq_true h2, if_pos rfl]
      by_cases h3 : -10000 ≤ l.B ∧ l.B ≤ 10000
      · rw [decide_eq_true h3, if_pos rfl]
        have p1 := mul_bd (x := l.A) (y := l.C) (A := 10000) (B := 10000) (by omega) (by omega)
        have p2 := mul_bd (x := l.B) (y := l.B) (A := 10000) (B := 10000) (by omega) (by omega)
        have e : torchonref06_Det.f l.A l.B l.C = some (disc l) := by
          unfold torchonref06_Det.f
          simp (disch := omega) only [w64, Option.bind_some]
          rfl
        rw [e]
        simp only [Option.bind_some, torchonref06_Check.j0, decide_eq_true_eq]
        by_cases h4 : disc l < 1
        · rw [if_pos h4, if_neg (fun h => by have := h.d1; omega)]
        · rw [if_neg h4, if_pos ⟨by omega, by omega, by omega, by omega, by omega, by omega, by omega⟩]
      · rw [decide_eq_false h3, if_neg (by simp), if_neg (fun h => h3 ⟨h.b1, h.b2⟩)]
        simp only [torchonref06_Check.j0, if_true]
    · rw [decide_eq_false h2, if_neg (by simp), if_neg (fun h => h2 ⟨h.c1, h.c2⟩)]
      simp only [torchonref06_Check.j0, if_true]
  · rw [decide_eq_false h1, if_neg (by simp), if_neg (fun h => h1 ⟨h.a1, h.a2⟩)]
    simp only [torchonref06_Check.j0, if_true]
end Go.Proofs.Ytmcajdepoohlhaa.Val
