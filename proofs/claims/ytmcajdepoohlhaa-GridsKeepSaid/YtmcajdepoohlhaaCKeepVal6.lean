/- What the laws' own helpers and the reference's small functions come to: products, leading, valid matrices. Conditions: the bounds that each states. -/
import Derived.Test.YtmcajdepoohlhaaCKeepVal2
import Derived.Test.YtmcajdepoohlhaaCKeepP4
import Derived.Test.YtmcajdepoohlhaaCKeepP7
namespace Go.Proofs.Ytmcajdepoohlhaa.Val
open Go.RowKit Go.Proofs.Ytmcajdepoohlhaa.G Go.Proofs.Ytmcajdepoohlhaa.Spec Go.Proofs.YtmcajdepoohlhaaW.PrintWords
theorem from_val (a b c : Int) : torchonref06_from.f a b c = some (decide (b ≤ a ∧ a ≤ c)) := by
  unfold torchonref06_from.f
  by_cases h : a ≥ b
  · simp [h]
  · have h' : ¬ b ≤ a := h
    rw [if_neg h]
    simp [h']
instance (m : Mat) : Decidable (Small m) := by unfold Small; infer_instance
theorem refMatrix_val (m : Mat) : torchonref06_Matrix.f m.a m.b m.c m.d = some (decide (Small m)) := by
  unfold torchonref06_Matrix.f
  rw [from_val, from_val, from_val, from_val]
  simp only [Option.bind_some]
  unfold Small
  by_cases h1 : -10000 ≤ m.a ∧ m.a ≤ 10000
  · by_cases h2 : -10000 ≤ m.b ∧ m.b ≤ 10000
    · by_cases h3 : -10000 ≤ m.c ∧ m.c ≤ 10000
      · simp [h1, h2, h3]
      · simp [h1, h2, h3]
    · simp [h1, h2]
  · simp [h1]
theorem refProduct_val (l : Lat) (x y u v : Int) (hl : LB l) (hx : -10000 ≤ x ∧ x ≤ 10000) (hy : -10000 ≤ y ∧ y ≤ 10000) (hu : -10000 ≤ u ∧ u ≤ 10000) (hv : -10000 ≤ v ∧ v ≤ 10000) :
    torchonref06_Product.f l.A l.B l.C x y u v = some (prod l x y u v) := by
  obtain ⟨hA, hB, hC⟩ := hl
  have p1 := mul_bd hA hx
  have p2 := mul_bd (x := l.A * x) (A := 100000000) (by omega) hu
  have p3 := mul_bd hx hv
  have p4 := mul_bd hy hu
  have p5 := mul_bd (y := x * v + y * u) (B := 200000000) hB (by omega)
  have p6 := mul_bd hC hy
  have p7 := mul_bd (x := l.C * y) (A := 100000000) (by omega) hv
  unfold torchonref06_Product.f
  simp (disch := omega) only [w64, Option.bind_some]
  rfl
theorem lawlead_val (l : Lat) (m : Mat) (hl : LB l) (hm : Bd 10000 m) : torchonlaw06_lead.f l.A l.B l.C m.a m.b m.c m.d = some ((lead l m).A, (lead l m).B, (lead l m).C) := by
  obtain ⟨ha, hb, hc, hd⟩ := hm
  unfold torchonlaw06_lead.f torchonlaw06_pt.f
  simp only [Option.bind_some]
  rw [refProduct_val l _ _ _ _ hl ha hc ha hc, refProduct_val l _ _ _ _ hl ha hc hb hd, refProduct_val l _ _ _ _ hl hb hd hb hd]
  rfl
end Go.Proofs.Ytmcajdepoohlhaa.Val
