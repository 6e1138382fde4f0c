/- The law GridsShortest, as its printed function tells it: true for every lattice and point. No condition beyond that the numbers fit. -/
import Derived.Test.YtmcajdepoohlhaaCShortVal4
import Derived.Test.YtmcajdepoohlhaaCShortVal5
import Derived.Test.YtmcajdepoohlhaaCShortAwake
import Derived.Test.YtmcajdepoohlhaaCShortP3
namespace Go.Proofs.Ytmcajdepoohlhaa.Pure
open Go.RowKit Go.Proofs.Ytmcajdepoohlhaa.G Go.Proofs.Ytmcajdepoohlhaa.Spec Go.Proofs.Ytmcajdepoohlhaa.Val
theorem short_of {l r : Lat} {m : Mat} (h : Round l r m) (hr : Red r) (p : Vec) :
    ((p.x ≠ 0 ∨ p.y ≠ 0) → r.A ≤ prod l p.x p.y p.x p.y) ∧ (crs p ⟨m.a, m.c⟩ ≠ 0 → r.C ≤ prod l p.x p.y p.x p.y) := by
  have e := prod_back (l := l) h.dd p
  rw [h.ld] at e
  rw [← e]
  constructor
  · intro hp
    refine min1 hr ?_
    by_cases c : (back m p).x = 0 ∧ (back m p).y = 0
    · have e1 : m.a * (back m p).x + m.b * (back m p).y = det m * det m * p.x := by simp only [back, det]; grind
      have e2 : m.c * (back m p).x + m.d * (back m p).y = det m * det m * p.y := by simp only [back, det]; grind
      rw [c.1, c.2, h.dd] at e1 e2
      simp at e1 e2
      omega
    · omega
  · intro hc
    refine min2 hr ?_
    intro c
    apply hc
    have e2 : det m * (back m p).y = -(det m * det m * crs p ⟨m.a, m.c⟩) := by simp only [back, det, crs]; grind
    rw [c, h.dd] at e2
    omega
theorem GridsShortest (a0_0 a0_1 a0_2 a1_0 a1_1 : Int) (_h0 : ∀ x ∈ [a0_0, a0_1, a0_2], (Lit.int .i64 x).wf = true) (_h1 : ∀ x ∈ [a1_0, a1_1], (Lit.int .i64 x).wf = true) :
    ∃ k, torchonlaw06_GridsShortest.f k a0_0 a0_1 a0_2 a1_0 a1_1 = some true := by
  obtain ⟨k, hk⟩ : ∃ k : Nat, 25000 ≤ k := ⟨25000, Nat.le_refl _⟩
  refine ⟨k + 1, ?_⟩
  obtain ⟨l, rfl, rfl, rfl⟩ : ∃ l : Lat, a0_0 = l.A ∧ a0_1 = l.B ∧ a0_2 = l.C := ⟨⟨a0_0, a0_1, a0_2⟩, rfl, rfl, rfl⟩
  have A := awake_val (k + 1) (by omega)
  have A' := awake_val k (by omega)
  unfold torchonlaw06_GridsShortest.f
  by_cases hv : Valid l
  · obtain ⟨r, m, hf, hR, hr, _⟩ := Reduce_val l hv
    rw [hf (k + 1) (by omega)]
    simp only [Option.bind_some, if_true, torchonlaw06_pt.f]
    have hs := hR.small hv
    unfold Small at hs
    have ea : Int.tmod m.a 10001 = m.a := by rw [Int.tmod_eq_emod]; split <;> omega
    have ec : Int.tmod m.c 10001 = m.c := by rw [Int.tmod_eq_emod]; split <;> omega
    have hx : -1000 ≤ Int.tmod a1_0 1001 ∧ Int.tmod a1_0 1001 ≤ 1000 := by rw [Int.tmod_eq_emod]; split <;> omega
    have hy : -1000 ≤ Int.tmod a1_1 1001 ∧ Int.tmod a1_1 1001 ≤ 1000 := by rw [Int.tmod_eq_emod]; split <;> omega
    rw [ea, ec]
    generalize Int.tmod a1_0 1001 = x at *
    generalize Int.tmod a1_1 1001 = y at *
    have hsq := Square_val (k + 1) l ⟨0, 0⟩ ⟨x, y⟩ (by omega)
    have hsd := Side_val (k + 1) ⟨0, 0⟩ ⟨x, y⟩ ⟨m.a, m.c⟩ (by omega)
    have o0 : okP 0 0 = true := rfl
    have o1 : okP x y = true := okP_iff.2 (by omega)
    have o2 : okP m.a m.c = true := okP_iff.2 (by omega)
    rw [dotP_ok hv o0 o1 o1] at hsq
    rw [sideP_ok o0 o1 o2] at hsd
    simp only at hsq hsd
    rw [hsq, hsd]
    simp only [Option.bind_some, if_true, Int.sub_zero, torchonlaw06_GridsShortest.j0, torchonlaw06_pt.f, A']
    obtain ⟨s1, s2⟩ := short_of hR hr ⟨x, y⟩
    simp only at s1 s2
    have hz := @cmpI_z (crs ⟨x, y⟩ ⟨m.a, m.c⟩) 0
    generalize cmpI (crs ⟨x, y⟩ ⟨m.a, m.c⟩) 0 = s at *
    have hin : s ≠ 0 → prod l x y x y ≥ r.C := fun h => s2 fun c => h (hz.2 c)
    have hfin : (if s = 0 then (some true : Option Bool) else if prod l x y x y ≥ r.C then some true else none) = some true := by
      by_cases c : s = 0
      · rw [if_pos c]
      · rw [if_neg c, if_pos (hin c)]
    rw [if_neg (by simp)]
    by_cases c : x = 0 ∧ y = 0
    · rw [if_pos (by simp [c.1, c.2])]
      exact hfin
    · rw [if_neg (by simpa using fun h => fun g => c ⟨h, g⟩), if_pos (s1 (by omega))]
      exact hfin
  · rw [Reduce_err (k + 1) l hv (by omega)]
    simp only [Option.bind_some]
    rw [if_neg (by omega), gcheck_val (k + 1) l (by omega), if_neg hv]
    simp only [Option.bind_some, if_true, A]
end Go.Proofs.Ytmcajdepoohlhaa.Pure
