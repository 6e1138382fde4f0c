/- Powers of a matrix: when one of them is the matrix that changes nothing. Plain facts, no condition. -/
import Derived.Test.YtmcajdepoohlhaaCMovesLat
namespace Go.Proofs.Ytmcajdepoohlhaa.Spec
def pw (m : Mat) : Nat → Mat
  | 0 => one
  | n + 1 => mul m (pw m n)
theorem pw_one (m : Mat) : pw m 1 = m := mul_one m
def tr (m : Mat) : Int := m.a + m.d
def uu (t d : Int) : Nat → Int
  | 0 => 0
  | 1 => 1
  | n + 2 => t * uu t d (n + 1) - d * uu t d n
theorem pw_uu (m : Mat) : ∀ n, pw m (n + 1) = ⟨uu (tr m) (det m) (n + 1) * m.a - det m * uu (tr m) (det m) n, uu (tr m) (det m) (n + 1) * m.b, uu (tr m) (det m) (n + 1) * m.c, uu (tr m) (det m) (n + 1) * m.d - det m * uu (tr m) (det m) n⟩
  | 0 => by rw [pw_one]; cases m; simp [uu]
  | n + 1 => by
    have ih := pw_uu m n
    rw [pw, ih]
    simp only [uu, mul, Mat.mk.injEq]
    generalize uu (tr m) (det m) (n + 1) = x
    generalize uu (tr m) (det m) n = y
    simp only [tr, det]
    refine ⟨?_, ?_, ?_, ?_⟩ <;> grind
/-- What the order of a matrix is. -/
def ordM (m : Mat) : Int := if m = one then 1 else if mul m m = one then 2 else if det m = 1 ∧ tr m = -1 then 3 else if det m = 1 ∧ tr m = 0 then 4 else if det m = 1 ∧ tr m = 1 then 6 else 0
theorem unit_of {x y : Int} (h : x * y = 1) : x = 1 ∨ x = -1 := by
  have hx : x ≠ 0 := by intro e; rw [e] at h; simp at h
  have hy : y ≠ 0 := by intro e; rw [e] at h; simp at h
  by_cases c : -1 ≤ x ∧ x ≤ 1
  · omega
  · rcases Int.lt_or_le y 0 with g | g
    · rcases Int.lt_or_le x 0 with f | f
      · have := Int.mul_le_mul (show 2 ≤ -x by omega) (show 1 ≤ -y by omega) (by omega) (by omega)
        have e : -x * -y = x * y := by grind
        omega
      · have := Int.mul_neg_of_pos_of_neg (show 0 < x by omega) g
        omega
    · rcases Int.lt_or_le x 0 with f | f
      · have := Int.mul_neg_of_neg_of_pos f (show 0 < y by omega)
        omega
      · have := Int.mul_le_mul (show 2 ≤ x by omega) (show 1 ≤ y by omega) (by omega) (by omega)
        omega
theorem uu_grow {t : Int} (ht : 2 ≤ t ∨ t ≤ -2) : ∀ n, uu t 1 n * uu t 1 n < uu t 1 (n + 1) * uu t 1 (n + 1)
  | 0 => by simp [uu]
  | n + 1 => by
    have ih := uu_grow ht n
    have e : uu t 1 (n + 2) = t * uu t 1 (n + 1) - 1 * uu t 1 n := rfl
    rw [show n + 1 + 1 = n + 2 from rfl, e]
    generalize uu t 1 (n + 1) = x at *
    generalize uu t 1 n = y at *
    obtain ⟨X, hX, ex⟩ := abs_cases x
    obtain ⟨Y, hY, ey⟩ := abs_cases y
    obtain ⟨T, hT, et⟩ := abs_cases t
    have hT2 : 2 ≤ T := by omega
    have hx2 : x * x = X * X := by rcases ex with rfl | rfl <;> grind
    have hy2 : y * y = Y * Y := by rcases ey with rfl | rfl <;> grind
    have hYX : Y < X := by
      rcases Int.lt_or_le Y X with c | c
      · exact c
      · have := Int.mul_le_mul c c hX hY; omega
    have h1 : 2 * X ≤ T * X := Int.mul_le_mul_of_nonneg_right hT2 hX
    have h2 : X < T * X - Y := by omega
    have h3 : (T * X - Y) * (T * X - Y) ≤ (t * x - 1 * y) * (t * x - 1 * y) := by
      have p0 : 0 ≤ T * X * Y := Int.mul_nonneg (Int.mul_nonneg hT hX) hY
      have e1 : (t * x - 1 * y) * (t * x - 1 * y) = (T * X - Y) * (T * X - Y) ∨ (t * x - 1 * y) * (t * x - 1 * y) = (T * X - Y) * (T * X - Y) + 4 * (T * X * Y) := by
        rcases ex with rfl | rfl <;> rcases ey with rfl | rfl <;> rcases et with rfl | rfl
        · left; grind
        · right; grind
        · right; grind
        · left; grind
        · right; grind
        · left; grind
        · left; grind
        · right; grind
      omega
    have h4 : X * X < (T * X - Y) * (T * X - Y) := by
      have := Int.mul_le_mul (show X + 1 ≤ T * X - Y by omega) (show X + 1 ≤ T * X - Y by omega) (by omega) (by omega)
      have e2 : (X + 1) * (X + 1) = X * X + 2 * X + 1 := by grind
      omega
    omega
theorem uu_pos {t : Int} (ht : t ≠ 0) : ∀ n, 0 ≤ t * (uu t (-1) n * uu t (-1) (n + 1)) ∧ uu t (-1) (n + 1) ≠ 0
  | 0 => by simp [uu]
  | n + 1 => by
    obtain ⟨h1, h2⟩ := uu_pos ht n
    have e : uu t (-1) (n + 2) = t * uu t (-1) (n + 1) - (-1) * uu t (-1) n := rfl
    rw [show n + 1 + 1 = n + 2 from rfl, e]
    generalize uu t (-1) (n + 1) = x at *
    generalize uu t (-1) n = y at *
    have e2 : t * (x * (t * x - (-1) * y)) = (t * x) * (t * x) + t * (y * x) := by grind
    have htx : t * x ≠ 0 := by
      intro h
      rcases Int.mul_eq_zero.1 h with h | h
      · exact ht h
      · exact h2 h
    have := sq_pos htx
    refine ⟨by omega, fun h => ?_⟩
    rw [h] at e2
    simp at e2
    omega
theorem ord_none {m : Mat} (h : ordM m = 0) : ∀ n, pw m (n + 1) ≠ one := by
  intro n hp
  unfold ordM at h
  have h1 : m ≠ one := by intro e; rw [if_pos e] at h; simp at h
  rw [if_neg h1] at h
  have h2 : mul m m ≠ one := by intro e; rw [if_pos e] at h; simp at h
  rw [if_neg h2] at h
  have hd : det m = 1 ∨ det m = -1 := by
    have e := det_mul m (pw m n)
    rw [show mul m (pw m n) = one from hp] at e
    exact unit_of e.symm
  have hp' := hp
  rw [pw_uu] at hp'
  simp only [one, Mat.mk.injEq] at hp'
  obtain ⟨ea, eb, ec, ed⟩ := hp'
  by_cases hz : uu (tr m) (det m) (n + 1) = 0
  · rcases hd with hd | hd
    · rw [hd] at hz h
      simp only [true_and] at h
      have ht : 2 ≤ tr m ∨ tr m ≤ -2 := by
        by_cases c1 : tr m = -1
        · rw [if_pos c1] at h; simp at h
        rw [if_neg c1] at h
        by_cases c2 : tr m = 0
        · rw [if_pos c2] at h; simp at h
        rw [if_neg c2] at h
        by_cases c3 : tr m = 1
        · rw [if_pos c3] at h; simp at h
        omega
      have := uu_grow ht n
      rw [hz] at this
      have := sq_nonneg (uu (tr m) 1 n)
      omega
    · rw [hd] at hz
      have ht : tr m ≠ 0 := by
        intro ht
        apply h2
        have := pw_uu m 1
        rw [show pw m (1 + 1) = mul m (mul m one) from rfl, mul_one] at this
        rw [this, ht, hd]
        simp [uu, one]
      exact (uu_pos ht n).2 hz
  · have hb : m.b = 0 := by
      rcases Int.mul_eq_zero.1 eb with e | e
      · exact absurd e hz
      · exact e
    have hc : m.c = 0 := by
      rcases Int.mul_eq_zero.1 ec with e | e
      · exact absurd e hz
      · exact e
    have had : m.a = m.d := by
      have : uu (tr m) (det m) (n + 1) * (m.a - m.d) = 0 := by grind
      rcases Int.mul_eq_zero.1 this with e | e
      · exact absurd e hz
      · omega
    have hdet : det m = m.a * m.a := by unfold det; rw [hb, hc, ← had]; omega
    have haa : m.a * m.a = 1 := by
      have := sq_nonneg m.a
      rcases hd with e | e <;> omega
    apply h2
    obtain ⟨a, b, c, d⟩ := m
    simp only at hb hc had haa
    subst hb hc had
    simp [mul, one, haa]
end Go.Proofs.Ytmcajdepoohlhaa.Spec
