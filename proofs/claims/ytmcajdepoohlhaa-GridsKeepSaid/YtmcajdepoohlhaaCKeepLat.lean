/- Plane lattices by their Gram numbers, matrices that lead from one to another, reduced lattices: plain facts. No condition. -/
import Derived.Test.YtmcajdepoohlhaaCKeepSpec
namespace Go.Proofs.Ytmcajdepoohlhaa.Spec
/-- A lattice. -/
structure Lat where
  A : Int
  B : Int
  C : Int
  deriving DecidableEq
/-- A matrix. -/
structure Mat where
  a : Int
  b : Int
  c : Int
  d : Int
  deriving DecidableEq
/-- The product of two steps. -/
def prod (l : Lat) (x y u v : Int) : Int := l.A * x * u + l.B * (x * v + y * u) + l.C * y * v
def lead (l : Lat) (m : Mat) : Lat := ⟨prod l m.a m.c m.a m.c, prod l m.a m.c m.b m.d, prod l m.b m.d m.b m.d⟩
def det (m : Mat) : Int := m.a * m.d - m.b * m.c
def mul (m n : Mat) : Mat := ⟨m.a * n.a + m.b * n.c, m.a * n.b + m.b * n.d, m.c * n.a + m.d * n.c, m.c * n.b + m.d * n.d⟩
def inv (m : Mat) : Mat := ⟨det m * m.d, -det m * m.b, -det m * m.c, det m * m.a⟩
def one : Mat := ⟨1, 0, 0, 1⟩
def disc (l : Lat) : Int := l.A * l.C - l.B * l.B
theorem lead_mul (l : Lat) (m n : Mat) : lead (lead l m) n = lead l (mul m n) := by
  simp only [lead, mul, prod, Lat.mk.injEq]
  refine ⟨?_, ?_, ?_⟩ <;> grind
theorem det_mul (m n : Mat) : det (mul m n) = det m * det n := by simp only [det, mul]; grind
theorem disc_lead (l : Lat) (m : Mat) : disc (lead l m) = det m * det m * disc l := by simp only [disc, lead, det, prod]; grind
theorem mul_assoc (m n k : Mat) : mul (mul m n) k = mul m (mul n k) := by
  simp only [mul, Mat.mk.injEq]
  refine ⟨?_, ?_, ?_, ?_⟩ <;> grind
theorem mul_one (m : Mat) : mul m one = m := by cases m; simp [mul, one]
theorem one_mul (m : Mat) : mul one m = m := by cases m; simp [mul, one]
theorem lead_one (l : Lat) : lead l one = l := by cases l; simp [lead, one, prod]
theorem mul_inv {m : Mat} (h : det m * det m = 1) : mul m (inv m) = one := by
  simp only [mul, inv, one, Mat.mk.injEq]
  simp only [det] at h ⊢
  refine ⟨?_, ?_, ?_, ?_⟩ <;> grind
theorem inv_mul {m : Mat} (h : det m * det m = 1) : mul (inv m) m = one := by
  simp only [mul, inv, one, Mat.mk.injEq]
  simp only [det] at h ⊢
  refine ⟨?_, ?_, ?_, ?_⟩ <;> grind
theorem det_inv {m : Mat} (h : det m * det m = 1) : det (inv m) = det m := by
  have e : det (inv m) = det m * det m * det m := by simp only [det, inv]; grind
  rw [e, h]; omega
theorem lead_inv {l : Lat} {m : Mat} (h : det m * det m = 1) : lead (lead l m) (inv m) = l := by rw [lead_mul, mul_inv h, lead_one]
theorem det_sq {m : Mat} (h : det m = 1 ∨ det m = -1) : det m * det m = 1 := by rcases h with h | h <;> rw [h] <;> rfl
theorem det_pm {m : Mat} (h : det m * det m = 1) : det m = 1 ∨ det m = -1 := by
  have h1 : (det m - 1) * (det m + 1) = 0 := by grind
  rcases Int.mul_eq_zero.1 h1 with h | h
  · left; omega
  · right; omega
/-- A reduced lattice. -/
structure Red (r : Lat) : Prop where
  b0 : 0 ≤ r.B
  ba : 2 * r.B ≤ r.A
  ac : r.A ≤ r.C
  a1 : 1 ≤ r.A
theorem abs_cases (x : Int) : ∃ X : Int, 0 ≤ X ∧ (x = X ∨ x = -X) := by
  rcases Int.lt_or_le x 0 with h | h
  · exact ⟨-x, by omega, by omega⟩
  · exact ⟨x, h, by omega⟩
theorem min2 {r : Lat} (h : Red r) {x y : Int} (hy : y ≠ 0) : r.C ≤ prod r x y x y := by
  obtain ⟨X, hX, ex⟩ := abs_cases x
  obtain ⟨Y, hY, ey⟩ := abs_cases y
  have hY1 : 1 ≤ Y := by omega
  have p0 : 0 ≤ X * Y := Int.mul_nonneg hX hY
  have p1 : 0 ≤ r.B * (X * Y) := Int.mul_nonneg h.b0 p0
  have p2 : 0 ≤ (r.A - 2 * r.B) * (X * Y) := Int.mul_nonneg (by have := h.ba; omega) p0
  have q : r.A * (X * X) - 2 * (r.B * (X * Y)) + r.C * (Y * Y) ≤ prod r x y x y := by
    have e : prod r x y x y = r.A * (X * X) + 2 * (r.B * (X * Y)) + r.C * (Y * Y) ∨ prod r x y x y = r.A * (X * X) - 2 * (r.B * (X * Y)) + r.C * (Y * Y) := by
      unfold prod
      rcases ex with rfl | rfl <;> rcases ey with rfl | rfl
      · left; grind
      · right; grind
      · right; grind
      · left; grind
    omega
  have hA : 0 ≤ r.A := by have := h.a1; omega
  have hC : 0 ≤ r.C := by have := h.ac; omega
  have y2 : 1 ≤ Y * Y := by have := Int.mul_le_mul hY1 hY1 (by omega) hY; omega
  rcases Int.lt_or_le X Y with c | c
  · have p3 : 0 ≤ r.A * (X * X) := Int.mul_nonneg hA (Int.mul_nonneg hX hX)
    have p4 : 0 ≤ (r.C - r.A) * (X * Y) := Int.mul_nonneg (by have := h.ac; omega) p0
    have p5 : 1 ≤ Y * (Y - X) := by have := Int.mul_le_mul hY1 (show 1 ≤ Y - X by omega) (by omega) hY; omega
    have p6 : 0 ≤ r.C * (Y * (Y - X) - 1) := Int.mul_nonneg hC (by omega)
    have e : r.A * (X * X) - 2 * (r.B * (X * Y)) + r.C * (Y * Y) - r.C = r.A * (X * X) + (r.A - 2 * r.B) * (X * Y) + (r.C - r.A) * (X * Y) + r.C * (Y * (Y - X) - 1) := by grind
    omega
  · have p3 : 0 ≤ r.A * (X * (X - Y)) := Int.mul_nonneg hA (Int.mul_nonneg hX (by omega))
    have p4 : 0 ≤ r.C * (Y * Y - 1) := Int.mul_nonneg hC (by omega)
    have e : r.A * (X * X) - 2 * (r.B * (X * Y)) + r.C * (Y * Y) - r.C = r.A * (X * (X - Y)) + (r.A - 2 * r.B) * (X * Y) + r.C * (Y * Y - 1) := by grind
    omega
theorem min1 {r : Lat} (h : Red r) {x y : Int} (hxy : x ≠ 0 ∨ y ≠ 0) : r.A ≤ prod r x y x y := by
  by_cases hy : y = 0
  · subst hy
    have hx : x ≠ 0 := by omega
    have e : prod r x 0 x 0 = r.A * (x * x) := by unfold prod; grind
    have := sq_pos hx
    have := Int.mul_nonneg (show 0 ≤ r.A by have := h.a1; omega) (show 0 ≤ x * x - 1 by omega)
    have e2 : r.A * (x * x - 1) = r.A * (x * x) - r.A := by grind
    omega
  · have := min2 h (x := x) hy; have := h.ac; omega
theorem red_disc {r : Lat} (h : Red r) : 3 * (r.A * r.C) ≤ 4 * disc r := by
  have p1 : 0 ≤ (r.A - 2 * r.B) * (r.A + 2 * r.B) := Int.mul_nonneg (by have := h.ba; omega) (by have := h.a1; have := h.b0; omega)
  have p2 : 0 ≤ r.A * (r.C - r.A) := Int.mul_nonneg (by have := h.a1; omega) (by have := h.ac; omega)
  have e : 4 * disc r - 3 * (r.A * r.C) = (r.A - 2 * r.B) * (r.A + 2 * r.B) + r.A * (r.C - r.A) := by unfold disc; grind
  omega
theorem red_ac {r : Lat} (h : Red r) : 1 ≤ r.A * r.C := by
  have := Int.mul_le_mul h.a1 (show 1 ≤ r.C by have := h.a1; have := h.ac; omega) (by omega) (by have := h.a1; omega)
  omega
theorem red_disc_pos {r : Lat} (h : Red r) : 1 ≤ disc r := by have := red_disc h; have := red_ac h; omega
theorem sq_ge4 {x : Int} (h : 2 ≤ x ∨ x ≤ -2) : 4 ≤ x * x := by
  rcases h with h | h
  · have := Int.mul_le_mul h h (by omega) (by omega); omega
  · have := Int.mul_le_mul (show 2 ≤ -x by omega) (show 2 ≤ -x by omega) (by omega) (by omega)
    have e : -x * -x = x * x := by grind
    omega
theorem le_of_mul {n x y : Int} (hn : 0 < n) (h : n * x ≤ n * y) : x ≤ y := by
  have : 0 ≤ n * (y - x) := by rw [Int.mul_sub]; omega
  have := pos_of_mul hn this
  omega
theorem big_y {r : Lat} (h : Red r) {x y : Int} (hy : 2 ≤ y ∨ y ≤ -2) : r.C < prod r x y x y := by
  have e : r.A * prod r x y x y = (r.A * x + r.B * y) * (r.A * x + r.B * y) + disc r * (y * y) := by unfold prod disc; grind
  have p1 := sq_nonneg (r.A * x + r.B * y)
  have p2 := sq_ge4 hy
  have p3 : 0 ≤ disc r * (y * y - 4) := Int.mul_nonneg (by have := red_disc_pos h; omega) (by omega)
  have e2 : disc r * (y * y - 4) = disc r * (y * y) - 4 * disc r := by grind
  have d := red_disc h
  have : r.A * (3 * r.C) ≤ r.A * prod r x y x y := by
    have e3 : r.A * (3 * r.C) = 3 * (r.A * r.C) := by grind
    omega
  have := le_of_mul (by have := h.a1; omega) this
  have := h.a1; have := h.ac
  omega
theorem big_x {r : Lat} (h : Red r) {x y : Int} (hx : 2 ≤ x ∨ x ≤ -2) : r.A < prod r x y x y := by
  have e : r.C * prod r x y x y = (r.B * x + r.C * y) * (r.B * x + r.C * y) + disc r * (x * x) := by unfold prod disc; grind
  have p1 := sq_nonneg (r.B * x + r.C * y)
  have p2 := sq_ge4 hx
  have p3 : 0 ≤ disc r * (x * x - 4) := Int.mul_nonneg (by have := red_disc_pos h; omega) (by omega)
  have e2 : disc r * (x * x - 4) = disc r * (x * x) - 4 * disc r := by grind
  have d := red_disc h
  have : r.C * (3 * r.A) ≤ r.C * prod r x y x y := by
    have e3 : r.C * (3 * r.A) = 3 * (r.A * r.C) := by grind
    omega
  have := le_of_mul (by have := h.a1; have := h.ac; omega) this
  have := h.a1
  omega
theorem cols_nz {g : Mat} (h : det g * det g = 1) : (g.a ≠ 0 ∨ g.c ≠ 0) ∧ (g.b ≠ 0 ∨ g.d ≠ 0) ∧ (g.c ≠ 0 ∨ g.d ≠ 0) := by
  have h1 := det_pm h
  unfold det at h1
  refine ⟨?_, ?_, ?_⟩
  · by_cases a : g.a = 0
    · right; intro c; rw [a, c] at h1; simp at h1
    · left; exact a
  · by_cases b : g.b = 0
    · right; intro d; rw [b, d] at h1; simp at h1
    · left; exact b
  · by_cases c : g.c = 0
    · right; intro d; rw [c, d] at h1; simp at h1
    · left; exact c
theorem red_A {r s : Lat} {g : Mat} (hr : Red r) (hg : det g * det g = 1) (h : lead r g = s) : r.A ≤ s.A := by
  rw [← h]; exact min1 hr (cols_nz hg).1
theorem red_C {r s : Lat} {g : Mat} (hr : Red r) (hg : det g * det g = 1) (h : lead r g = s) (ha : s.A = r.A) (hs : s.A ≤ s.C) : r.C ≤ s.C := by
  rcases (cols_nz hg).2.2 with c | d
  · have := min2 hr (x := g.a) c
    have e : s.A = prod r g.a g.c g.a g.c := by rw [← h]; rfl
    have := hr.ac
    omega
  · have := min2 hr (x := g.b) d
    have e : s.C = prod r g.b g.d g.b g.d := by rw [← h]; rfl
    omega
theorem red_unique {r s : Lat} {g : Mat} (hr : Red r) (hs : Red s) (hg : det g * det g = 1) (h : lead r g = s) : r = s := by
  have h' : lead s (inv g) = r := by rw [← h]; exact lead_inv hg
  have hg' : det (inv g) * det (inv g) = 1 := by rw [det_inv hg]; exact hg
  have eA : r.A = s.A := Int.le_antisymm (red_A hr hg h) (red_A hs hg' h')
  have eC : r.C = s.C := Int.le_antisymm (red_C hr hg h eA.symm hs.ac) (red_C hs hg' h' eA hr.ac)
  have eD : disc s = disc r := by rw [← h, disc_lead, hg]; omega
  unfold disc at eD
  rw [eA, eC] at eD
  have e : (s.B - r.B) * (s.B + r.B) = 0 := by grind
  have eB : r.B = s.B := by
    have := hr.b0; have := hs.b0
    rcases Int.mul_eq_zero.1 e with h | h <;> omega
  cases r; cases s
  simp only at eA eB eC
  subst eA eB eC
  rfl
/-- A matrix keeps a lattice. -/
def Keep (l : Lat) (m : Mat) : Prop := lead l m = l
instance (l : Lat) (m : Mat) : Decidable (Keep l m) := inferInstanceAs (Decidable (_ = _))
theorem keep_det {l : Lat} {m : Mat} (hd : 1 ≤ disc l) (h : Keep l m) : det m * det m = 1 := by
  have e := disc_lead l m
  rw [h] at e
  have : (det m * det m - 1) * disc l = 0 := by grind
  rcases Int.mul_eq_zero.1 this with h | h <;> omega
theorem keep_small {r : Lat} {g : Mat} (hr : Red r) (h : Keep r g) : (-1 ≤ g.a ∧ g.a ≤ 1) ∧ (-1 ≤ g.b ∧ g.b ≤ 1) ∧ (-1 ≤ g.c ∧ g.c ≤ 1) ∧ (-1 ≤ g.d ∧ g.d ≤ 1) := by
  have hd := keep_det (red_disc_pos hr) h
  have eA : prod r g.a g.c g.a g.c = r.A := congrArg Lat.A h
  have eB : prod r g.a g.c g.b g.d = r.B := congrArg Lat.B h
  have eC : prod r g.b g.d g.b g.d = r.C := congrArg Lat.C h
  have ac := hr.ac
  have ha : -1 ≤ g.a ∧ g.a ≤ 1 := by
    by_cases c : 2 ≤ g.a ∨ g.a ≤ -2
    · have := big_x hr (y := g.c) c; omega
    · omega
  have hc : -1 ≤ g.c ∧ g.c ≤ 1 := by
    by_cases c : 2 ≤ g.c ∨ g.c ≤ -2
    · have := big_y hr (x := g.a) c; omega
    · omega
  have hdd : -1 ≤ g.d ∧ g.d ≤ 1 := by
    by_cases c : 2 ≤ g.d ∨ g.d ≤ -2
    · have := big_y hr (x := g.b) c; omega
    · omega
  refine ⟨ha, ?_, hc, hdd⟩
  by_cases c0 : g.c = 0
  · have hp := det_pm hd
    unfold det at hp
    rw [c0] at hp eB
    simp only [Int.mul_zero, Int.sub_zero] at hp
    have e1 : prod r g.a 0 g.b g.d = r.A * (g.a * g.b) + r.B * (g.a * g.d) := by unfold prod; grind
    rw [e1] at eB
    have a0 := hr.a1
    have b0 := hr.b0
    have ba := hr.ba
    have hga : g.a = 1 ∨ g.a = -1 := by
      rcases (show g.a = -1 ∨ g.a = 0 ∨ g.a = 1 by omega) with h | h | h
      · omega
      · rw [h] at hp; simp at hp
      · omega
    have hb2 : ∀ b : Int, r.A * b = 0 ∨ r.A * b = 2 * r.B → -1 ≤ b ∧ b ≤ 1 := by
      intro b hb
      constructor
      · rcases Int.lt_or_le b (-1) with c | c
        · have := Int.mul_le_mul_of_nonneg_left (show b ≤ -2 by omega) (show 0 ≤ r.A by omega); omega
        · omega
      · rcases Int.lt_or_le 1 b with c | c
        · have := Int.mul_le_mul_of_nonneg_left (show 2 ≤ b by omega) (show 0 ≤ r.A by omega); omega
        · omega
    rcases hga with h | h <;> rw [h] at hp eB <;> rcases hp with hp | hp
    · have : g.d = 1 := by omega
      rw [this] at eB; exact hb2 g.b (by left; have : r.A * (1 * g.b) = r.A * g.b := (by grind); omega)
    · have : g.d = -1 := by omega
      rw [this] at eB; exact hb2 g.b (by right; have : r.A * (1 * g.b) = r.A * g.b := (by grind); omega)
    · have : g.d = -1 := by omega
      rw [this] at eB
      have := hb2 (-g.b) (by left; have : r.A * (-1 * g.b) = r.A * -g.b := (by grind); omega)
      omega
    · have : g.d = 1 := by omega
      rw [this] at eB
      have := hb2 (-g.b) (by right; have : r.A * (-1 * g.b) = r.A * -g.b := (by grind); omega)
      omega
  · have := min2 hr (x := g.a) c0
    have eAC : r.A = r.C := by omega
    by_cases c : 2 ≤ g.b ∨ g.b ≤ -2
    · have := big_x hr (y := g.d) c; omega
    · omega
end Go.Proofs.Ytmcajdepoohlhaa.Spec
