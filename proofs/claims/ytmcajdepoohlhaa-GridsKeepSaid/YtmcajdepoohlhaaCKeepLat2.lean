/- Bounds on matrices that lead from a valid lattice to a small one; one round of the reduction; the matrices that keep a reduced lattice, counted; an order of matrices and sorting by it. Plain facts, no condition. -/
import Derived.Test.YtmcajdepoohlhaaCKeepLat
namespace Go.Proofs.Ytmcajdepoohlhaa.Spec
/-- A valid lattice. -/
structure Valid (l : Lat) : Prop where
  a1 : 1 ≤ l.A
  a2 : l.A ≤ 10000
  c1 : 1 ≤ l.C
  c2 : l.C ≤ 10000
  b1 : -10000 ≤ l.B
  b2 : l.B ≤ 10000
  d1 : 1 ≤ disc l
theorem le_10000 {y : Int} (h : y * y ≤ 100000000) : -10000 ≤ y ∧ y ≤ 10000 := by
  constructor
  · rcases Int.lt_or_le y (-10000) with c | c
    · have := Int.mul_le_mul (show 10001 ≤ -y by omega) (show 10001 ≤ -y by omega) (by omega) (by omega)
      have e : -y * -y = y * y := by grind
      omega
    · exact c
  · rcases Int.lt_or_le 10000 y with c | c
    · have := Int.mul_le_mul (show 10001 ≤ y by omega) (show 10001 ≤ y by omega) (by omega) (by omega)
      omega
    · exact c
theorem step_bd {l : Lat} (h : Valid l) {x y : Int} (hq : prod l x y x y ≤ 10000) : (-10000 ≤ x ∧ x ≤ 10000) ∧ (-10000 ≤ y ∧ y ≤ 10000) := by
  have e1 : l.C * prod l x y x y = (l.B * x + l.C * y) * (l.B * x + l.C * y) + disc l * (x * x) := by unfold prod disc; grind
  have e2 : l.A * prod l x y x y = (l.A * x + l.B * y) * (l.A * x + l.B * y) + disc l * (y * y) := by unfold prod disc; grind
  have s1 := sq_nonneg (l.B * x + l.C * y)
  have s2 := sq_nonneg (l.A * x + l.B * y)
  have p1 : 0 ≤ (disc l - 1) * (x * x) := Int.mul_nonneg (by have := h.d1; omega) (sq_nonneg x)
  have p2 : 0 ≤ (disc l - 1) * (y * y) := Int.mul_nonneg (by have := h.d1; omega) (sq_nonneg y)
  have q1 : (disc l - 1) * (x * x) = disc l * (x * x) - x * x := by grind
  have q2 : (disc l - 1) * (y * y) = disc l * (y * y) - y * y := by grind
  have xx := sq_nonneg x
  have yy := sq_nonneg y
  have hq0 : 0 ≤ prod l x y x y := pos_of_mul (n := l.A) (by have := h.a1; omega) (by omega)
  have m1 : l.C * prod l x y x y ≤ 10000 * 10000 := Int.mul_le_mul h.c2 hq hq0 (by omega)
  have m2 : l.A * prod l x y x y ≤ 10000 * 10000 := Int.mul_le_mul h.a2 hq hq0 (by omega)
  exact ⟨le_10000 (by omega), le_10000 (by omega)⟩
/-- The numbers of a matrix are small. -/
def Small (m : Mat) : Prop := (-10000 ≤ m.a ∧ m.a ≤ 10000) ∧ (-10000 ≤ m.b ∧ m.b ≤ 10000) ∧ (-10000 ≤ m.c ∧ m.c ≤ 10000) ∧ (-10000 ≤ m.d ∧ m.d ≤ 10000)
theorem lead_small {l : Lat} (h : Valid l) {m : Mat} (hA : (lead l m).A ≤ 10000) (hC : (lead l m).C ≤ 10000) : Small m := by
  have h1 := step_bd h (x := m.a) (y := m.c) hA
  have h2 := step_bd h (x := m.b) (y := m.d) hC
  exact ⟨h1.1, h2.1, h1.2, h2.2⟩
/-- What holds at each round of the reduction. -/
structure Round (l0 l : Lat) (m : Mat) : Prop where
  ld : lead l0 m = l
  dd : det m * det m = 1
  a1 : 1 ≤ l.A
  a2 : l.A ≤ 10000
  c1 : 1 ≤ l.C
  c2 : l.C ≤ 10000
  b1 : -10000 ≤ l.B
  b2 : l.B ≤ 10000
theorem Round.start {l : Lat} (h : Valid l) : Round l l one := ⟨lead_one l, rfl, h.a1, h.a2, h.c1, h.c2, h.b1, h.b2⟩
theorem Round.disc {l0 l : Lat} {m : Mat} (h : Round l0 l m) : Spec.disc l = Spec.disc l0 := by rw [← h.ld, disc_lead, h.dd, Int.one_mul]
theorem Round.small {l0 l : Lat} {m : Mat} (h0 : Valid l0) (h : Round l0 l m) : Small m := lead_small h0 (by rw [h.ld]; exact h.a2) (by rw [h.ld]; exact h.c2)
/-- The second step becomes as short as it can. -/
def shear (k : Int) : Mat := ⟨1, -k, 0, 1⟩
theorem lead_shear (l : Lat) (k : Int) : lead l (shear k) = ⟨l.A, l.B - k * l.A, l.C - 2 * k * l.B + k * k * l.A⟩ := by
  simp only [lead, shear, prod, Lat.mk.injEq]
  refine ⟨?_, ?_, ?_⟩ <;> grind
theorem near {A B : Int} (hA : 1 ≤ A) : -A ≤ 2 * (B - (2 * B + A) / (2 * A) * A) ∧ 2 * (B - (2 * B + A) / (2 * A) * A) < A := by
  have h1 := Int.emod_nonneg (2 * B + A) (show 2 * A ≠ 0 by omega)
  have h2 := Int.emod_lt_of_pos (2 * B + A) (show 0 < 2 * A by omega)
  have h3 := Int.mul_ediv_add_emod (2 * B + A) (2 * A)
  have e : 2 * A * ((2 * B + A) / (2 * A)) = 2 * ((2 * B + A) / (2 * A) * A) := by grind
  omega
theorem Round.shear {l0 l : Lat} {m : Mat} (h0 : Valid l0) (h : Round l0 l m) : Round l0 (lead l (shear ((2 * l.B + l.A) / (2 * l.A)))) (mul m (shear ((2 * l.B + l.A) / (2 * l.A)))) ∧
    -l.A ≤ 2 * (lead l (Spec.shear ((2 * l.B + l.A) / (2 * l.A)))).B ∧ 2 * (lead l (Spec.shear ((2 * l.B + l.A) / (2 * l.A)))).B < l.A := by
  have hn := near (B := l.B) h.a1
  generalize (2 * l.B + l.A) / (2 * l.A) = k at *
  have e := lead_shear l k
  have hdet : det (Spec.shear k) = 1 := by simp [det, Spec.shear]
  have hd : Spec.disc (lead l (Spec.shear k)) = Spec.disc l := by rw [disc_lead, hdet]; omega
  have hD := h.disc
  have d1 := h0.d1
  have hk : (lead l (Spec.shear k)).B = l.B - k * l.A := by rw [e]
  have hA : (lead l (Spec.shear k)).A = l.A := by rw [e]
  rw [hk]
  refine ⟨?_, hn⟩
  have eC1 : l.A * (lead l (Spec.shear k)).C = (l.B - k * l.A) * (l.B - k * l.A) + Spec.disc l := by
    have : Spec.disc (lead l (Spec.shear k)) = l.A * (lead l (Spec.shear k)).C - (l.B - k * l.A) * (l.B - k * l.A) := by unfold Spec.disc; rw [hA, hk]
    omega
  have eC0 : l.A * l.C = l.B * l.B + Spec.disc l := by unfold Spec.disc; omega
  have sq : (l.B - k * l.A) * (l.B - k * l.A) ≤ l.B * l.B := by
    by_cases c : l.A ≤ 2 * l.B ∨ 2 * l.B ≤ -l.A
    · have p : 0 ≤ (l.A - 2 * (l.B - k * l.A)) * (l.A + 2 * (l.B - k * l.A)) := Int.mul_nonneg (by omega) (by omega)
      have p' : 0 ≤ (2 * l.B - l.A) * (2 * l.B + l.A) := by
        rcases c with c | c
        · exact Int.mul_nonneg (by omega) (by have := h.a1; omega)
        · exact Int.mul_nonneg_of_nonpos_of_nonpos (by have := h.a1; omega) (by omega)
      have q : (l.A - 2 * (l.B - k * l.A)) * (l.A + 2 * (l.B - k * l.A)) = l.A * l.A - 4 * ((l.B - k * l.A) * (l.B - k * l.A)) := by grind
      have q' : (2 * l.B - l.A) * (2 * l.B + l.A) = 4 * (l.B * l.B) - l.A * l.A := by grind
      omega
    · have hk0 : k = 0 := by
        rcases Int.lt_or_le 0 k with g | g
        · have : l.A * 1 ≤ l.A * k := Int.mul_le_mul_of_nonneg_left (by omega) (by have := h.a1; omega)
          have : k * l.A = l.A * k := by grind
          omega
        · rcases Int.lt_or_le k 0 with g' | g'
          · have : l.A * k ≤ l.A * (-1) := Int.mul_le_mul_of_nonneg_left (by omega) (by have := h.a1; omega)
            have : k * l.A = l.A * k := by grind
            omega
          · omega
      subst hk0
      simp
  have a1 := h.a1
  have hC1 : 1 ≤ (lead l (Spec.shear k)).C := by
    have : 0 < l.A * (lead l (Spec.shear k)).C := by have := sq_nonneg (l.B - k * l.A); omega
    rcases Int.lt_or_le 0 (lead l (Spec.shear k)).C with g | g
    · omega
    · have := Int.mul_nonneg (show 0 ≤ l.A by omega) (show 0 ≤ -(lead l (Spec.shear k)).C by omega)
      have e' : l.A * -(lead l (Spec.shear k)).C = -(l.A * (lead l (Spec.shear k)).C) := by grind
      omega
  have hC2 : (lead l (Spec.shear k)).C ≤ l.C := le_of_mul (n := l.A) (by omega) (by omega)
  exact ⟨by rw [← lead_mul, h.ld], by rw [det_mul, hdet, Int.mul_one]; exact h.dd, by rw [hA]; exact h.a1, by rw [hA]; exact h.a2, hC1, by have := h.c2; omega, by rw [hk]; have := h.a2; omega, by rw [hk]; have := h.a2; omega⟩
theorem Round.flip {l0 l : Lat} {m : Mat} (h : Round l0 l m) : Round l0 ⟨l.A, -l.B, l.C⟩ ⟨m.a, -m.b, m.c, -m.d⟩ := by
  refine ⟨?_, ?_, h.a1, h.a2, h.c1, h.c2, by have := h.b2; simp only; omega, by have := h.b1; simp only; omega⟩
  · rw [← h.ld]
    simp only [lead, prod, Lat.mk.injEq]
    refine ⟨?_, ?_, ?_⟩ <;> grind
  · have := h.dd
    simp only [det] at this ⊢
    grind
theorem Round.swap {l0 l : Lat} {m : Mat} (h : Round l0 l m) : Round l0 ⟨l.C, l.B, l.A⟩ ⟨m.b, m.a, m.d, m.c⟩ := by
  refine ⟨?_, ?_, h.c1, h.c2, h.a1, h.a2, h.b1, h.b2⟩
  · rw [← h.ld]
    simp only [lead, prod, Lat.mk.injEq]
    refine ⟨?_, ?_, ?_⟩ <;> grind
  · have := h.dd
    simp only [det] at this ⊢
    grind
end Go.Proofs.Ytmcajdepoohlhaa.Spec
