/- What the printed functions of the layer 'grids' come to on lattices and matrices: products, the reduction, the group, the order of matrices. Conditions: the bounds that each states, and enough rounds. -/
import Derived.Test.YtmcajdepoohlhaaCKeepLat3
import Derived.Test.YtmcajdepoohlhaaCKeepVal
import Derived.Test.YtmcajdepoohlhaaCKeepP2
import Derived.Test.YtmcajdepoohlhaaCKeepP0
namespace Go.Proofs.Ytmcajdepoohlhaa.Val
open Go.RowKit Go.Proofs.Ytmcajdepoohlhaa.G Go.Proofs.Ytmcajdepoohlhaa.Spec Go.Proofs.YtmcajdepoohlhaaW.PrintWords
def toM (s : S25) : Mat := ⟨s.f0, s.f1, s.f2, s.f3⟩
def ofM (m : Mat) : S25 := ⟨m.a, m.b, m.c, m.d⟩
theorem to_of (m : Mat) : toM (ofM m) = m := rfl
theorem of_to (s : S25) : ofM (toM s) = s := rfl
def Bd (B : Int) (m : Mat) : Prop := (-B ≤ m.a ∧ m.a ≤ B) ∧ (-B ≤ m.b ∧ m.b ≤ B) ∧ (-B ≤ m.c ∧ m.c ≤ B) ∧ (-B ≤ m.d ∧ m.d ≤ B)
theorem Bd.mono {B C : Int} {m : Mat} (h : Bd B m) (hBC : B ≤ C) : Bd C m := by unfold Bd at *; omega
theorem small_bd {m : Mat} (h : Small m) : Bd 10000 m := h
theorem ediv_bd {a b : Int} (hb : 1 ≤ b) {N : Int} (ha : -N ≤ a ∧ a ≤ N) : -N ≤ a / b ∧ a / b ≤ N := by
  have h1 := Int.mul_ediv_add_emod a b
  have h2 := Int.emod_nonneg a (show b ≠ 0 by omega)
  have h3 := Int.emod_lt_of_pos a (show 0 < b by omega)
  have hN : 0 ≤ N := by omega
  constructor
  · rcases Int.lt_or_le (a / b) (-N) with c | c
    · have : b * (a / b) ≤ b * (-N - 1) := Int.mul_le_mul_of_nonneg_left (by omega) (by omega)
      have e : b * (-N - 1) = -(b * N) - b := by grind
      have : 1 * N ≤ b * N := Int.mul_le_mul_of_nonneg_right hb hN
      omega
    · exact c
  · rcases Int.lt_or_le N (a / b) with c | c
    · have : b * (N + 1) ≤ b * (a / b) := Int.mul_le_mul_of_nonneg_left (by omega) (by omega)
      have e : b * (N + 1) = b * N + b := by grind
      have : 1 * N ≤ b * N := Int.mul_le_mul_of_nonneg_right hb hN
      omega
    · exact c
theorem floor_val (a b : Int) (hb : 1 ≤ b) (ha : -1000000 ≤ a ∧ a ≤ 1000000) : grids_floor.f a b = some (a / b) := by
  have hd := ediv_bd hb ha
  unfold grids_floor.f
  rw [if_neg (by omega)]
  simp only [Option.bind_some]
  rw [Int.tdiv_eq_ediv, Int.tmod_eq_emod]
  have hs : Int.sign b = 1 := Int.sign_eq_one_of_pos (by omega)
  have hm := Int.emod_nonneg a (show b ≠ 0 by omega)
  have hl := Int.emod_lt_of_pos a (show 0 < b by omega)
  have hnb : decide (b < 0) = false := by simp; omega
  by_cases c : 0 ≤ a ∨ b ∣ a
  · rw [if_pos c, if_pos c]
    simp only [Int.add_zero]
    rw [w64 (by omega) (by omega)]
    by_cases z : a % b = 0
    · rw [if_pos (by simpa using z)]
    · rw [if_neg (by simpa using z)]
      have : 0 ≤ a := by
        rcases c with c | c
        · exact c
        · exact absurd (Int.emod_eq_zero_of_dvd c) z
      have ha' : decide (a < 0) = false := by simp; omega
      rw [ha', hnb, if_neg (by simp)]
  · rw [if_neg c, if_neg c, hs]
    have hn : a < 0 := by omega
    have ha' : decide (a < 0) = true := by simpa using hn
    have hz : ¬ (a % b - (b.natAbs : Int) = 0) := by omega
    rw [if_neg hz, ha', hnb, if_pos (by simp)]
    simp (disch := omega) only [w64]
    congr 1
    omega
theorem times_val (m n : Mat) (hm : Bd 1000000 m) (hn : Bd 1000000 n) : grids_times.f m.a m.b m.c m.d n.a n.b n.c n.d = some ((mul m n).a, (mul m n).b, (mul m n).c, (mul m n).d) := by
  obtain ⟨ha, hb, hc, hd⟩ := hm
  obtain ⟨ka, kb, kc, kd⟩ := hn
  have p1 := mul_bd ha ka
  have p2 := mul_bd hb kc
  have p3 := mul_bd ha kb
  have p4 := mul_bd hb kd
  have p5 := mul_bd hc ka
  have p6 := mul_bd hd kc
  have p7 := mul_bd hc kb
  have p8 := mul_bd hd kd
  unfold grids_times.f
  simp (disch := omega) only [w64, Option.bind_some]
  rfl
/-- The numbers of a lattice are small. -/
def LB (l : Lat) : Prop := (-10000 ≤ l.A ∧ l.A ≤ 10000) ∧ (-10000 ≤ l.B ∧ l.B ≤ 10000) ∧ (-10000 ≤ l.C ∧ l.C ≤ 10000)
theorem product_val (l : Lat) (x y u v : Int) (hl : LB l) (hx : -2000000 ≤ x ∧ x ≤ 2000000) (hy : -2000000 ≤ y ∧ y ≤ 2000000) (hu : -2000000 ≤ u ∧ u ≤ 2000000) (hv : -2000000 ≤ v ∧ v ≤ 2000000) :
    grids_step_product.f x y l.A l.B l.C u v = some (prod l x y u v) := by
  obtain ⟨hA, hB, hC⟩ := hl
  have p1 := mul_bd hA hu
  have p2 := mul_bd hB hv
  have p3 := mul_bd hB hu
  have p4 := mul_bd hC hv
  have q1 := mul_bd hx (y := l.A * u + l.B * v) (B := 40000000000) (by omega)
  have q2 := mul_bd hy (y := l.B * u + l.C * v) (B := 40000000000) (by omega)
  unfold grids_step_product.f
  simp (disch := omega) only [w64, Option.bind_some]
  congr 1
  unfold prod
  grind
theorem glead_val (l : Lat) (m : Mat) (hl : LB l) (hm : Bd 1000000 m) : grids_lead.f l.A l.B l.C m.a m.b m.c m.d = some ((lead l m).A, (lead l m).B, (lead l m).C) := by
  obtain ⟨ha, hb, hc, hd⟩ := hm
  unfold grids_lead.f
  rw [product_val l _ _ _ _ hl (by omega) (by omega) (by omega) (by omega), product_val l _ _ _ _ hl (by omega) (by omega) (by omega) (by omega), product_val l _ _ _ _ hl (by omega) (by omega) (by omega) (by omega)]
  rfl
instance (l : Lat) : Decidable (Valid l) := decidable_of_iff (1 ≤ l.A ∧ l.A ≤ 10000 ∧ 1 ≤ l.C ∧ l.C ≤ 10000 ∧ -10000 ≤ l.B ∧ l.B ≤ 10000 ∧ 1 ≤ disc l) ⟨fun ⟨a, b, c, d, e, f, g⟩ => ⟨a, b, c, d, e, f, g⟩, fun h => ⟨h.a1, h.a2, h.c1, h.c2, h.b1, h.b2, h.d1⟩⟩
theorem gcheck_val (k : Nat) (l : Lat) (hk : 1 ≤ k) : grids_Check.f k l.A l.B l.C = some (if Valid l then 0 else 2) := by
  obtain ⟨k, rfl⟩ : ∃ m, k = m + 1 := ⟨k - 1, by omega⟩
  unfold grids_Check.f
  simp only [grids_Check.j0]
  by_cases h1 : l.A < 1
  · have hv : ¬ Valid l := fun h => by have := h.a1; omega
    simp [h1, hv]
  by_cases h2 : l.C < 1
  · have hv : ¬ Valid l := fun h => by have := h.c1; omega
    simp [h1, h2, hv]
  by_cases h3 : l.A > 10000
  · have hv : ¬ Valid l := fun h => by have := h.a2; omega
    simp [h1, h2, h3, hv]
  by_cases h4 : l.C > 10000
  · have hv : ¬ Valid l := fun h => by have := h.c2; omega
    simp [h1, h2, h3, h4, hv]
  rw [if_neg h1, if_neg h2, if_neg h3, if_neg h4, outside_val _ _ (by omega) (by omega)]
  simp only [Option.bind_some]
  by_cases h5 : l.B < -10000 ∨ 10000 < l.B
  · have hv : ¬ Valid l := fun h => by have := h.b1; have := h.b2; omega
    simp [h5, hv]
  rw [if_neg (by simpa using h5)]
  have p1 := mul_bd (x := l.A) (y := l.C) (A := 10000) (B := 10000) (by omega) (by omega)
  have p2 := mul_bd (x := l.B) (y := l.B) (A := 10000) (B := 10000) (by omega) (by omega)
  simp (disch := omega) only [w64]
  have e : disc l = l.A * l.C - l.B * l.B := rfl
  by_cases h6 : l.A * l.C ≤ l.B * l.B
  · have hv : ¬ Valid l := fun h => by have := h.d1; omega
    simp [h6, hv]
  · have hv : Valid l := ⟨by omega, by omega, by omega, by omega, by omega, by omega, by omega⟩
    simp [h6, hv]
theorem valid_lb {l : Lat} (h : Valid l) : LB l := by have := h.a1; have := h.a2; have := h.b1; have := h.b2; have := h.c1; have := h.c2; unfold LB; omega
theorem round_lb {l0 l : Lat} {m : Mat} (h : Round l0 l m) : LB l := by have := h.a1; have := h.a2; have := h.b1; have := h.b2; have := h.c1; have := h.c2; unfold LB; omega
/-- The reduction: it ends, in a reduced lattice to which its matrix leads. -/
theorem reduce_loop {l0 : Lat} (h0 : Valid l0) : ∀ (n : Nat) (l : Lat) (m : Mat) (k : Nat), Round l0 l m → l.A ≤ n → 2 * n + 1 ≤ k →
    ∃ r g, grids_reduce.l0 k l.A l.B l.C m.a m.b m.c m.d = some (r.A, r.B, r.C, g.a, g.b, g.c, g.d) ∧ Round l0 r g ∧ Red r := by
  intro n
  induction n with
  | zero => intro l m k h ha; have := h.a1; omega
  | succ n ih =>
    intro l m k h ha hk
    obtain ⟨k, rfl⟩ : ∃ q, k = q + 2 := ⟨k - 2, by omega⟩
    have hlb := round_lb h
    have hsm := small_bd (h.small h0)
    obtain ⟨hA, hB, hC⟩ := hlb
    have a1 := h.a1
    obtain ⟨hr, hn1, hn2⟩ := h.shear h0
    have hq := ediv_bd (a := 2 * l.B + l.A) (b := 2 * l.A) (N := 30000) (by omega) (by omega)
    generalize hkk : (2 * l.B + l.A) / (2 * l.A) = q at *
    simp only [grids_reduce.l0]
    have t : grids_times.f m.a m.b m.c m.d 1 (-q) 0 1 = some ((mul m (shear q)).a, (mul m (shear q)).b, (mul m (shear q)).c, (mul m (shear q)).d) := times_val m (shear q) (hsm.mono (by omega)) ⟨by simp [shear], by simp [shear]; omega, by simp [shear], by simp [shear]⟩
    have p1 := mul_bd (x := q) (y := l.A) (A := 30000) (B := 10000) (by omega) (by omega)
    have p2 := mul_bd (x := 2 * q) (y := l.B) (A := 60000) (B := 10000) (by omega) (by omega)
    have p3 := mul_bd (x := q) (y := q) (A := 30000) (B := 30000) (by omega) (by omega)
    have p4 := mul_bd (x := q * q) (y := l.A) (A := 900000000) (B := 10000) (by omega) (by omega)
    have f := floor_val (2 * l.B + l.A) (2 * l.A) (by omega) (by omega)
    rw [hkk] at f
    have eS := lead_shear l q
    have hs2 := small_bd (hr.small h0)
    generalize hm2 : mul m (shear q) = m2 at *
    simp (disch := omega) only [w64, Option.bind_some, f, t]
    rw [eS] at hr hn1 hn2
    generalize hl2 : (⟨l.A, l.B - q * l.A, l.C - 2 * q * l.B + q * q * l.A⟩ : Lat) = l2 at *
    have e1 : l2.A = l.A := by rw [← hl2]
    have e2 : l2.B = l.B - q * l.A := by rw [← hl2]
    have e3 : l2.C = l.C - 2 * q * l.B + q * q * l.A := by rw [← hl2]
    rw [← e2, ← e3]
    have fin : ∀ (l3 : Lat) (m3 : Mat), Round l0 l3 m3 → l3.A = l.A → 0 ≤ l3.B → 2 * l3.B ≤ l3.A →
        ∃ r g, grids_reduce.j1 (k + 1) l.A l3.B l3.C m3.a m3.b m3.c m3.d = some (r.A, r.B, r.C, g.a, g.b, g.c, g.d) ∧ Round l0 r g ∧ Red r := by
      intro l3 m3 h3 ea hb0 hb1
      simp only [grids_reduce.j1]
      by_cases c : l.A ≤ l3.C
      · rw [if_pos c]
        exact ⟨l3, m3, by rw [ea], h3, ⟨hb0, hb1, by omega, h3.a1⟩⟩
      · rw [if_neg c]
        have h4 := h3.swap
        have := ih ⟨l3.C, l3.B, l3.A⟩ ⟨m3.b, m3.a, m3.d, m3.c⟩ k h4 (by simp only; omega) (by omega)
        rw [ea] at this
        exact this
    by_cases c : l2.B < 0
    · rw [if_pos c]
      obtain ⟨ma, mb, mc, md⟩ := hs2
      have h3 := hr.flip
      simp (disch := omega) only [w64]
      exact fin ⟨l2.A, -l2.B, l2.C⟩ ⟨m2.a, -m2.b, m2.c, -m2.d⟩ h3 e1 (by simp only; omega) (by simp only; omega)
    · rw [if_neg c]
      exact fin l2 m2 hr e1 (by omega) (by omega)
theorem reduce_val {l : Lat} (h : Valid l) : ∃ r g, (∀ k, 20100 ≤ k → grids_reduce.f k l.A l.B l.C = some (r.A, r.B, r.C, g.a, g.b, g.c, g.d)) ∧ Round l r g ∧ Red r := by
  obtain ⟨r, g, h1, h2, h3⟩ := reduce_loop h 10000 l one 20001 (Round.start h) (by have := h.a2; omega) (by omega)
  refine ⟨r, g, fun k hk => ?_, h2, h3⟩
  obtain ⟨d, rfl⟩ : ∃ d, k = 20001 + d := ⟨k - 20001, by omega⟩
  clear hk
  induction d with
  | zero => exact h1
  | succ d ih => exact grids_reduce.mono _ _ _ _ _ ih
end Go.Proofs.Ytmcajdepoohlhaa.Val
