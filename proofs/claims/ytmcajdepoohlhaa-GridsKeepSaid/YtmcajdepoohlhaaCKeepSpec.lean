/- Plain lemmas on whole numbers: products within bounds; directions in the plane and their order (a sign of a determinant within half a turn). No condition. -/
import Derived.RowKit
namespace Go.Proofs.Ytmcajdepoohlhaa.Spec
open Go.RowKit
theorem w64 {n : Int} (h1 : -9223372036854775808 ≤ n) (h2 : n ≤ 9223372036854775807) : wrap64 n = n := by unfold wrap64; omega
theorem mul_bd {x y A B : Int} (hx : -A ≤ x ∧ x ≤ A) (hy : -B ≤ y ∧ y ≤ B) : -(A * B) ≤ x * y ∧ x * y ≤ A * B := by
  have hA : 0 ≤ A := by omega
  have hB : 0 ≤ B := by omega
  have e1 : (A - x) * (B - y) ≥ 0 := Int.mul_nonneg (by omega) (by omega)
  have e2 : (A + x) * (B + y) ≥ 0 := Int.mul_nonneg (by omega) (by omega)
  have e3 : (A - x) * (B + y) ≥ 0 := Int.mul_nonneg (by omega) (by omega)
  have e4 : (A + x) * (B - y) ≥ 0 := Int.mul_nonneg (by omega) (by omega)
  simp only [Int.sub_mul, Int.mul_sub, Int.add_mul, Int.mul_add] at e1 e2 e3 e4
  constructor <;> omega
/-- A step. -/
structure Vec where
  x : Int
  y : Int
  deriving DecidableEq
def crs (a b : Vec) : Int := a.x * b.y - a.y * b.x
def dot (a b : Vec) : Int := a.x * b.x + a.y * b.y
def cmpI (a b : Int) : Int := if a < b then -1 else if b < a then 1 else 0
def half (f t : Vec) : Int := if 0 < crs f t then 0 else if crs f t = 0 then if 0 < dot f t then 0 else 1 else 1
def turn (f a b : Vec) : Int := if cmpI (half f a) (half f b) = 0 then cmpI 0 (crs a b) else cmpI (half f a) (half f b)
def Nz (a : Vec) : Prop := a.x ≠ 0 ∨ a.y ≠ 0
theorem crs_anti (a b : Vec) : crs b a = - crs a b := by unfold crs; grind
theorem cmpI_anti (a b : Int) : cmpI b a = - cmpI a b := by unfold cmpI; split <;> split <;> (try split) <;> omega
theorem cmpI_neg (a : Int) : cmpI 0 (-a) = - cmpI 0 a := by unfold cmpI; split <;> split <;> (try split) <;> (try split) <;> omega
theorem turn_anti (f a b : Vec) : turn f b a = - turn f a b := by
  unfold turn
  rw [cmpI_anti (half f a) (half f b), crs_anti a b, cmpI_neg]
  split <;> split <;> omega
theorem half_01 (f t : Vec) : half f t = 0 ∨ half f t = 1 := by unfold half; split <;> (try split) <;> (try split) <;> simp
theorem sq_pos {x : Int} (h : x ≠ 0) : 0 < x * x := by
  rcases Int.lt_or_gt_of_ne h with h | h
  · exact Int.mul_pos_of_neg_of_neg h h
  · exact Int.mul_pos h h
theorem sq_nonneg (x : Int) : 0 ≤ x * x := by
  by_cases h : x = 0
  · subst h; simp
  · exact Int.le_of_lt (sq_pos h)
theorem dot_self_pos {f : Vec} (h : Nz f) : 0 < dot f f := by
  unfold dot
  have := sq_nonneg f.x
  have := sq_nonneg f.y
  rcases h with h | h
  · have := sq_pos h; omega
  · have := sq_pos h; omega
theorem crs_self (f : Vec) : crs f f = 0 := by unfold crs; grind
theorem half_self {f : Vec} (h : Nz f) : half f f = 0 := by
  unfold half
  rw [crs_self, if_neg (by omega), if_pos rfl, if_pos (dot_self_pos h)]
theorem crs_dot (f a b : Vec) : dot f f * crs a b = dot f a * crs f b - crs f a * dot f b := by unfold dot crs; grind
theorem crs_three (f a b c : Vec) : crs f b * crs a c = crs f a * crs b c + crs f c * crs a b := by unfold crs; grind
theorem dot_crs_zero {f a : Vec} (hf : Nz f) (ha : Nz a) (h0 : crs f a = 0) : dot f a ≠ 0 := by
  intro h1
  have e : dot f f * dot a a = dot f a * dot f a + crs f a * crs f a := by unfold dot crs; grind
  rw [h0, h1] at e
  have := Int.mul_pos (dot_self_pos hf) (dot_self_pos ha)
  omega
/-- In the first half: what holds. -/
theorem half_zero {f a : Vec} (h : half f a = 0) : 0 < crs f a ∨ crs f a = 0 ∧ 0 < dot f a := by
  unfold half at h
  split at h
  · left; assumption
  · split at h
    · split at h
      · right; exact ⟨‹_›, ‹_›⟩
      · omega
    · omega
theorem half_one {f a : Vec} (hf : Nz f) (ha : Nz a) (h : half f a = 1) : crs f a < 0 ∨ crs f a = 0 ∧ dot f a < 0 := by
  unfold half at h
  split at h
  · omega
  · split at h
    · split at h
      · omega
      · right
        have := dot_crs_zero hf ha ‹_›
        exact ⟨‹_›, by omega⟩
    · left; omega
def neg (a : Vec) : Vec := ⟨-a.x, -a.y⟩
theorem crs_neg (f a : Vec) : crs f (neg a) = - crs f a := by unfold crs neg; grind
theorem crs_neg2 (a b : Vec) : crs (neg a) (neg b) = crs a b := by unfold crs neg; grind
theorem dot_neg (f a : Vec) : dot f (neg a) = - dot f a := by unfold dot neg; grind
/-- The first half, without a name. -/
def Up (f a : Vec) : Prop := 0 < crs f a ∨ crs f a = 0 ∧ 0 < dot f a
theorem pos_of_mul {n x : Int} (hn : 0 < n) (h : 0 ≤ n * x) : 0 ≤ x := by
  rcases Int.lt_or_le x 0 with h1 | h1
  · have := Int.mul_neg_of_pos_of_neg hn h1; omega
  · exact h1
theorem zero_of_mul {n x : Int} (hn : 0 < n) (h : n * x = 0) : x = 0 := by
  rcases Int.mul_eq_zero.1 h with h | h
  · omega
  · exact h
theorem up_trans {f a b c : Vec} (hf : Nz f) (ha : Up f a) (hb : Up f b) (hc : Up f c) (h1 : 0 ≤ crs a b) (h2 : 0 ≤ crs b c) : 0 ≤ crs a c ∧ (crs a c = 0 ↔ crs a b = 0 ∧ crs b c = 0) := by
  have e3 := crs_three f a b c
  have N := dot_self_pos hf
  have hva : 0 ≤ crs f a := by rcases ha with h | h <;> omega
  have hvc : 0 ≤ crs f c := by rcases hc with h | h <;> omega
  have p1 := Int.mul_nonneg hva h2
  have p2 := Int.mul_nonneg hvc h1
  rcases hb with hb | ⟨hb, ub⟩
  · have h0 : 0 ≤ crs a c := pos_of_mul hb (by omega)
    refine ⟨h0, ?_, ?_⟩
    · intro hz
      rw [hz, Int.mul_zero] at e3
      have q1 : crs f a * crs b c = 0 := by omega
      have q2 : crs f c * crs a b = 0 := by omega
      rcases ha with ha | ⟨ha, ua⟩
      · have hbc := zero_of_mul ha q1
        refine ⟨?_, hbc⟩
        rcases hc with hc | ⟨hc, uc⟩
        · exact zero_of_mul hc q2
        · have e := crs_dot f b c
          rw [hbc, hc] at e
          have := Int.mul_pos hb uc
          omega
      · have e := crs_dot f a c
        rw [hz, ha] at e
        have hvc0 : crs f c = 0 := by
          have : dot f a * crs f c = 0 := by omega
          exact zero_of_mul ua this
        have uc : 0 < dot f c := by rcases hc with h | h <;> omega
        have e' := crs_dot f b c
        rw [hvc0] at e'
        have := Int.mul_pos hb uc
        have := Int.mul_nonneg (Int.le_of_lt N) h2
        omega
    · rintro ⟨hab, hbc⟩
      rw [hab, hbc] at e3
      exact zero_of_mul hb (by omega)
  · have e := crs_dot f a b
    rw [hb] at e
    have q := Int.mul_nonneg (Int.le_of_lt N) h1
    have hva0 : crs f a = 0 := by
      rcases Int.lt_or_le 0 (crs f a) with h | h
      · have := Int.mul_pos h ub; omega
      · omega
    have ua : 0 < dot f a := by rcases ha with h | h <;> omega
    have e' := crs_dot f a c
    rw [hva0] at e'
    have q' := Int.mul_nonneg (Int.le_of_lt ua) hvc
    have h0 : 0 ≤ crs a c := pos_of_mul N (by omega)
    refine ⟨h0, ?_, ?_⟩
    · intro hz
      rw [hz] at e'
      have hvc0 : crs f c = 0 := zero_of_mul ua (by omega)
      rw [hva0] at e
      refine ⟨zero_of_mul N (by omega), ?_⟩
      have e'' := crs_dot f b c
      rw [hb, hvc0] at e''
      exact zero_of_mul N (by omega)
    · rintro ⟨hab, hbc⟩
      have e'' := crs_dot f b c
      rw [hb, hbc] at e''
      have hvc0 : crs f c = 0 := zero_of_mul ub (by omega)
      rw [hvc0] at e'
      exact zero_of_mul N (by omega)
theorem up_of_zero {f a : Vec} (h : half f a = 0) : Up f a := half_zero h
theorem up_of_one {f a : Vec} (hf : Nz f) (ha : Nz a) (h : half f a = 1) : Up f (neg a) := by
  unfold Up
  rw [crs_neg, dot_neg]
  rcases half_one hf ha h with h | h
  · left; omega
  · right; omega
theorem cmpI_le {x : Int} : cmpI 0 x ≤ 0 ↔ 0 ≤ x := by unfold cmpI; split <;> (try split) <;> omega
theorem cmpI_zero {x : Int} : cmpI 0 x = 0 ↔ x = 0 := by unfold cmpI; split <;> (try split) <;> omega
theorem turn_same {f a b : Vec} (h : half f a = half f b) : turn f a b = cmpI 0 (crs a b) := by
  unfold turn
  rw [h, if_pos (by unfold cmpI; simp)]
theorem turn_less {f a b : Vec} (h : half f a < half f b) : turn f a b = -1 := by
  unfold turn
  have : cmpI (half f a) (half f b) = -1 := by unfold cmpI; rw [if_pos h]
  rw [this]; simp
theorem turn_more {f a b : Vec} (h : half f b < half f a) : turn f a b = 1 := by
  unfold turn
  have : cmpI (half f a) (half f b) = 1 := by unfold cmpI; rw [if_neg (by omega), if_pos h]
  rw [this]; simp
theorem turn_first {f b : Vec} (hf : Nz f) : turn f f b ≤ 0 := by
  have h0 := half_self hf
  rcases half_01 f b with h | h
  · rw [turn_same (by omega), cmpI_le]
    rcases half_zero h with h | h <;> omega
  · rw [turn_less (by omega)]; omega
theorem turn_trans {f a b c : Vec} (hf : Nz f) (ha : Nz a) (hb : Nz b) (hc : Nz c) (h1 : turn f a b ≤ 0) (h2 : turn f b c ≤ 0) :
    turn f a c ≤ 0 ∧ (turn f a c = 0 ↔ turn f a b = 0 ∧ turn f b c = 0) := by
  rcases half_01 f a with xa | xa <;> rcases half_01 f b with xb | xb <;> rcases half_01 f c with xc | xc
  · rw [turn_same (by omega), cmpI_le] at h1 h2
    rw [turn_same (by omega), turn_same (by omega), turn_same (by omega), cmpI_le, cmpI_zero, cmpI_zero, cmpI_zero]
    exact up_trans hf (up_of_zero xa) (up_of_zero xb) (up_of_zero xc) h1 h2
  · rw [turn_less (a := a) (b := c) (by omega), turn_less (a := b) (b := c) (by omega)]; omega
  · rw [turn_more (a := b) (b := c) (by omega)] at h2; omega
  · rw [turn_less (a := a) (b := c) (by omega), turn_less (a := a) (b := b) (by omega)]; omega
  · rw [turn_more (a := a) (b := b) (by omega)] at h1; omega
  · rw [turn_more (a := a) (b := b) (by omega)] at h1; omega
  · rw [turn_more (a := b) (b := c) (by omega)] at h2; omega
  · rw [turn_same (by omega), cmpI_le] at h1 h2
    rw [turn_same (by omega), turn_same (by omega), turn_same (by omega), cmpI_le, cmpI_zero, cmpI_zero, cmpI_zero]
    rw [← crs_neg2 a b] at h1 ⊢
    rw [← crs_neg2 b c] at h2 ⊢
    rw [← crs_neg2 a c]
    exact up_trans hf (up_of_one hf ha xa) (up_of_one hf hb xb) (up_of_one hf hc xc) h1 h2
theorem cmpI_small (a b : Int) : -1 ≤ cmpI a b ∧ cmpI a b ≤ 1 := by unfold cmpI; split <;> (try split) <;> omega
theorem turn_small (f a b : Vec) : -1 ≤ turn f a b ∧ turn f a b ≤ 1 := by
  unfold turn
  split
  · exact cmpI_small _ _
  · exact cmpI_small _ _
end Go.Proofs.Ytmcajdepoohlhaa.Spec
