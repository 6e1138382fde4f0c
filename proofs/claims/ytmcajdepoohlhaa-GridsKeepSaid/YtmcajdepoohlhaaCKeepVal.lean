/- What the printed functions of the layer 'grids' come to, at arguments within their bounds: points, sides, turning. Conditions: the bounds that each states, and enough rounds. -/
import Derived.Test.YtmcajdepoohlhaaCKeepSpec
import Derived.Test.YtmcajdepoohlhaaCKeepP3
import Derived.Test.YtmcajdepoohlhaaCKeepP0
namespace Go.Proofs.Ytmcajdepoohlhaa.Val
open Go.RowKit Go.Proofs.Ytmcajdepoohlhaa.G Go.Proofs.Ytmcajdepoohlhaa.Spec Go.Proofs.YtmcajdepoohlhaaW.PrintWords
theorem outside_val (a m : Int) (h0 : 0 ≤ m) (h1 : m ≤ 10000000) : grids_outside.f a m = some (decide (a < -m ∨ m < a)) := by
  unfold grids_outside.f
  rw [w64 (by omega) (by omega)]
  simp only [Option.bind_some]
  by_cases h : a < -m
  · rw [if_pos h]; simp [h]
  · rw [if_neg h]; simp [h]
/-- Is a point valid? -/
def okP (x y : Int) : Bool := decide (-1000000 ≤ x ∧ x ≤ 1000000 ∧ -1000000 ≤ y ∧ y ≤ 1000000)
theorem okP_iff {x y : Int} : okP x y = true ↔ -1000000 ≤ x ∧ x ≤ 1000000 ∧ -1000000 ≤ y ∧ y ≤ 1000000 := by simp [okP]
theorem point1_val (x y : Int) : grids_point_1.f x y = some (!okP x y) := by
  unfold grids_point_1.f
  rw [outside_val _ _ (by omega) (by omega), outside_val _ _ (by omega) (by omega)]
  simp only [Option.bind_some, okP]
  by_cases h : x < -1000000 ∨ 1000000 < x
  · rw [if_pos (by simpa using h)]
    simp
    omega
  · rw [if_neg (by simpa using h)]
    simp only [Option.some.injEq]
    by_cases g : y < -1000000 ∨ 1000000 < y <;> simp [g] <;> omega
theorem index_val (l : List S37) (hl : l.length ≤ 1000) : ∀ (d k : Nat) (i : Int), 0 ≤ i → i + d = l.length → d < k →
    ∃ r, api_GrPoint_84.l0 k l (l.length : Int) i = some r ∧ decide (r ≥ 0) = (l.drop i.toNat).any (fun p => !okP p.f0 p.f1) := by
  intro d
  induction d with
  | zero =>
    intro k i h0 h1 hk
    obtain ⟨k, rfl⟩ : ∃ m, k = m + 1 := ⟨k - 1, by omega⟩
    refine ⟨-1, by simp only [api_GrPoint_84.l0]; rw [if_neg (by omega)], ?_⟩
    rw [List.drop_eq_nil_of_le (by omega)]
    rfl
  | succ d ih =>
    intro k i h0 h1 hk
    obtain ⟨k, rfl⟩ : ∃ m, k = m + 1 := ⟨k - 1, by omega⟩
    simp only [api_GrPoint_84.l0]
    rw [if_pos (by omega), if_pos h0, if_pos (by omega), point1_val]
    simp only [Option.bind_some]
    have hlt : i.toNat < l.length := by omega
    have hd : l.drop i.toNat = l[i.toNat] :: l.drop (i.toNat + 1) := List.drop_eq_getElem_cons hlt
    have hr : rd_T37 l i = l[i.toNat] := by unfold rd_T37; rw [List.getD_eq_getElem?_getD, List.getElem?_eq_getElem hlt]; rfl
    rw [hr, hd, List.any_cons]
    by_cases hb : (!okP l[i.toNat].f0 l[i.toNat].f1) = true
    · rw [if_pos hb]
      exact ⟨i, rfl, by simp [hb, h0]⟩
    · rw [if_neg hb, w64 (by omega) (by omega)]
      obtain ⟨r, hr, hh⟩ := ih k (i + 1) (by omega) (by omega) (by omega)
      refine ⟨r, hr, ?_⟩
      rw [hh, show (i + 1).toNat = i.toNat + 1 by omega]
      simp only [Bool.not_eq_true] at hb
      rw [hb, Bool.false_or]
theorem point_val (k : Nat) (l : List S37) (hl : l.length ≤ 1000) (hk : l.length < k) : grids_point.f k l = some (l.all fun p => okP p.f0 p.f1) := by
  obtain ⟨r, hr, hh⟩ := index_val l hl l.length k 0 (by omega) (by omega) hk
  unfold grids_point.f api_GrPoint_76.f api_GrPoint_84.f
  rw [hr]
  simp only [Option.bind_some, hh]
  congr 1
  rw [show (0 : Int).toNat = 0 from rfl, List.drop_zero, List.all_eq_not_any_not]
theorem to_val (a b c d : Int) (h : okP a b = true) (h' : okP c d = true) : grids_to.f a b c d = some (c - a, d - b) := by
  rw [okP_iff] at h h'
  unfold grids_to.f
  rw [w64 (by omega) (by omega)]
  simp only [Option.bind_some]
  rw [w64 (by omega) (by omega)]
/-- A step between two valid points. -/
def St (v : Vec) : Prop := -2000000 ≤ v.x ∧ v.x ≤ 2000000 ∧ -2000000 ≤ v.y ∧ v.y ≤ 2000000
theorem st_of {a b c d : Int} (h : okP a b = true) (h' : okP c d = true) : St ⟨c - a, d - b⟩ := by
  rw [okP_iff] at h h'
  unfold St
  simp only
  omega
theorem st_mul {x y : Int} (hx : -2000000 ≤ x ∧ x ≤ 2000000) (hy : -2000000 ≤ y ∧ y ≤ 2000000) : -4000000000000 ≤ x * y ∧ x * y ≤ 4000000000000 := by
  have := mul_bd hx hy
  omega
theorem cross_val (a b : Vec) (ha : St a) (hb : St b) : grids_step_cross.f a.x a.y b.x b.y = some (crs a b) := by
  unfold St at ha hb
  have h1 := st_mul (x := a.x) (y := b.y) ⟨ha.1, ha.2.1⟩ ⟨hb.2.2.1, hb.2.2.2⟩
  have h2 := st_mul (x := a.y) (y := b.x) ⟨ha.2.2.1, ha.2.2.2⟩ ⟨hb.1, hb.2.1⟩
  unfold grids_step_cross.f
  simp (disch := omega) only [w64, Option.bind_some]
  rfl
theorem half_val (k : Nat) (a b : Vec) (ha : St a) (hb : St b) (hk : 0 < k) : grids_step_half.f k a.x a.y b.x b.y = some (half a b) := by
  obtain ⟨k, rfl⟩ : ∃ m, k = m + 1 := ⟨k - 1, by omega⟩
  unfold grids_step_half.f
  rw [cross_val a b ha hb]
  simp only [Option.bind_some, grids_step_half.j0]
  unfold St at ha hb
  have h1 := st_mul (x := a.x) (y := b.x) ⟨ha.1, ha.2.1⟩ ⟨hb.1, hb.2.1⟩
  have h2 := st_mul (x := a.y) (y := b.y) ⟨ha.2.2.1, ha.2.2.2⟩ ⟨hb.2.2.1, hb.2.2.2⟩
  unfold half
  have e : dot a b = a.x * b.x + a.y * b.y := rfl
  simp (disch := omega) only [w64, ← e]
  by_cases c1 : 0 < crs a b
  · simp [c1]
  · by_cases c2 : crs a b = 0
    · by_cases c3 : 0 < dot a b <;> simp [c2, c3]
    · simp [c1, c2]
theorem compare_val (a b : Int) : cmp_Compare_int.f a b = some (cmpI a b) := by
  unfold cmp_Compare_int.f cmp_isNaN_int.f cmpI
  simp
  split <;> (try split) <;> rfl
theorem compare64_val (a b : Int) : cmp_Compare_int64.f a b = some (cmpI a b) := by
  unfold cmp_Compare_int64.f cmp_isNaN_int64.f cmpI
  simp
  split <;> (try split) <;> rfl
/-- The first of a list that is not 0; else 0. -/
def orI : List Int → Int
  | [] => 0
  | a :: l => if a = 0 then orI l else a
theorem or_loop (l : List Int) (hl : l.length ≤ 1000) : ∀ (d k : Nat) (i : Int), 0 ≤ i → i + d = l.length → d < k →
    cmp_Or_int.l0 k 0 l (l.length : Int) i = some (orI (l.drop i.toNat)) := by
  intro d
  induction d with
  | zero =>
    intro k i h0 h1 hk
    obtain ⟨k, rfl⟩ : ∃ m, k = m + 1 := ⟨k - 1, by omega⟩
    simp only [cmp_Or_int.l0]
    rw [if_neg (by omega), List.drop_eq_nil_of_le (by omega)]
    rfl
  | succ d ih =>
    intro k i h0 h1 hk
    obtain ⟨k, rfl⟩ : ∃ m, k = m + 1 := ⟨k - 1, by omega⟩
    simp only [cmp_Or_int.l0]
    have hlt : i.toNat < l.length := by omega
    have hd : l.drop i.toNat = l[i.toNat] :: l.drop (i.toNat + 1) := List.drop_eq_getElem_cons hlt
    have hr : rd l i = l[i.toNat] := by unfold rd; rw [List.getD_eq_getElem?_getD, List.getElem?_eq_getElem hlt]; rfl
    rw [if_pos (by omega), if_pos h0, if_pos (by omega), hr, hd]
    unfold orI
    by_cases hz : l[i.toNat] = 0
    · rw [if_pos hz, if_pos hz, w64 (by omega) (by omega)]
      simp only [Option.bind_some]
      rw [ih k (i + 1) (by omega) (by omega) (by omega), show (i + 1).toNat = i.toNat + 1 by omega]
    · rw [if_neg hz, if_neg hz]
theorem or_val (k : Nat) (l : List Int) (hl : l.length ≤ 1000) (hk : l.length < k) : cmp_Or_int.f k l = some (orI l) := by
  unfold cmp_Or_int.f
  rw [or_loop l hl l.length k 0 (by omega) (by omega) hk]
  rfl
/-- Turn, as the program tells it. -/
def turnP (o f p q : Vec) : Int × Int :=
  if okP o.x o.y = true ∧ okP f.x f.y = true ∧ okP p.x p.y = true ∧ okP q.x q.y = true ∧ f ≠ o ∧ p ≠ o ∧ q ≠ o then (turn ⟨f.x - o.x, f.y - o.y⟩ ⟨p.x - o.x, p.y - o.y⟩ ⟨q.x - o.x, q.y - o.y⟩, 0) else (0, 2)
theorem vec_eq {a b : Vec} : (a.x == b.x && (a.y == b.y)) = true ↔ a = b := by
  cases a; cases b; simp [Vec.mk.injEq]
theorem turn_val (k : Nat) (o f p q : Vec) (hk : 10 ≤ k) : grids_Turn.f k o.x o.y f.x f.y p.x p.y q.x q.y = some (turnP o f p q) := by
  obtain ⟨k, rfl⟩ : ∃ m, k = m + 10 := ⟨k - 10, by omega⟩
  unfold grids_Turn.f turnP
  rw [point_val _ _ (by simp) (by simp)]
  simp only [Option.bind_some, List.all_cons, List.all_nil, Bool.and_true]
  by_cases hv : okP o.x o.y = true ∧ okP f.x f.y = true ∧ okP p.x p.y = true ∧ okP q.x q.y = true
  · obtain ⟨ho, hf, hp, hq⟩ := hv
    rw [if_pos (by simp [ho, hf, hp, hq])]
    by_cases e1 : f = o
    · rw [if_pos (vec_eq.2 e1), if_neg (by simp [e1])]
      simp [grids_Turn.j0]
    rw [if_neg (fun h => e1 (vec_eq.1 h))]
    by_cases e2 : p = o
    · rw [if_pos (vec_eq.2 e2), if_neg (by simp [e2])]
      simp [grids_Turn.j0]
    rw [if_neg (fun h => e2 (vec_eq.1 h))]
    simp only [grids_Turn.j0]
    by_cases e3 : q = o
    · rw [if_pos (vec_eq.2 e3), if_neg (by simp [e3])]
    rw [if_neg (fun h => e3 (vec_eq.1 h)), if_pos ⟨ho, hf, hp, hq, e1, e2, e3⟩]
    rw [to_val _ _ _ _ ho hf, to_val _ _ _ _ ho hp, to_val _ _ _ _ ho hq]
    simp only [Option.bind_some]
    have sf := st_of ho hf
    have sp := st_of ho hp
    have sq := st_of ho hq
    have c1 := half_val (k + 9) ⟨f.x - o.x, f.y - o.y⟩ ⟨p.x - o.x, p.y - o.y⟩ sf sp (by omega)
    have c2 := half_val (k + 9) ⟨f.x - o.x, f.y - o.y⟩ ⟨q.x - o.x, q.y - o.y⟩ sf sq (by omega)
    have c3 := cross_val ⟨p.x - o.x, p.y - o.y⟩ ⟨q.x - o.x, q.y - o.y⟩ sp sq
    simp only at c1 c2 c3
    rw [c1, c2]
    simp only [Option.bind_some]
    rw [compare_val, c3]
    simp only [Option.bind_some]
    rw [compare64_val]
    simp only [Option.bind_some]
    rw [or_val _ _ (by simp) (by simp)]
    simp only [Option.bind_some, orI, turn]
    congr 2
    split
    · split
      · simp_all
      · rfl
    · rfl
  · rw [if_neg (by simp only [Bool.and_eq_true]; exact fun h => hv ⟨h.1, h.2.1, h.2.2.1, h.2.2.2⟩), if_neg (fun h => hv ⟨h.1, h.2.1, h.2.2.1, h.2.2.2.1⟩)]
    simp [grids_Turn.j0]
end Go.Proofs.Ytmcajdepoohlhaa.Val
