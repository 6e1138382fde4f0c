/- What the printed functions of the layer 'grids' come to: squared distances and sides. Conditions: enough rounds. -/
import Derived.Test.YtmcajdepoohlhaaCKeepVal2
import Derived.Test.YtmcajdepoohlhaaCKeepP0
namespace Go.Proofs.Ytmcajdepoohlhaa.Val
open Go.RowKit Go.Proofs.Ytmcajdepoohlhaa.G Go.Proofs.Ytmcajdepoohlhaa.Spec Go.Proofs.YtmcajdepoohlhaaW.PrintWords
theorem okp_vec {p : Vec} : okP p.x p.y = true ↔ -1000000 ≤ p.x ∧ p.x ≤ 1000000 ∧ -1000000 ≤ p.y ∧ p.y ≤ 1000000 := okP_iff
/-- Dot, as the program tells it. -/
def dotP (l : Lat) (o p q : Vec) : Int × Int :=
  if Valid l ∧ okP o.x o.y = true ∧ okP p.x p.y = true ∧ okP q.x q.y = true then (prod l (p.x - o.x) (p.y - o.y) (q.x - o.x) (q.y - o.y), 0) else (0, 2)
theorem dotP_ok {l : Lat} {o p q : Vec} (hv : Valid l) (ho : okP o.x o.y = true) (hp : okP p.x p.y = true) (hq : okP q.x q.y = true) : dotP l o p q = (prod l (p.x - o.x) (p.y - o.y) (q.x - o.x) (q.y - o.y), 0) := if_pos ⟨hv, ho, hp, hq⟩
theorem dotP_err {l : Lat} {o p q : Vec} (h : ¬ (Valid l ∧ okP o.x o.y = true ∧ okP p.x p.y = true ∧ okP q.x q.y = true)) : dotP l o p q = (0, 2) := if_neg h
theorem Dot_val (k : Nat) (l : Lat) (o p q : Vec) (hk : 10 ≤ k) : grids_Dot.f k l.A l.B l.C o.x o.y p.x p.y q.x q.y = some (dotP l o p q) := by
  obtain ⟨k, rfl⟩ : ∃ m, k = m + 1 := ⟨k - 1, by omega⟩
  unfold grids_Dot.f
  rw [gcheck_val _ l (by omega)]
  simp only [Option.bind_some]
  by_cases hv : Valid l
  · rw [if_pos hv]
    simp only [if_true]
    rw [point_val _ _ (by simp) (by simp; omega)]
    simp only [Option.bind_some, List.all_cons, List.all_nil, Bool.and_true, grids_Dot.j0]
    by_cases h : okP o.x o.y = true ∧ okP p.x p.y = true ∧ okP q.x q.y = true
    · obtain ⟨ho, hp, hq⟩ := h
      rw [dotP_ok hv ho hp hq, if_neg (by simp [ho, hp, hq]), to_val _ _ _ _ ho hp, to_val _ _ _ _ ho hq]
      have sp := st_of ho hp
      have sq := st_of ho hq
      unfold St at sp sq
      simp only at sp sq
      simp only [Option.bind_some]
      rw [product_val l _ _ _ _ (valid_lb hv) (by omega) (by omega) (by omega) (by omega)]
      rfl
    · rw [dotP_err (fun c => h c.2), if_pos]
      simp only [Bool.not_eq_true', Bool.and_eq_false_iff]
      by_cases h1 : okP o.x o.y = true
      · by_cases h2 : okP p.x p.y = true
        · by_cases h3 : okP q.x q.y = true
          · exact absurd ⟨h1, h2, h3⟩ h
          · simp [h3]
        · simp [h2]
      · simp [h1]
  · rw [if_neg hv, dotP_err (fun c => hv c.1), if_neg (by omega)]
    simp [grids_Dot.j0]
theorem Square_val (k : Nat) (l : Lat) (p q : Vec) (hk : 10 ≤ k) : grids_Square.f k l.A l.B l.C p.x p.y q.x q.y = some (dotP l p q q) := by
  unfold grids_Square.f
  rw [Dot_val k l p q q hk]
  rfl
/-- Side, as the program tells it. -/
def sideP (o p q : Vec) : Int × Int :=
  if okP o.x o.y = true ∧ okP p.x p.y = true ∧ okP q.x q.y = true then (cmpI (crs ⟨p.x - o.x, p.y - o.y⟩ ⟨q.x - o.x, q.y - o.y⟩) 0, 0) else (0, 2)
theorem sideP_ok {o p q : Vec} (ho : okP o.x o.y = true) (hp : okP p.x p.y = true) (hq : okP q.x q.y = true) : sideP o p q = (cmpI (crs ⟨p.x - o.x, p.y - o.y⟩ ⟨q.x - o.x, q.y - o.y⟩) 0, 0) := if_pos ⟨ho, hp, hq⟩
theorem sideP_err {o p q : Vec} (h : ¬ (okP o.x o.y = true ∧ okP p.x p.y = true ∧ okP q.x q.y = true)) : sideP o p q = (0, 2) := if_neg h
theorem Side_val (k : Nat) (o p q : Vec) (hk : 10 ≤ k) : grids_Side.f k o.x o.y p.x p.y q.x q.y = some (sideP o p q) := by
  unfold grids_Side.f
  rw [point_val _ _ (by simp) (by simp; omega)]
  simp only [Option.bind_some, List.all_cons, List.all_nil, Bool.and_true]
  by_cases h : okP o.x o.y = true ∧ okP p.x p.y = true ∧ okP q.x q.y = true
  · obtain ⟨ho, hp, hq⟩ := h
    rw [sideP_ok ho hp hq, if_pos (by simp [ho, hp, hq]), to_val _ _ _ _ ho hp, to_val _ _ _ _ ho hq]
    simp only [Option.bind_some]
    have c := cross_val ⟨p.x - o.x, p.y - o.y⟩ ⟨q.x - o.x, q.y - o.y⟩ (st_of ho hp) (st_of ho hq)
    simp only at c
    rw [c]
    simp only [Option.bind_some]
    rw [compare64_val]
    rfl
  · rw [sideP_err h, if_neg (by simpa using h)]
theorem prod_lead (l : Lat) (m : Mat) (x y u v : Int) : prod (lead l m) x y u v = prod l (m.a * x + m.b * y) (m.c * x + m.d * y) (m.a * u + m.b * v) (m.c * u + m.d * v) := by
  unfold lead prod
  simp only
  grind
/-- A step, in the basis to which a matrix leads. -/
def back (m : Mat) (p : Vec) : Vec := ⟨det m * (m.d * p.x - m.b * p.y), det m * (m.a * p.y - m.c * p.x)⟩
theorem prod_back {l : Lat} {m : Mat} (h : det m * det m = 1) (p : Vec) : prod (lead l m) (back m p).x (back m p).y (back m p).x (back m p).y = prod l p.x p.y p.x p.y := by
  rw [prod_lead]
  have e1 : m.a * (back m p).x + m.b * (back m p).y = p.x := by
    have : m.a * (back m p).x + m.b * (back m p).y = det m * det m * p.x := by simp only [back, det]; grind
    rw [this, h, Int.one_mul]
  have e2 : m.c * (back m p).x + m.d * (back m p).y = p.y := by
    have : m.c * (back m p).x + m.d * (back m p).y = det m * det m * p.y := by simp only [back, det]; grind
    rw [this, h, Int.one_mul]
  rw [e1, e2]
end Go.Proofs.Ytmcajdepoohlhaa.Val
