/- The law GridsGroups, as its printed function tells it: true for every lattice and matrix. No condition beyond that the numbers fit. -/
import Derived.Test.YtmcajdepoohlhaaCGrpVal11
import Derived.Test.YtmcajdepoohlhaaCGrpVal12a
import Derived.Test.YtmcajdepoohlhaaCGrpVal13
import Derived.Test.YtmcajdepoohlhaaCGrpVal14
import Derived.Test.YtmcajdepoohlhaaCGrpAwake
import Derived.Test.YtmcajdepoohlhaaCGrpP8
namespace Go.Proofs.Ytmcajdepoohlhaa.Pure
open Go.RowKit Go.Proofs.Ytmcajdepoohlhaa.G Go.Proofs.Ytmcajdepoohlhaa.Spec Go.Proofs.Ytmcajdepoohlhaa.Val
theorem kimage_val (m : Mat) (x y : Int) (hm : Bd 10000 m) (hx : -1 ≤ x ∧ x ≤ 1) (hy : -1 ≤ y ∧ y ≤ 1) : torchonref06_image.f m.a m.b m.c m.d x y = some (m.a * x + m.b * y, m.c * x + m.d * y) := by
  obtain ⟨ma, mb, mc, md⟩ := hm
  have p1 := mul_bd ma hx
  have p2 := mul_bd mb hy
  have p3 := mul_bd mc hx
  have p4 := mul_bd md hy
  unfold torchonref06_image.f
  simp (disch := omega) only [w64, Option.bind_some]
theorem refkeeps_val (l : Lat) (m : Mat) (hl : LB l) (hm : Bd 10000 m) : torchonref06_keeps.f l.A l.B l.C m.a m.b m.c m.d = some (decide (Keep l m)) := by
  unfold torchonref06_keeps.f
  rw [kimage_val m 1 0 hm (by omega) (by omega), kimage_val m 0 1 hm (by omega) (by omega)]
  simp only [Option.bind_some, Int.mul_one, Int.mul_zero, Int.add_zero, Int.zero_add]
  obtain ⟨ma, mb, mc, md⟩ := hm
  rw [refProduct_val l m.a m.c m.a m.c hl ma mc ma mc, refProduct_val l m.a m.c m.b m.d hl ma mc mb md, refProduct_val l m.b m.d m.b m.d hl mb md mb md]
  simp only [Option.bind_some]
  have e : Keep l m ↔ prod l m.a m.c m.a m.c = l.A ∧ prod l m.a m.c m.b m.d = l.B ∧ prod l m.b m.d m.b m.d = l.C := by
    unfold Keep lead
    cases l
    simp only [Lat.mk.injEq]
  by_cases c1 : prod l m.a m.c m.a m.c = l.A
  · rw [if_pos c1]
    by_cases c2 : prod l m.a m.c m.b m.d = l.B
    · rw [if_pos c2]
      by_cases c3 : prod l m.b m.d m.b m.d = l.C
      · rw [decide_eq_true (e.2 ⟨c1, c2, c3⟩), c3]; simp
      · rw [decide_eq_false (fun h => c3 (e.1 h).2.2)]; simp [c3]
    · rw [if_neg c2, decide_eq_false (fun h => c2 (e.1 h).2.1)]
  · rw [if_neg c1, decide_eq_false (fun h => c1 (e.1 h).1)]
theorem refKeeps_val (k : Nat) (l : Lat) (m : Mat) (hk : 1 ≤ k) : torchonref06_Keeps.f k l.A l.B l.C m.a m.b m.c m.d = some (keepsP l m) := by
  unfold torchonref06_Keeps.f keepsP
  rw [refCheck_val k l hk]
  by_cases hv : Valid l
  · rw [if_pos hv, if_pos hv]
    simp only [Option.bind_some, if_true]
    rw [refMatrix_val]
    simp only [Option.bind_some]
    by_cases hs : Small m
    · rw [decide_eq_true hs, if_pos rfl, if_pos hs, refkeeps_val l m (valid_lb hv) (small_bd hs)]
      rfl
    · rw [decide_eq_false hs, if_neg (by simp), if_neg hs]
  · rw [if_neg hv, if_neg hv]
    simp
theorem same_loop (L : List S25) (hl : L.length ≤ 1000) : ∀ (d k i : Nat), i + d = L.length → d + 1 ≤ k → torchonlaw06_same.l0 k L L (i : Int) = some true := by
  intro d
  induction d with
  | zero =>
    intro k i h hk
    obtain ⟨k, rfl⟩ : ∃ q, k = q + 1 := ⟨k - 1, by omega⟩
    simp only [torchonlaw06_same.l0]
    rw [if_neg (by omega)]
  | succ d ih =>
    intro k i h hk
    obtain ⟨k, rfl⟩ : ∃ q, k = q + 1 := ⟨k - 1, by omega⟩
    simp only [torchonlaw06_same.l0]
    rw [if_pos (by omega), if_pos (by omega), if_pos (by omega), w64 (by omega) (by omega)]
    simp only [beq_self_eq_true, Bool.not_true, Bool.or_self, Bool.false_eq_true, if_false, Option.bind_some]
    have := ih k (i + 1) (by omega) (by omega)
    simpa using this
theorem same_val (k : Nat) (L : List S25) (hl : L.length ≤ 1000) (hk : L.length + 1 ≤ k) : torchonlaw06_same.f k L L = some true := by
  unfold torchonlaw06_same.f
  rw [if_pos rfl]
  exact same_loop L hl L.length k 0 (by omega) hk
theorem GridsGroups (a0_0 a0_1 a0_2 a1_0 a1_1 a1_2 a1_3 : Int) (_h0 : ∀ x ∈ [a0_0, a0_1, a0_2], (Lit.int .i64 x).wf = true) (_h1 : ∀ x ∈ [a1_0, a1_1, a1_2, a1_3], (Lit.int .i64 x).wf = true) :
    ∃ k, torchonlaw06_GridsGroups.f k a0_0 a0_1 a0_2 a1_0 a1_1 a1_2 a1_3 = some true := by
  obtain ⟨l, rfl, rfl, rfl⟩ : ∃ l : Lat, a0_0 = l.A ∧ a0_1 = l.B ∧ a0_2 = l.C := ⟨⟨a0_0, a0_1, a0_2⟩, rfl, rfl, rfl⟩
  obtain ⟨m, rfl, rfl, rfl, rfl⟩ : ∃ m : Mat, a1_0 = m.a ∧ a1_1 = m.b ∧ a1_2 = m.c ∧ a1_3 = m.d := ⟨⟨a1_0, a1_1, a1_2, a1_3⟩, rfl, rfl, rfl, rfl⟩
  have fin : ∀ (k : Nat) (L : List S25) (e : Int), 1000 ≤ k → L.length ≤ 12 → grids_Group.f k l.A l.B l.C = some (L, e) → torchonref06_Group.f k l.A l.B l.C = some (L, e) → torchonlaw06_GridsGroups.f k l.A l.B l.C m.a m.b m.c m.d = some true := by
    intro k L e hk hL h1 h2
    unfold torchonlaw06_GridsGroups.f
    rw [h1, h2, Keeps_val k l m (by omega), refKeeps_val k l m (by omega)]
    simp only [Option.bind_some]
    rw [same_val k L (by omega) (by omega)]
    simp only [Option.bind_some, beq_self_eq_true, if_true]
    rw [awake_val k (by omega)]
    rfl
  by_cases hv : Valid l
  · obtain ⟨L, hf, hu, hmem, hlen⟩ := Group_val hv
    obtain ⟨L', ⟨K, hK⟩, hu', hmem'⟩ := Leading_val (t := l) hv ⟨hv.a1, hv.a2⟩ ⟨hv.c1, hv.c2⟩
    have e : L' = L := up_unique hu' hu fun s => by
      rw [hmem', hmem]
      exact ⟨fun h => h.1, fun h => ⟨h, det_pm (keep_det hv.d1 h)⟩⟩
    subst e
    refine ⟨K + 30000, fin _ L' 0 (by omega) (by omega) (hf _ (by omega)) ?_⟩
    unfold torchonref06_Group.f
    rw [refCheck_val _ l (by omega), if_pos hv]
    simp only [Option.bind_some, if_true]
    rw [hK _ (by omega)]
    rfl
  · refine ⟨1000, fin _ [] 2 (by omega) (by simp) (Group_err _ l hv (by omega)) ?_⟩
    unfold torchonref06_Group.f
    rw [refCheck_val _ l (by omega), if_neg hv]
    simp
end Go.Proofs.Ytmcajdepoohlhaa.Pure
