/- What the reference's functions on moves come to, and both orders of a matrix. Conditions: enough rounds. -/
import Derived.Test.YtmcajdepoohlhaaCMovesVal6
import Derived.Test.YtmcajdepoohlhaaCMovesVal7
import Derived.Test.YtmcajdepoohlhaaCMovesP2
import Derived.Test.YtmcajdepoohlhaaCMovesP3
namespace Go.Proofs.Ytmcajdepoohlhaa.Val
open Go.RowKit Go.Proofs.Ytmcajdepoohlhaa.G Go.Proofs.Ytmcajdepoohlhaa.Spec Go.Proofs.YtmcajdepoohlhaaW.PrintWords
theorem refPoint_val (p : Vec) : torchonref06_Point.f p.x p.y = some (okP p.x p.y) := by
  unfold torchonref06_Point.f okP
  rw [from_val, from_val]
  simp only [Option.bind_some]
  by_cases h : -1000000 ≤ p.x ∧ p.x ≤ 1000000
  · simp [h]
  · have h2 : ¬ (-1000000 ≤ p.x ∧ p.x ≤ 1000000 ∧ -1000000 ≤ p.y ∧ p.y ≤ 1000000) := fun c => h ⟨c.1, c.2.1⟩
    simp [h, h2]
theorem refmove_val (v : Mov) : torchonref06_move.f v.M.a v.M.b v.M.c v.M.d v.T.x v.T.y = some (okV v) := by
  unfold torchonref06_move.f okV
  rw [refMatrix_val, refPoint_val]
  simp only [Option.bind_some]
  by_cases h : Small v.M <;> simp [h]
theorem refimage_val (m : Mat) (p : Vec) (hm : Bd 10000 m) (hp : okP p.x p.y = true) : torchonref06_image.f m.a m.b m.c m.d p.x p.y = some (m.a * p.x + m.b * p.y, m.c * p.x + m.d * p.y) := by
  rw [okP_iff] at hp
  obtain ⟨ha, hb, hc, hd⟩ := hm
  have p1 := mul_bd (x := m.a) (y := p.x) (B := 1000000) ha (by omega)
  have p2 := mul_bd (x := m.b) (y := p.y) (B := 1000000) hb (by omega)
  have p3 := mul_bd (x := m.c) (y := p.x) (B := 1000000) hc (by omega)
  have p4 := mul_bd (x := m.d) (y := p.y) (B := 1000000) hd (by omega)
  unfold torchonref06_image.f
  simp (disch := omega) only [w64, Option.bind_some]
theorem refapply_val (v : Mov) (p : Vec) (hv : okV v = true) (hp : okP p.x p.y = true) : torchonref06_apply.f v.M.a v.M.b v.M.c v.M.d v.T.x v.T.y p.x p.y = some ((app v p).x, (app v p).y) := by
  obtain ⟨bv, tv⟩ := okV_bd hv
  unfold torchonref06_apply.f
  rw [refimage_val v.M p bv hp]
  rw [okP_iff] at hp
  obtain ⟨ha, hb, hc, hd⟩ := bv
  have p1 := mul_bd (x := v.M.a) (y := p.x) (B := 1000000) ha (by omega)
  have p2 := mul_bd (x := v.M.b) (y := p.y) (B := 1000000) hb (by omega)
  have p3 := mul_bd (x := v.M.c) (y := p.x) (B := 1000000) hc (by omega)
  have p4 := mul_bd (x := v.M.d) (y := p.y) (B := 1000000) hd (by omega)
  simp only [Option.bind_some]
  simp (disch := omega) only [w64]
  rfl
theorem refApply_val (k : Nat) (v : Mov) (p : Vec) (hk : 1 ≤ k) : torchonref06_Apply.f k v.M.a v.M.b v.M.c v.M.d v.T.x v.T.y p.x p.y = some ((applyP v p).1.x, (applyP v p).1.y, (applyP v p).2) := by
  obtain ⟨k, rfl⟩ : ∃ m, k = m + 1 := ⟨k - 1, by omega⟩
  unfold torchonref06_Apply.f
  rw [refmove_val, refPoint_val]
  simp only [Option.bind_some, torchonref06_Apply.j0]
  by_cases hv : okV v = true
  · rw [if_pos hv]
    by_cases hp : okP p.x p.y = true
    · rw [if_neg (by simp [hp]), refapply_val v p hv hp]
      simp only [Option.bind_some]
      rw [refPoint_val]
      simp only [Option.bind_some]
      by_cases hq : okP (app v p).x (app v p).y = true
      · rw [if_pos hq, applyP_ok hv hp hq]
      · rw [if_neg hq, applyP_far hv hp hq]
    · rw [if_pos (by simpa using hp), applyP_err (fun h => hp h.2)]
  · rw [if_neg hv, applyP_err (fun h => hv h.1)]
    simp
theorem refTimes_val (m n : Mat) (hm : Bd 10000 m) (hn : Bd 1000000 n) : torchonref06_Times.f m.a m.b m.c m.d n.a n.b n.c n.d = some ((mul m n).a, (mul m n).b, (mul m n).c, (mul m n).d) := by
  obtain ⟨ha, hb, hc, hd⟩ := hm
  obtain ⟨ka, kb, kc, kd⟩ := hn
  have p1 := mul_bd ha ka
  have p2 := mul_bd hb kc
  have p3 := mul_bd ha kb
  have p4 := mul_bd hb kd
  have p5 := mul_bd hc ka
  have p6 := mul_bd hd kc
  have p7 := mul_bd hc kb
  have p8 := mul_bd hd kd
  unfold torchonref06_Times.f
  simp (disch := omega) only [w64, Option.bind_some]
  rfl
theorem refCompose_val (k : Nat) (v w : Mov) (hk : 1 ≤ k) : torchonref06_Compose.f k v.M.a v.M.b v.M.c v.M.d v.T.x v.T.y w.M.a w.M.b w.M.c w.M.d w.T.x w.T.y =
    some ((composeP v w).1.M.a, (composeP v w).1.M.b, (composeP v w).1.M.c, (composeP v w).1.M.d, (composeP v w).1.T.x, (composeP v w).1.T.y, (composeP v w).2) := by
  obtain ⟨k, rfl⟩ : ∃ m, k = m + 1 := ⟨k - 1, by omega⟩
  unfold torchonref06_Compose.f
  rw [refmove_val, refmove_val]
  simp only [Option.bind_some, torchonref06_Compose.j0]
  by_cases hv : okV v = true
  · rw [if_pos hv]
    by_cases hw : okV w = true
    · obtain ⟨bv, tv⟩ := okV_bd hv
      obtain ⟨bw, tw⟩ := okV_bd hw
      have ec : composeP v w = validP (comp v w) := if_pos ⟨hv, hw⟩
      rw [if_neg (by simp [hw]), ec, refTimes_val v.M w.M bv (bw.mono (by omega)), refapply_val v w.T hv (okP_iff.2 tw)]
      simp only [Option.bind_some]
      have h := refmove_val (comp v w)
      simp only [comp] at h
      rw [h]
      simp only [Option.bind_some]
      unfold validP
      by_cases c : okV (comp v w) = true
      · have c' := c
        simp only [comp] at c'
        rw [if_pos c', if_pos c]
        rfl
      · have c' := c
        simp only [comp] at c'
        rw [if_neg c', if_neg c]
        rfl
    · have ec : composeP v w = (zeroV, 2) := if_neg fun h => hw h.2
      rw [if_pos (by simpa using hw), ec]; rfl
  · have ec : composeP v w = (zeroV, 2) := if_neg fun h => hv h.1
    rw [if_neg hv, ec]
    simp [zeroV]
theorem refInvert_val (k : Nat) (v : Mov) (hk : 1 ≤ k) : torchonref06_Invert.f k v.M.a v.M.b v.M.c v.M.d v.T.x v.T.y =
    some ((invertP v).1.M.a, (invertP v).1.M.b, (invertP v).1.M.c, (invertP v).1.M.d, (invertP v).1.T.x, (invertP v).1.T.y, (invertP v).2) := by
  obtain ⟨k, rfl⟩ : ∃ m, k = m + 1 := ⟨k - 1, by omega⟩
  unfold torchonref06_Invert.f
  rw [refmove_val]
  simp only [Option.bind_some]
  by_cases hv : okV v = true
  · obtain ⟨bv, tv⟩ := okV_bd hv
    have dd := det_bd bv
    have bv' := bv
    obtain ⟨ha, hb, hc, hd⟩ := bv'
    have q1 := mul_bd ha hd
    have q2 := mul_bd hb hc
    rw [if_pos hv]
    have ed : v.M.a * v.M.d - v.M.b * v.M.c = det v.M := rfl
    simp (disch := omega) only [w64]
    rw [ed]
    have J : det v.M = 1 ∨ det v.M = -1 → torchonref06_Invert.j0 (k + 1) (det v.M) false v.M.a v.M.b v.M.c v.M.d v.T.x v.T.y =
        some ((invertP v).1.M.a, (invertP v).1.M.b, (invertP v).1.M.c, (invertP v).1.M.d, (invertP v).1.T.x, (invertP v).1.T.y, (invertP v).2) := by
      intro hd1
      have e : invertP v = validP (invM v) := by unfold invertP; rw [if_pos hv, if_pos hd1]
      rw [e]
      simp only [torchonref06_Invert.j0, Bool.false_eq_true, if_false, Option.bind_some]
      have bi := inv_bd bv (det_sq hd1)
      have r1 := mul_bd dd hd
      have r2 := mul_bd (x := -det v.M) (y := v.M.b) (A := 200000000) (by omega) hb
      have r3 := mul_bd (x := -det v.M) (y := v.M.c) (A := 200000000) (by omega) hc
      have r4 := mul_bd dd ha
      simp (disch := omega) only [w64]
      have hi := refimage_val (inv v.M) v.T bi (okP_iff.2 tv)
      have ei : inv v.M = ⟨det v.M * v.M.d, -det v.M * v.M.b, -det v.M * v.M.c, det v.M * v.M.a⟩ := rfl
      rw [ei] at hi bi
      simp only at hi
      rw [hi]
      simp only [Option.bind_some]
      obtain ⟨ia, ib, ic, id⟩ := bi
      simp only at ia ib ic id
      have p1 := mul_bd (x := det v.M * v.M.d) (y := v.T.x) (B := 1000000) ia (by omega)
      have p2 := mul_bd (x := -det v.M * v.M.b) (y := v.T.y) (B := 1000000) ib (by omega)
      have p3 := mul_bd (x := -det v.M * v.M.c) (y := v.T.x) (B := 1000000) ic (by omega)
      have p4 := mul_bd (x := det v.M * v.M.a) (y := v.T.y) (B := 1000000) id (by omega)
      simp (disch := omega) only [w64]
      have h := refmove_val (invM v)
      simp only [invM, ei] at h
      rw [h]
      simp only [Option.bind_some]
      unfold validP
      by_cases c : okV (invM v) = true
      · have c' := c
        simp only [invM, ei] at c'
        rw [if_pos c', if_pos c]
        rfl
      · have c' := c
        simp only [invM, ei] at c'
        rw [if_neg c', if_neg c]
        rfl
    by_cases h1 : det v.M = 1
    · rw [if_pos h1]; exact J (Or.inl h1)
    · rw [if_neg h1]
      by_cases h2 : det v.M = -1
      · have := J (Or.inr h2)
        have e : (det v.M != -1) = false := by simpa using h2
        rw [e]
        exact this
      · have e : invertP v = (zeroV, 6) := by unfold invertP; rw [if_pos hv, if_neg (by omega)]
        have e2 : (det v.M != -1) = true := by simpa using h2
        rw [e, e2]
        simp [torchonref06_Invert.j0, zeroV]
  · have e : invertP v = (zeroV, 2) := by unfold invertP; rw [if_neg hv]
    rw [if_neg hv, e]
    rfl
end Go.Proofs.Ytmcajdepoohlhaa.Val
