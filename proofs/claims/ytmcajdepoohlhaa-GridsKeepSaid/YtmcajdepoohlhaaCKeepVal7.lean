/- What the printed functions of the layer 'grids' come to on moves: applied, composed, inverted. Conditions: enough rounds. -/
import Derived.Test.YtmcajdepoohlhaaCKeepVal4
import Derived.Test.YtmcajdepoohlhaaCKeepP2
import Derived.Test.YtmcajdepoohlhaaCKeepP7
import Derived.Test.YtmcajdepoohlhaaCKeepP4
namespace Go.Proofs.Ytmcajdepoohlhaa.Val
open Go.RowKit Go.Proofs.Ytmcajdepoohlhaa.G Go.Proofs.Ytmcajdepoohlhaa.Spec Go.Proofs.YtmcajdepoohlhaaW.PrintWords
/-- A move: a matrix and a step. -/
structure Mov where
  M : Mat
  T : Vec
  deriving DecidableEq
def app (v : Mov) (p : Vec) : Vec := ⟨v.M.a * p.x + v.M.b * p.y + v.T.x, v.M.c * p.x + v.M.d * p.y + v.T.y⟩
def comp (v w : Mov) : Mov := ⟨mul v.M w.M, app v w.T⟩
def invM (v : Mov) : Mov := ⟨inv v.M, ⟨-((inv v.M).a * v.T.x + (inv v.M).b * v.T.y), -((inv v.M).c * v.T.x + (inv v.M).d * v.T.y)⟩⟩
instance smallDec (m : Mat) : Decidable (Small m) := by unfold Small; infer_instance
def okV (v : Mov) : Bool := decide (Small v.M) && okP v.T.x v.T.y
theorem okV_iff {v : Mov} : okV v = true ↔ Small v.M ∧ okP v.T.x v.T.y = true := by simp [okV]
theorem matrix_val (m : Mat) : grids_matrix.f m.a m.b m.c m.d = some (decide (Small m)) := by
  unfold grids_matrix.f
  rw [outside_val _ _ (by omega) (by omega), outside_val _ _ (by omega) (by omega), outside_val _ _ (by omega) (by omega), outside_val _ _ (by omega) (by omega)]
  simp only [Option.bind_some]
  have e : ∀ x : Int, decide (x < -10000 ∨ 10000 < x) = !decide (-10000 ≤ x ∧ x ≤ 10000) := by
    intro x
    by_cases h : -10000 ≤ x ∧ x ≤ 10000
    · simp [h]
    · simp [h]
      omega
  rw [e, e, e, e]
  unfold Small
  by_cases h1 : -10000 ≤ m.a ∧ m.a ≤ 10000
  · by_cases h2 : -10000 ≤ m.b ∧ m.b ≤ 10000
    · by_cases h3 : -10000 ≤ m.c ∧ m.c ≤ 10000
      · simp [h1, h2, h3]
      · simp [h1, h2, h3]
    · simp [h1, h2]
  · simp [h1]
theorem one_point (k : Nat) (p : Vec) (hk : 2 ≤ k) : grids_point.f k [⟨p.x, p.y⟩] = some (okP p.x p.y) := by
  rw [point_val k _ (by simp) (by simp only [List.length_cons, List.length_nil]; omega)]
  simp
theorem move_val (k : Nat) (v : Mov) (hk : 2 ≤ k) : grids_move.f k v.M.a v.M.b v.M.c v.M.d v.T.x v.T.y = some (okV v) := by
  unfold grids_move.f okV
  rw [matrix_val, one_point k v.T hk]
  simp only [Option.bind_some]
  by_cases h : Small v.M <;> simp [h]
theorem image_val (v : Mov) (p : Vec) (hm : Bd 10000 v.M) (ht : -1000000 ≤ v.T.x ∧ v.T.x ≤ 1000000 ∧ -1000000 ≤ v.T.y ∧ v.T.y ≤ 1000000) (hp : okP p.x p.y = true) :
    grids_image.f v.M.a v.M.b v.M.c v.M.d v.T.x v.T.y p.x p.y = some ((app v p).x, (app v p).y) := by
  rw [okP_iff] at hp
  obtain ⟨ha, hb, hc, hd⟩ := hm
  have p1 := mul_bd (x := v.M.a) (y := p.x) (B := 1000000) ha (by omega)
  have p2 := mul_bd (x := v.M.b) (y := p.y) (B := 1000000) hb (by omega)
  have p3 := mul_bd (x := v.M.c) (y := p.x) (B := 1000000) hc (by omega)
  have p4 := mul_bd (x := v.M.d) (y := p.y) (B := 1000000) hd (by omega)
  unfold grids_image.f
  simp (disch := omega) only [w64, Option.bind_some]
  rfl
/-- Apply, as the program tells it. -/
def applyP (v : Mov) (p : Vec) : Vec × Int := if okV v = true ∧ okP p.x p.y = true then (if okP (app v p).x (app v p).y = true then (app v p, 0) else (⟨0, 0⟩, 7)) else (⟨0, 0⟩, 2)
theorem applyP_ok {v : Mov} {p : Vec} (hv : okV v = true) (hp : okP p.x p.y = true) (hq : okP (app v p).x (app v p).y = true) : applyP v p = (app v p, 0) := by unfold applyP; rw [if_pos ⟨hv, hp⟩, if_pos hq]
theorem applyP_far {v : Mov} {p : Vec} (hv : okV v = true) (hp : okP p.x p.y = true) (hq : ¬ okP (app v p).x (app v p).y = true) : applyP v p = (⟨0, 0⟩, 7) := by unfold applyP; rw [if_pos ⟨hv, hp⟩, if_neg hq]
theorem applyP_err {v : Mov} {p : Vec} (h : ¬ (okV v = true ∧ okP p.x p.y = true)) : applyP v p = (⟨0, 0⟩, 2) := if_neg h
theorem applyP_zero {v : Mov} {p : Vec} (h : (applyP v p).2 = 0) : okV v = true ∧ okP p.x p.y = true ∧ okP (app v p).x (app v p).y = true ∧ applyP v p = (app v p, 0) := by
  by_cases h1 : okV v = true ∧ okP p.x p.y = true
  · by_cases h2 : okP (app v p).x (app v p).y = true
    · exact ⟨h1.1, h1.2, h2, applyP_ok h1.1 h1.2 h2⟩
    · rw [applyP_far h1.1 h1.2 h2] at h; simp at h
  · rw [applyP_err h1] at h; simp at h
theorem okV_bd {v : Mov} (h : okV v = true) : Bd 10000 v.M ∧ (-1000000 ≤ v.T.x ∧ v.T.x ≤ 1000000 ∧ -1000000 ≤ v.T.y ∧ v.T.y ≤ 1000000) := by
  rw [okV_iff, okP_iff] at h
  exact ⟨h.1, h.2⟩
theorem Apply_val (k : Nat) (v : Mov) (p : Vec) (hk : 10 ≤ k) : grids_Apply.f k v.M.a v.M.b v.M.c v.M.d v.T.x v.T.y p.x p.y = some ((applyP v p).1.x, (applyP v p).1.y, (applyP v p).2) := by
  obtain ⟨k, rfl⟩ : ∃ m, k = m + 1 := ⟨k - 1, by omega⟩
  unfold grids_Apply.f
  rw [move_val (k + 1) v (by omega), one_point (k + 1) p (by omega)]
  simp only [Option.bind_some, grids_Apply.j0]
  by_cases hv : okV v = true
  · rw [if_pos hv]
    by_cases hp : okP p.x p.y = true
    · rw [if_neg (by simp [hp]), image_val v p (okV_bd hv).1 (okV_bd hv).2 hp]
      simp only [Option.bind_some]
      rw [one_point k (app v p) (by omega)]
      simp only [Option.bind_some]
      by_cases hq : okP (app v p).x (app v p).y = true
      · rw [if_pos hq, applyP_ok hv hp hq]
      · rw [if_neg hq, applyP_far hv hp hq]
    · rw [if_pos (by simpa using hp), applyP_err (fun h => hp h.2)]
  · rw [if_neg hv, applyP_err (fun h => hv h.1)]
    simp
def zeroV : Mov := ⟨⟨0, 0, 0, 0⟩, ⟨0, 0⟩⟩
def validP (v : Mov) : Mov × Int := if okV v = true then (v, 0) else (zeroV, 7)
theorem valid_val (k : Nat) (v : Mov) (hk : 2 ≤ k) : grids_valid.f k v.M.a v.M.b v.M.c v.M.d v.T.x v.T.y = some ((validP v).1.M.a, (validP v).1.M.b, (validP v).1.M.c, (validP v).1.M.d, (validP v).1.T.x, (validP v).1.T.y, (validP v).2) := by
  unfold grids_valid.f validP
  rw [move_val k v hk]
  simp only [Option.bind_some]
  by_cases h : okV v = true
  · rw [if_pos h, if_pos h]
  · rw [if_neg h, if_neg h]; rfl
def composeP (v w : Mov) : Mov × Int := if okV v = true ∧ okV w = true then validP (comp v w) else (zeroV, 2)
theorem Compose_val (k : Nat) (v w : Mov) (hk : 10 ≤ k) : grids_Compose.f k v.M.a v.M.b v.M.c v.M.d v.T.x v.T.y w.M.a w.M.b w.M.c w.M.d w.T.x w.T.y =
    some ((composeP v w).1.M.a, (composeP v w).1.M.b, (composeP v w).1.M.c, (composeP v w).1.M.d, (composeP v w).1.T.x, (composeP v w).1.T.y, (composeP v w).2) := by
  obtain ⟨k, rfl⟩ : ∃ m, k = m + 1 := ⟨k - 1, by omega⟩
  unfold grids_Compose.f
  rw [move_val (k + 1) v (by omega), move_val (k + 1) w (by omega)]
  simp only [Option.bind_some, grids_Compose.j0]
  by_cases hv : okV v = true
  · rw [if_pos hv]
    by_cases hw : okV w = true
    · obtain ⟨bv, tv⟩ := okV_bd hv
      obtain ⟨bw, tw⟩ := okV_bd hw
      have ec : composeP v w = validP (comp v w) := if_pos ⟨hv, hw⟩
      rw [if_neg (by simp [hw]), ec, times_val v.M w.M (bv.mono (by omega)) (bw.mono (by omega)), image_val v w.T bv tv (okP_iff.2 tw)]
      simp only [Option.bind_some]
      have h := valid_val k (comp v w) (by omega)
      simp only [comp] at h
      rw [h]
      rfl
    · have ec : composeP v w = (zeroV, 2) := if_neg fun h => hw h.2
      rw [if_pos (by simpa using hw), ec]; rfl
  · have ec : composeP v w = (zeroV, 2) := if_neg fun h => hv h.1
    rw [if_neg hv, ec]
    simp [zeroV]
def invertP (v : Mov) : Mov × Int := if okV v = true then (if det v.M = 1 ∨ det v.M = -1 then validP (invM v) else (zeroV, 6)) else (zeroV, 2)
theorem Invert_val (k : Nat) (v : Mov) (hk : 10 ≤ k) : grids_Invert.f k v.M.a v.M.b v.M.c v.M.d v.T.x v.T.y =
    some ((invertP v).1.M.a, (invertP v).1.M.b, (invertP v).1.M.c, (invertP v).1.M.d, (invertP v).1.T.x, (invertP v).1.T.y, (invertP v).2) := by
  obtain ⟨k, rfl⟩ : ∃ m, k = m + 1 := ⟨k - 1, by omega⟩
  unfold grids_Invert.f
  rw [move_val (k + 1) v (by omega)]
  simp only [Option.bind_some]
  by_cases hv : okV v = true
  · obtain ⟨bv, tv⟩ := okV_bd hv
    rw [if_pos hv, det_val v.M bv]
    simp only [Option.bind_some]
    have J : det v.M = 1 ∨ det v.M = -1 → grids_Invert.j0 (k + 1) false v.M.a v.M.b v.M.c v.M.d v.T.x v.T.y =
        some ((invertP v).1.M.a, (invertP v).1.M.b, (invertP v).1.M.c, (invertP v).1.M.d, (invertP v).1.T.x, (invertP v).1.T.y, (invertP v).2) := by
      intro hd
      have e : invertP v = validP (invM v) := by unfold invertP; rw [if_pos hv, if_pos hd]
      rw [e]
      simp only [grids_Invert.j0, Bool.false_eq_true, if_false]
      have bi := inv_bd bv (det_sq hd)
      have hi := image_val ⟨inv v.M, ⟨0, 0⟩⟩ v.T bi ⟨by simp, by simp, by simp, by simp⟩ (okP_iff.2 tv)
      simp only [app] at hi
      rw [inverse_val v.M bv]
      simp only [Option.bind_some]
      rw [hi]
      simp only [Option.bind_some, Int.add_zero]
      obtain ⟨ia, ib, ic, id⟩ := bi
      have p1 := mul_bd (x := (inv v.M).a) (y := v.T.x) (B := 1000000) ia (by omega)
      have p2 := mul_bd (x := (inv v.M).b) (y := v.T.y) (B := 1000000) ib (by omega)
      have p3 := mul_bd (x := (inv v.M).c) (y := v.T.x) (B := 1000000) ic (by omega)
      have p4 := mul_bd (x := (inv v.M).d) (y := v.T.y) (B := 1000000) id (by omega)
      simp (disch := omega) only [w64]
      have h := valid_val k (invM v) (by omega)
      simp only [invM] at h
      rw [h]
      rfl
    by_cases h1 : det v.M = 1
    · rw [if_pos h1]; exact J (Or.inl h1)
    · rw [if_neg h1]
      by_cases h2 : det v.M = -1
      · have := J (Or.inr h2)
        rw [h2]
        simpa using this
      · have e : invertP v = (zeroV, 6) := by unfold invertP; rw [if_pos hv, if_neg (by omega)]
        rw [e]
        simp [grids_Invert.j0, h2, zeroV]
  · have e : invertP v = (zeroV, 2) := by unfold invertP; rw [if_neg hv]
    rw [if_neg hv, e]
    rfl
end Go.Proofs.Ytmcajdepoohlhaa.Val
