/- The law GridsTurns, as its printed function tells it: true for every four points and one. No condition beyond that the numbers fit. -/
import Derived.Test.YtmcajdepoohlhaaCTurnsVal
import Derived.Test.YtmcajdepoohlhaaCTurnsAwake
import Derived.Test.YtmcajdepoohlhaaCTurnsP4
namespace Go.Proofs.Ytmcajdepoohlhaa.Pure
open Go.RowKit Go.Proofs.Ytmcajdepoohlhaa.G Go.Proofs.Ytmcajdepoohlhaa.Spec Go.Proofs.Ytmcajdepoohlhaa.Val
theorem turnP_ok {o f p q : Vec} (h : (turnP o f p q).2 = 0) : okP o.x o.y = true ∧ okP f.x f.y = true ∧ okP p.x p.y = true ∧ okP q.x q.y = true ∧ f ≠ o ∧ p ≠ o ∧ q ≠ o := by
  unfold turnP at h
  split at h
  · assumption
  · simp at h
theorem turnP_val {o f p q : Vec} (h : okP o.x o.y = true ∧ okP f.x f.y = true ∧ okP p.x p.y = true ∧ okP q.x q.y = true ∧ f ≠ o ∧ p ≠ o ∧ q ≠ o) :
    turnP o f p q = (turn ⟨f.x - o.x, f.y - o.y⟩ ⟨p.x - o.x, p.y - o.y⟩ ⟨q.x - o.x, q.y - o.y⟩, 0) := if_pos h
theorem turnP_err {o f p q : Vec} (h : ¬ (turnP o f p q).2 = 0) : turnP o f p q = (0, 2) := by
  unfold turnP at h ⊢
  split
  · rw [if_pos ‹_›] at h; simp at h
  · rfl
theorem nz_of {a o : Vec} (h : a ≠ o) : Nz ⟨a.x - o.x, a.y - o.y⟩ := by
  unfold Nz
  cases a; cases o
  simp only [ne_eq, Vec.mk.injEq] at h
  simp only
  omega
theorem GridsTurns (a0_0 a0_1 a0_2 a0_3 a0_4 a0_5 a0_6 a0_7 a1_0 a1_1 : Int) (_h0 : ∀ x ∈ [a0_0, a0_1, a0_2, a0_3, a0_4, a0_5, a0_6, a0_7], (Lit.int .i64 x).wf = true) (_h1 : ∀ x ∈ [a1_0, a1_1], (Lit.int .i64 x).wf = true) :
    ∃ k, torchonlaw06_GridsTurns.f k a0_0 a0_1 a0_2 a0_3 a0_4 a0_5 a0_6 a0_7 a1_0 a1_1 = some true := by
  refine ⟨200, ?_⟩
  have A (k : Nat) (hk : 130 ≤ k) := awake_val k hk
  have T (k : Nat) (hk : 10 ≤ k) (o f p q : Vec) := turn_val k o f p q hk
  generalize ho : (⟨a0_0, a0_1⟩ : Vec) = o
  generalize hp : (⟨a0_2, a0_3⟩ : Vec) = p
  generalize hq : (⟨a0_4, a0_5⟩ : Vec) = q
  generalize hr : (⟨a0_6, a0_7⟩ : Vec) = r
  generalize hy : (⟨a1_0, a1_1⟩ : Vec) = y
  obtain ⟨rfl, rfl⟩ : a0_0 = o.x ∧ a0_1 = o.y := by subst ho; exact ⟨rfl, rfl⟩
  obtain ⟨rfl, rfl⟩ : a0_2 = p.x ∧ a0_3 = p.y := by subst hp; exact ⟨rfl, rfl⟩
  obtain ⟨rfl, rfl⟩ : a0_4 = q.x ∧ a0_5 = q.y := by subst hq; exact ⟨rfl, rfl⟩
  obtain ⟨rfl, rfl⟩ : a0_6 = r.x ∧ a0_7 = r.y := by subst hr; exact ⟨rfl, rfl⟩
  obtain ⟨rfl, rfl⟩ : a1_0 = y.x ∧ a1_1 = y.y := by subst hy; exact ⟨rfl, rfl⟩
  clear ho hp hq hr hy
  unfold torchonlaw06_GridsTurns.f
  rw [T 200 (by omega), T 200 (by omega), T 200 (by omega)]
  simp only [Option.bind_some]
  by_cases e : (turnP o p q r).2 = 0
  · obtain ⟨vo, vp, vq, vr, np, nq, nr⟩ := turnP_ok e
    rw [turnP_val ⟨vo, vp, vq, vr, np, nq, nr⟩, turnP_val ⟨vo, vp, vr, vq, np, nr, nq⟩, turnP_val ⟨vo, vp, vp, vq, np, np, nq⟩]
    have zp := nz_of np
    have zq := nz_of nq
    have zr := nz_of nr
    have b1 := turn_anti ⟨p.x - o.x, p.y - o.y⟩ ⟨q.x - o.x, q.y - o.y⟩ ⟨r.x - o.x, r.y - o.y⟩
    have b2 := turn_first (b := ⟨q.x - o.x, q.y - o.y⟩) zp
    have b3 := turn_small ⟨p.x - o.x, p.y - o.y⟩ ⟨q.x - o.x, q.y - o.y⟩ ⟨r.x - o.x, r.y - o.y⟩
    rw [b1]
    have hw : wrap64 (- - turn ⟨p.x - o.x, p.y - o.y⟩ ⟨q.x - o.x, q.y - o.y⟩ ⟨r.x - o.x, r.y - o.y⟩) = turn ⟨p.x - o.x, p.y - o.y⟩ ⟨q.x - o.x, q.y - o.y⟩ ⟨r.x - o.x, r.y - o.y⟩ := by
      rw [Int.neg_neg]; exact w64 (by omega) (by omega)
    simp only [hw, if_true]
    have hf : decide (turn ⟨p.x - o.x, p.y - o.y⟩ ⟨p.x - o.x, p.y - o.y⟩ ⟨q.x - o.x, q.y - o.y⟩ > 0) = false := by simp; omega
    rw [hf]
    show torchonlaw06_GridsTurns.j0 (199 + 1) _ _ _ _ _ _ _ _ _ _ _ _ = _
    simp only [torchonlaw06_GridsTurns.j0]
    rw [T 199 (by omega), T 199 (by omega)]
    simp only [Option.bind_some, Bool.false_eq_true, if_false]
    by_cases g : (turnP o p r y).2 = 0
    · obtain ⟨_, _, _, vy, _, _, ny⟩ := turnP_ok g
      have zy := nz_of ny
      rw [turnP_val ⟨vo, vp, vr, vy, np, nr, ny⟩, turnP_val ⟨vo, vp, vq, vy, np, nq, ny⟩]
      have tr := turn_trans zp zq zr zy
      generalize turn ⟨p.x - o.x, p.y - o.y⟩ ⟨q.x - o.x, q.y - o.y⟩ ⟨r.x - o.x, r.y - o.y⟩ = a at *
      generalize turn ⟨p.x - o.x, p.y - o.y⟩ ⟨r.x - o.x, r.y - o.y⟩ ⟨y.x - o.x, y.y - o.y⟩ = c at *
      generalize turn ⟨p.x - o.x, p.y - o.y⟩ ⟨q.x - o.x, q.y - o.y⟩ ⟨y.x - o.x, y.y - o.y⟩ = d at *
      rw [A 199 (by omega)]
      simp only [Option.bind_some, if_true]
      by_cases c1 : a > 0
      · rw [if_pos c1]
      rw [if_neg c1]
      by_cases c2 : c > 0
      · rw [if_pos c2]
      rw [if_neg c2]
      obtain ⟨t1, t2⟩ := tr (by omega) (by omega)
      rw [if_pos t1]
      by_cases c3 : a = 0
      · rw [if_pos c3, if_pos]
        by_cases c4 : c = 0
        · have : d = 0 := t2.2 ⟨c3, c4⟩
          simp [c4, this]
        · have h1 : (c == 0) = false := by simpa using c4
          have h2 : (d == 0) = false := by simpa using fun h => c4 (t2.1 h).2
          rw [h1, h2]; rfl
      · rw [if_neg c3, if_pos]
        have h2 : (d == 0) = false := by simpa using fun h => c3 (t2.1 h).1
        rw [h2]; rfl
    · have g2 : ¬ (turnP o p q y).2 = 0 := by
        intro h
        obtain ⟨_, _, _, vy, _, _, ny⟩ := turnP_ok h
        exact g (by rw [turnP_val ⟨vo, vp, vr, vy, np, nr, ny⟩])
      rw [turnP_err g, turnP_err g2, A 199 (by omega)]
      simp
  · have e2 : ¬ (turnP o p r q).2 = 0 := by
      intro h
      obtain ⟨vo, vp, vr, vq, np, nr, nq⟩ := turnP_ok h
      exact e (by rw [turnP_val ⟨vo, vp, vq, vr, np, nq, nr⟩])
    rw [turnP_err e, turnP_err e2, A 200 (by omega)]
    simp
end Go.Proofs.Ytmcajdepoohlhaa.Pure
