/- The law GridsBack, as its printed function tells it: true for every three moves and every point. No condition beyond that the numbers fit. -/
import Derived.Test.YtmcajdepoohlhaaCBackVal7
import Derived.Test.YtmcajdepoohlhaaCBackAwake
import Derived.Test.YtmcajdepoohlhaaCBackP3
namespace Go.Proofs.Ytmcajdepoohlhaa.Pure
open Go.RowKit Go.Proofs.Ytmcajdepoohlhaa.G Go.Proofs.Ytmcajdepoohlhaa.Spec Go.Proofs.Ytmcajdepoohlhaa.Val
theorem app_comp (v w : Mov) (p : Vec) : app (comp v w) p = app v (app w p) := by
  simp only [app, comp, mul, Vec.mk.injEq]
  refine ⟨?_, ?_⟩ <;> grind
theorem comp_assoc (u v w : Mov) : comp (comp u v) w = comp u (comp v w) := by
  simp only [comp, mul_assoc, Mov.mk.injEq, true_and]
  have := app_comp u v w.T
  simp only [comp] at this
  exact this
theorem inv_app {v : Mov} (h : det v.M * det v.M = 1) (p : Vec) : app (invM v) (app v p) = p := by
  have e := inv_mul h
  simp only [mul, one, Mat.mk.injEq] at e
  obtain ⟨e1, e2, e3, e4⟩ := e
  cases p with | mk x y =>
  simp only [app, invM, Vec.mk.injEq]
  generalize inv v.M = i at *
  constructor
  · have : i.a * (v.M.a * x + v.M.b * y + v.T.x) + i.b * (v.M.c * x + v.M.d * y + v.T.y) + -(i.a * v.T.x + i.b * v.T.y) = (i.a * v.M.a + i.b * v.M.c) * x + (i.a * v.M.b + i.b * v.M.d) * y := by grind
    rw [this, e1, e2]; omega
  · have : i.c * (v.M.a * x + v.M.b * y + v.T.x) + i.d * (v.M.c * x + v.M.d * y + v.T.y) + -(i.c * v.T.x + i.d * v.T.y) = (i.c * v.M.a + i.d * v.M.c) * x + (i.c * v.M.b + i.d * v.M.d) * y := by grind
    rw [this, e3, e4]; omega
theorem validP_zero {v : Mov} (h : (validP v).2 = 0) : okV v = true ∧ validP v = (v, 0) := by
  unfold validP at h ⊢
  by_cases c : okV v = true
  · exact ⟨c, if_pos c⟩
  · rw [if_neg c] at h; simp at h
theorem composeP_zero {v w : Mov} (h : (composeP v w).2 = 0) : okV v = true ∧ okV w = true ∧ okV (comp v w) = true ∧ composeP v w = (comp v w, 0) := by
  unfold composeP at h ⊢
  by_cases c : okV v = true ∧ okV w = true
  · rw [if_pos c] at h ⊢
    obtain ⟨h1, h2⟩ := validP_zero h
    exact ⟨c.1, c.2, h1, h2⟩
  · rw [if_neg c] at h; simp at h
theorem composeP_val {v w : Mov} (hv : okV v = true) (hw : okV w = true) : composeP v w = validP (comp v w) := if_pos ⟨hv, hw⟩
theorem invertP_zero {v : Mov} (h : (invertP v).2 = 0) : okV v = true ∧ det v.M * det v.M = 1 ∧ okV (invM v) = true ∧ invertP v = (invM v, 0) := by
  unfold invertP at h ⊢
  by_cases c : okV v = true
  · rw [if_pos c] at h ⊢
    by_cases d : det v.M = 1 ∨ det v.M = -1
    · rw [if_pos d] at h ⊢
      obtain ⟨h1, h2⟩ := validP_zero h
      exact ⟨c, det_sq d, h1, h2⟩
    · rw [if_neg d] at h; simp at h
  · rw [if_neg c] at h; simp at h
theorem back3 (k : Nat) (hk : 1000 ≤ k) (v0 v1 v2 : Mov) (p : Vec) (h0 : okV v0 = true) (ha : okV (comp v0 v1) = true) :
    torchonlaw06_GridsBack.j3 (k + 1) false v0.M.a v0.M.b v0.M.c v0.M.d v0.T.x v0.T.y v1.M.a v1.M.b v1.M.c v1.M.d v1.T.x v1.T.y v2.M.a v2.M.b v2.M.c v2.M.d v2.T.x v2.T.y p.x p.y
      (comp v0 v1).M.a (comp v0 v1).M.b (comp v0 v1).M.c (comp v0 v1).M.d (comp v0 v1).T.x (comp v0 v1).T.y = some true := by
  simp only [torchonlaw06_GridsBack.j3, Bool.false_eq_true, if_false]
  rw [Apply_val k v1 p (by omega), awake_val k (by omega)]
  simp only [Option.bind_some]
  rw [Apply_val k v0 (applyP v1 p).1 (by omega), Apply_val k (comp v0 v1) p (by omega)]
  simp only [Option.bind_some]
  by_cases h : (applyP v1 p).2 = 0
  · obtain ⟨hv, hp, hq, e⟩ := applyP_zero h
    rw [e]
    have e2 : applyP v0 (app v1 p) = applyP (comp v0 v1) p := by
      have l1 : applyP v0 (app v1 p) = if okP (app v0 (app v1 p)).x (app v0 (app v1 p)).y = true then (app v0 (app v1 p), 0) else (⟨0, 0⟩, 7) := if_pos ⟨h0, hq⟩
      have l2 : applyP (comp v0 v1) p = if okP (app (comp v0 v1) p).x (app (comp v0 v1) p).y = true then (app (comp v0 v1) p, 0) else (⟨0, 0⟩, 7) := if_pos ⟨ha, hp⟩
      rw [l1, l2, app_comp]
    simp only [e2, if_true]
    simp
  · rw [if_neg h]
theorem back2 (k : Nat) (hk : 1000 ≤ k) (b : Bool) (v0 v1 v2 a w : Mov) (p : Vec) (hb : b = false → okV v0 = true ∧ okV v2 = true ∧ okV (comp v0 v1) = true ∧ okV (comp v1 v2) = true ∧ a = comp v0 v1 ∧ w = comp v1 v2) :
    torchonlaw06_GridsBack.j2 (k + 2) b v0.M.a v0.M.b v0.M.c v0.M.d v0.T.x v0.T.y v1.M.a v1.M.b v1.M.c v1.M.d v1.T.x v1.T.y v2.M.a v2.M.b v2.M.c v2.M.d v2.T.x v2.T.y p.x p.y
      a.M.a a.M.b a.M.c a.M.d a.T.x a.T.y w.M.a w.M.b w.M.c w.M.d w.T.x w.T.y = some true := by
  simp only [torchonlaw06_GridsBack.j2]
  cases b with
  | true => rw [if_pos rfl, awake_val (k + 1) (by omega)]; rfl
  | false =>
    obtain ⟨h0, h2, ha, hw, rfl, rfl⟩ := hb rfl
    rw [if_neg (by simp), Compose_val (k + 1) (comp v0 v1) v2 (by omega), Compose_val (k + 1) v0 (comp v1 v2) (by omega)]
    simp only [Option.bind_some]
    have e : composeP (comp v0 v1) v2 = composeP v0 (comp v1 v2) := by rw [composeP_val ha h2, composeP_val h0 hw, comp_assoc]
    rw [e]
    have hf := back3 k hk v0 v1 v2 p h0 ha
    simp only [bne_self_eq_false, beq_self_eq_true, Bool.not_true, Bool.or_self, Bool.false_eq_true, if_false]
    rw [hf]
    simp
theorem back1 (k : Nat) (hk : 1000 ≤ k) (v0 v1 v2 : Mov) (p : Vec) :
    torchonlaw06_GridsBack.j1 (k + 3) v0.M.a v0.M.b v0.M.c v0.M.d v0.T.x v0.T.y v1.M.a v1.M.b v1.M.c v1.M.d v1.T.x v1.T.y v2.M.a v2.M.b v2.M.c v2.M.d v2.T.x v2.T.y p.x p.y = some true := by
  simp only [torchonlaw06_GridsBack.j1]
  rw [Compose_val (k + 2) v0 v1 (by omega), Compose_val (k + 2) v1 v2 (by omega)]
  simp only [Option.bind_some]
  by_cases h : (composeP v0 v1).2 = 0
  · rw [if_pos h]
    obtain ⟨h0, h1, ha, e⟩ := composeP_zero h
    refine back2 k hk _ v0 v1 v2 _ _ p fun hb => ?_
    have h' : (composeP v1 v2).2 = 0 := by simpa using hb
    obtain ⟨_, h2, hw, e'⟩ := composeP_zero h'
    rw [e, e']
    exact ⟨h0, h2, ha, hw, rfl, rfl⟩
  · rw [if_neg h]
    exact back2 k hk true v0 v1 v2 _ _ p fun hb => by simp at hb
theorem back0 (k : Nat) (hk : 1000 ≤ k) (b : Bool) (v0 v1 v2 i : Mov) (p q : Vec) (hb : b = true → applyP i q = (p, 0)) :
    torchonlaw06_GridsBack.j0 (k + 4) b v0.M.a v0.M.b v0.M.c v0.M.d v0.T.x v0.T.y v1.M.a v1.M.b v1.M.c v1.M.d v1.T.x v1.T.y v2.M.a v2.M.b v2.M.c v2.M.d v2.T.x v2.T.y p.x p.y
      i.M.a i.M.b i.M.c i.M.d i.T.x i.T.y q.x q.y = some true := by
  simp only [torchonlaw06_GridsBack.j0, back1 k hk]
  cases b with
  | false => simp
  | true =>
    rw [if_pos rfl, Apply_val (k + 3) i q (by omega), hb rfl]
    simp
theorem GridsBack (a0_0 a0_1 a0_2 a0_3 a0_4 a0_5 a0_6 a0_7 a0_8 a0_9 a0_10 a0_11 a0_12 a0_13 a0_14 a0_15 a0_16 a0_17 a1_0 a1_1 : Int) (_h0 : ∀ x ∈ [a0_0, a0_1, a0_2, a0_3, a0_4, a0_5, a0_6, a0_7, a0_8, a0_9, a0_10, a0_11, a0_12, a0_13, a0_14, a0_15, a0_16, a0_17], (Lit.int .i64 x).wf = true) (_h1 : ∀ x ∈ [a1_0, a1_1], (Lit.int .i64 x).wf = true) :
    ∃ k, torchonlaw06_GridsBack.f k a0_0 a0_1 a0_2 a0_3 a0_4 a0_5 a0_6 a0_7 a0_8 a0_9 a0_10 a0_11 a0_12 a0_13 a0_14 a0_15 a0_16 a0_17 a1_0 a1_1 = some true := by
  obtain ⟨k, hk⟩ : ∃ k : Nat, 1000 ≤ k := ⟨1000, Nat.le_refl _⟩
  refine ⟨k + 4, ?_⟩
  obtain ⟨v0, rfl, rfl, rfl, rfl, rfl, rfl⟩ : ∃ v : Mov, a0_0 = v.M.a ∧ a0_1 = v.M.b ∧ a0_2 = v.M.c ∧ a0_3 = v.M.d ∧ a0_4 = v.T.x ∧ a0_5 = v.T.y := ⟨⟨⟨a0_0, a0_1, a0_2, a0_3⟩, ⟨a0_4, a0_5⟩⟩, rfl, rfl, rfl, rfl, rfl, rfl⟩
  obtain ⟨v1, rfl, rfl, rfl, rfl, rfl, rfl⟩ : ∃ v : Mov, a0_6 = v.M.a ∧ a0_7 = v.M.b ∧ a0_8 = v.M.c ∧ a0_9 = v.M.d ∧ a0_10 = v.T.x ∧ a0_11 = v.T.y := ⟨⟨⟨a0_6, a0_7, a0_8, a0_9⟩, ⟨a0_10, a0_11⟩⟩, rfl, rfl, rfl, rfl, rfl, rfl⟩
  obtain ⟨v2, rfl, rfl, rfl, rfl, rfl, rfl⟩ : ∃ v : Mov, a0_12 = v.M.a ∧ a0_13 = v.M.b ∧ a0_14 = v.M.c ∧ a0_15 = v.M.d ∧ a0_16 = v.T.x ∧ a0_17 = v.T.y := ⟨⟨⟨a0_12, a0_13, a0_14, a0_15⟩, ⟨a0_16, a0_17⟩⟩, rfl, rfl, rfl, rfl, rfl, rfl⟩
  obtain ⟨p, rfl, rfl⟩ : ∃ p : Vec, a1_0 = p.x ∧ a1_1 = p.y := ⟨⟨a1_0, a1_1⟩, rfl, rfl⟩
  unfold torchonlaw06_GridsBack.f
  rw [Invert_val (k + 4) v0 (by omega), Apply_val (k + 4) v0 p (by omega)]
  simp only [Option.bind_some]
  by_cases h : (invertP v0).2 = 0
  · rw [if_pos h]
    obtain ⟨hv, hd, hi, e⟩ := invertP_zero h
    refine back0 k hk _ v0 v1 v2 _ p _ fun hb => ?_
    have h' : (applyP v0 p).2 = 0 := by simpa using hb
    obtain ⟨_, hp, hq, e'⟩ := applyP_zero h'
    rw [e, e']
    have := inv_app hd p
    rw [applyP_ok hi hq (by rw [this]; exact hp), this]
  · rw [if_neg h]
    exact back0 k hk false v0 v1 v2 _ p _ fun hb => by simp at hb
end Go.Proofs.Ytmcajdepoohlhaa.Pure
