/- What the reference's reduction comes to. Conditions: enough rounds; a valid lattice where one is asked. -/
import Derived.Test.YtmcajdepoohlhaaCRdcVal4
import Derived.Test.YtmcajdepoohlhaaCRdcVal11
import Derived.Test.YtmcajdepoohlhaaCRdcVal12a
import Derived.Test.YtmcajdepoohlhaaCRdcP1
namespace Go.Proofs.Ytmcajdepoohlhaa.Val
open Go.RowKit Go.Proofs.Ytmcajdepoohlhaa.G Go.Proofs.Ytmcajdepoohlhaa.Spec
/-- The first step is subtracted from the second one. -/
theorem round_sub {l0 l : Lat} {m : Mat} (h0 : Valid l0) (h : Round l0 l m) (hB : l.A < 2 * l.B) : Round l0 ⟨l.A, l.B - l.A, l.C - 2 * l.B + l.A⟩ (mul m (shear 1)) := by
  have e : lead l (shear 1) = ⟨l.A, l.B - l.A, l.C - 2 * l.B + l.A⟩ := by
    rw [lead_shear]
    simp only [Lat.mk.injEq]
    refine ⟨trivial, ?_, ?_⟩ <;> grind
  have hdet : det (shear 1) = 1 := by simp [det, shear]
  have hd : disc (lead l (shear 1)) = disc l := by rw [disc_lead, hdet]; omega
  have hD := h.disc
  have d1 := h0.d1
  have a1 := h.a1
  have a2 := h.a2
  have b2 := h.b2
  have c2 := h.c2
  rw [e] at hd
  have hC1 : 1 ≤ l.C - 2 * l.B + l.A := by
    have e2 : disc ⟨l.A, l.B - l.A, l.C - 2 * l.B + l.A⟩ = l.A * (l.C - 2 * l.B + l.A) - (l.B - l.A) * (l.B - l.A) := rfl
    have : 0 < l.A * (l.C - 2 * l.B + l.A) := by have := sq_nonneg (l.B - l.A); omega
    rcases Int.lt_or_le 0 (l.C - 2 * l.B + l.A) with g | g
    · omega
    · have := Int.mul_nonneg (show 0 ≤ l.A by omega) (show 0 ≤ -(l.C - 2 * l.B + l.A) by omega)
      have e' : l.A * -(l.C - 2 * l.B + l.A) = -(l.A * (l.C - 2 * l.B + l.A)) := by grind
      omega
  exact ⟨by rw [← lead_mul, h.ld, e], by rw [det_mul, hdet, Int.mul_one]; exact h.dd, a1, a2, hC1, by simp only; omega, by simp only; omega, by simp only; omega⟩
theorem refred_loop {l0 : Lat} (h0 : Valid l0) : ∀ (n : Nat) (l : Lat) (m : Mat) (k : Nat), Round l0 l m → 3 * (l.A + l.C) + (if l.C < l.A then 1 else 0) + (if l.B < 0 then 1 else 0) ≤ n → 2 * n + 2 ≤ k →
    ∃ r g, torchonref06_Reduced.l0 k l.A l.B l.C = some (r.A, r.B, r.C) ∧ Round l0 r g ∧ Red r := by
  intro n
  induction n with
  | zero => intro l m k h hn; have := h.a1; have := h.c1; split at hn <;> split at hn <;> omega
  | succ n ih =>
    intro l m k h hn hk
    obtain ⟨k, rfl⟩ : ∃ q, k = q + 2 := ⟨k - 2, by omega⟩
    have a1 := h.a1
    have a2 := h.a2
    have b1 := h.b1
    have b2 := h.b2
    have c1 := h.c1
    have c2 := h.c2
    by_cases cR : 0 ≤ l.B ∧ 2 * l.B ≤ l.A ∧ l.A ≤ l.C
    · obtain ⟨r1, r2, r3⟩ := cR
      refine ⟨l, m, ?_, h, ⟨r1, r2, r3, a1⟩⟩
      simp only [torchonref06_Reduced.l0]
      rw [if_pos (by omega), w64 (by omega) (by omega)]
      simp only [Option.bind_some]
      rw [if_pos r2, decide_eq_true r3]
      simp only [torchonref06_Reduced.j1, Bool.not_true, Bool.false_eq_true, if_false]
    · have J : torchonref06_Reduced.l0 (k + 2) l.A l.B l.C = torchonref06_Reduced.j1 (k + 1) true l.A l.B l.C := by
        simp only [torchonref06_Reduced.l0]
        by_cases q1 : l.B ≥ 0
        · rw [if_pos q1, w64 (by omega) (by omega)]
          simp only [Option.bind_some]
          by_cases q2 : 2 * l.B ≤ l.A
          · rw [if_pos q2, decide_eq_false (by omega)]
            rfl
          · rw [if_neg q2]
            rfl
        · rw [if_neg q1]
          rfl
      rw [J]
      simp only [torchonref06_Reduced.j1, if_true]
      by_cases q1 : l.A > l.C
      · rw [if_pos q1]
        refine ih ⟨l.C, l.B, l.A⟩ ⟨m.b, m.a, m.d, m.c⟩ k h.swap ?_ (by omega)
        rw [if_pos q1] at hn
        simp only
        rw [if_neg (by omega)]
        split at hn <;> rename_i hb <;> simp only [hb, if_true, if_false] <;> omega
      rw [if_neg q1]
      rw [if_neg (by omega)] at hn
      by_cases q2 : l.B < 0
      · rw [if_pos q2, w64 (by omega) (by omega)]
        simp only [Option.bind_some]
        rw [if_pos q2] at hn
        refine ih ⟨l.A, -l.B, l.C⟩ ⟨m.a, -m.b, m.c, -m.d⟩ k h.flip ?_ (by omega)
        simp only
        rw [if_neg (by omega), if_neg (by omega)]
        omega
      · rw [if_neg q2]
        rw [if_neg q2] at hn
        simp (disch := omega) only [w64, Option.bind_some]
        refine ih ⟨l.A, l.B - l.A, l.C - 2 * l.B + l.A⟩ _ k (round_sub h0 h (by omega)) ?_ (by omega)
        simp only
        split <;> split <;> omega
theorem refReduced_val {l : Lat} (h : Valid l) : ∃ r g, (∀ k, 130000 ≤ k → torchonref06_Reduced.f k l.A l.B l.C = some (r.A, r.B, r.C)) ∧ Round l r g ∧ Red r := by
  obtain ⟨r, g, h1, h2, h3⟩ := refred_loop h 60002 l one 120006 (Round.start h) (by have := h.a2; have := h.c2; split <;> split <;> omega) (by omega)
  refine ⟨r, g, fun k hk => ?_, h2, h3⟩
  obtain ⟨d, rfl⟩ : ∃ d, k = 120006 + d := ⟨k - 120006, by omega⟩
  clear hk
  induction d with
  | zero => exact h1
  | succ d ih => exact torchonref06_Reduced.mono _ _ _ _ _ ih
theorem refReduce_val (l : Lat) (hv : Valid l) : ∃ r m, (∃ K, ∀ k, K ≤ k → torchonref06_Reduce.f k l.A l.B l.C = some (r.A, r.B, r.C, m.a, m.b, m.c, m.d, 0)) ∧ Round l r m ∧ Red r ∧ ∀ n, Round l r n → ¬ Lt (ofM n) (ofM m) := by
  obtain ⟨r, g, hf, hR, hr⟩ := refReduced_val hv
  obtain ⟨L, ⟨K, hK⟩, hup, hmem⟩ := Leading_val (t := r) hv ⟨hR.a1, hR.a2⟩ ⟨hR.c1, hR.c2⟩
  have hin : ∀ n, Round l r n → ofM n ∈ L := fun n hn => (hmem _).2 ⟨by rw [to_of]; exact hn.ld, by rw [to_of]; exact det_pm hn.dd⟩
  cases L with
  | nil => exact absurd (hin g hR) (by simp)
  | cons s rest =>
    have hs := (hmem s).1 (by simp)
    refine ⟨r, toM s, ⟨K + 130000, fun k hk => ?_⟩, ⟨hs.1, det_sq hs.2, hR.a1, hR.a2, hR.c1, hR.c2, hR.b1, hR.b2⟩, hr, fun n hn => ?_⟩
    · unfold torchonref06_Reduce.f
      rw [refCheck_val k l (by omega), if_pos hv]
      simp only [Option.bind_some, if_true]
      rw [hf k (by omega)]
      simp only [Option.bind_some]
      rw [hK k (by omega)]
      simp only [Option.bind_some]
      rw [if_pos (by simp only [List.length_cons]; omega)]
      rfl
    · rw [of_to]
      rcases List.mem_cons.1 (hin n hn) with e | e
      · rw [e]; exact lt_irr s
      · exact lt_asymm ((List.pairwise_cons.1 hup).1 _ e)
theorem refReduce_err (k : Nat) (l : Lat) (hv : ¬ Valid l) (hk : 1 ≤ k) : torchonref06_Reduce.f k l.A l.B l.C = some (0, 0, 0, 0, 0, 0, 0, 2) := by
  unfold torchonref06_Reduce.f
  rw [refCheck_val k l hk, if_neg hv]
  simp
end Go.Proofs.Ytmcajdepoohlhaa.Val
