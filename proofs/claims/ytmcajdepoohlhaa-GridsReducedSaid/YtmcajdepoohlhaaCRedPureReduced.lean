/- The law GridsReduced, as its printed function tells it: true for every lattice and matrix. No condition beyond that the numbers fit. -/
import Derived.Test.YtmcajdepoohlhaaCRedVal4
import Derived.Test.YtmcajdepoohlhaaCRedVal6
import Derived.Test.YtmcajdepoohlhaaCRedAwake
import Derived.Test.YtmcajdepoohlhaaCRedP3
namespace Go.Proofs.Ytmcajdepoohlhaa.Pure
open Go.RowKit Go.Proofs.Ytmcajdepoohlhaa.G Go.Proofs.Ytmcajdepoohlhaa.Spec Go.Proofs.Ytmcajdepoohlhaa.Val
theorem red_valid {l r : Lat} {m : Mat} (hv : Valid l) (h : Round l r m) : Valid r :=
  ⟨h.a1, h.a2, h.c1, h.c2, h.b1, h.b2, by rw [h.disc]; exact hv.d1⟩
theorem same_red {l r s : Lat} {m n g : Mat} (h : Round l r m) (hr : Red r) (hd : det g * det g = 1) (k : Round (lead l g) s n) (hs : Red s) : s = r := by
  refine (red_unique (g := mul (inv m) (mul g n)) hr hs ?_ ?_).symm
  · rw [det_mul, det_mul, det_inv h.dd]
    have a := h.dd
    have b := k.dd
    grind
  · rw [← lead_mul, ← lead_mul]
    conv => lhs; arg 1; arg 1; rw [← h.ld, lead_inv h.dd]
    exact k.ld
theorem bool_ne {a b : Lat} (h : a = b) : (!(a.A == b.A) || (!(a.B == b.B) || (!(a.C == b.C)))) = false := by subst h; simp
theorem GridsReduced (a0_0 a0_1 a0_2 a1_0 a1_1 a1_2 a1_3 : Int) (_h0 : ∀ x ∈ [a0_0, a0_1, a0_2], (Lit.int .i64 x).wf = true) (_h1 : ∀ x ∈ [a1_0, a1_1, a1_2, a1_3], (Lit.int .i64 x).wf = true) :
    ∃ k, torchonlaw06_GridsReduced.f k a0_0 a0_1 a0_2 a1_0 a1_1 a1_2 a1_3 = some true := by
  obtain ⟨k, hk⟩ : ∃ k : Nat, 25000 ≤ k := ⟨25000, Nat.le_refl _⟩
  refine ⟨k + 3, ?_⟩
  obtain ⟨l, rfl, rfl, rfl⟩ : ∃ l : Lat, a0_0 = l.A ∧ a0_1 = l.B ∧ a0_2 = l.C := ⟨⟨a0_0, a0_1, a0_2⟩, rfl, rfl, rfl⟩
  have A := awake_val (k + 3) (by omega)
  have A' := awake_val k (by omega)
  unfold torchonlaw06_GridsReduced.f
  by_cases hv : Valid l
  · obtain ⟨r, m, hf, hR, hr, _⟩ := Reduce_val l hv
    have hs := hR.small hv
    have hrv := red_valid hv hR
    rw [hf (k + 3) (by omega)]
    simp only [Option.bind_some, if_true]
    rw [gcheck_val (k + 3) r (by omega), if_pos hrv]
    simp only [Option.bind_some, if_true]
    have b0 := hr.b0
    have ba := hr.ba
    have ac := hr.ac
    have a2 := hrv.a2
    rw [if_neg (by omega), w64 (by omega) (by omega)]
    rw [if_neg (by omega), if_neg (by omega), refMatrix_val, decide_eq_true hs]
    simp only [Option.bind_some, if_true]
    rw [lawlead_val l m (valid_lb hv) (small_bd hs)]
    simp only [Option.bind_some]
    rw [bool_ne hR.ld]
    simp only [torchonlaw06_GridsReduced.j0, Bool.false_eq_true, if_false]
    have hd0 := det_bd (small_bd hs)
    obtain ⟨ma, mb, mc, md⟩ := small_bd hs
    have p1 := mul_bd ma md
    have p2 := mul_bd mb mc
    have ed : det m = m.a * m.d - m.b * m.c := rfl
    have hpm := det_pm hR.dd
    rw [ed] at hpm
    simp (disch := omega) only [w64, Option.bind_some]
    have fin : torchonlaw06_GridsReduced.j1 (k + 2) false l.A l.B l.C a1_0 a1_1 a1_2 a1_3 r.A r.B r.C = some true := by
      simp only [torchonlaw06_GridsReduced.j1, Bool.false_eq_true, if_false, Option.bind_some, torchonlaw06_mat.f]
      have h0 : -3 ≤ Int.tmod a1_0 4 ∧ Int.tmod a1_0 4 ≤ 3 := by rw [Int.tmod_eq_emod]; split <;> omega
      have h1 : -3 ≤ Int.tmod a1_1 4 ∧ Int.tmod a1_1 4 ≤ 3 := by rw [Int.tmod_eq_emod]; split <;> omega
      have h2 : -3 ≤ Int.tmod a1_2 4 ∧ Int.tmod a1_2 4 ≤ 3 := by rw [Int.tmod_eq_emod]; split <;> omega
      have h3 : -3 ≤ Int.tmod a1_3 4 ∧ Int.tmod a1_3 4 ≤ 3 := by rw [Int.tmod_eq_emod]; split <;> omega
      obtain ⟨g, e0, e1, e2, e3⟩ : ∃ g : Mat, Int.tmod a1_0 4 = g.a ∧ Int.tmod a1_1 4 = g.b ∧ Int.tmod a1_2 4 = g.c ∧ Int.tmod a1_3 4 = g.d := ⟨⟨_, _, _, _⟩, rfl, rfl, rfl, rfl⟩
      rw [e0, e1, e2, e3]
      rw [e0] at h0
      rw [e1] at h1
      rw [e2] at h2
      rw [e3] at h3
      have q1 := mul_bd h0 h3
      have q2 := mul_bd h1 h2
      simp (disch := omega) only [w64]
      rw [lawlead_val l g (valid_lb hv) (by unfold Bd; omega)]
      simp only [Option.bind_some]
      have J : ∀ b : Bool, (b = false → Valid (lead l g) ∧ (det g = 1 ∨ det g = -1)) → torchonlaw06_GridsReduced.j2 (k + 1) b r.A r.B r.C (lead l g).A (lead l g).B (lead l g).C = some true := by
        intro b hb
        simp only [torchonlaw06_GridsReduced.j2, A']
        cases b with
        | true => simp
        | false =>
          obtain ⟨hvg, hdg⟩ := hb rfl
          obtain ⟨s, n, hf2, hR2, hr2, _⟩ := Reduce_val (lead l g) hvg
          have e := same_red hR hr (det_sq hdg) hR2 hr2
          subst e
          rw [hf2 k (by omega)]
          simp
      have edg : det g = g.a * g.d - g.b * g.c := rfl
      by_cases c1 : g.a * g.d - g.b * g.c = 1
      · rw [if_pos c1, gcheck_val (k + 1) (lead l g) (by omega)]
        simp only [Option.bind_some]
        refine J _ fun hb => ?_
        by_cases hvg : Valid (lead l g)
        · exact ⟨hvg, Or.inl c1⟩
        · rw [if_neg hvg] at hb; simp at hb
      rw [if_neg c1]
      by_cases c2 : g.a * g.d - g.b * g.c = -1
      · rw [if_pos c2, gcheck_val (k + 1) (lead l g) (by omega)]
        simp only [Option.bind_some]
        refine J _ fun hb => ?_
        by_cases hvg : Valid (lead l g)
        · exact ⟨hvg, Or.inr c2⟩
        · rw [if_neg hvg] at hb; simp at hb
      rw [if_neg c2]
      exact J true fun h => by simp at h
    rcases hpm with e | e
    · rw [e, if_pos rfl]
      exact fin
    · rw [e, if_neg (by omega)]
      exact fin
  · rw [Reduce_err (k + 3) l hv (by omega)]
    simp only [Option.bind_some]
    rw [if_neg (by omega), gcheck_val (k + 3) l (by omega), if_neg hv]
    simp only [Option.bind_some, if_true, A]
end Go.Proofs.Ytmcajdepoohlhaa.Pure
