/- A matrix in a list; a near point; the reference's product of matrices. Conditions: enough rounds; bounded numbers. -/
import Derived.Test.YtmcajdepoohlhaaCKeepVal2
import Derived.Test.YtmcajdepoohlhaaCKeepVal3
import Derived.Test.YtmcajdepoohlhaaCKeepP4
import Derived.Test.YtmcajdepoohlhaaCKeepP5
namespace Go.Proofs.Ytmcajdepoohlhaa.Val
open Go.RowKit Go.Proofs.Ytmcajdepoohlhaa.G Go.Proofs.Ytmcajdepoohlhaa.Spec
theorem refTimes2 (m n : Mat) (hm : Bd 10000 m) (hn : Bd 1000000 n) : torchonref06_Times.f m.a m.b m.c m.d n.a n.b n.c n.d = some ((mul m n).a, (mul m n).b, (mul m n).c, (mul m n).d) := by
  obtain ⟨ha, hb, hc, hd⟩ := hm
  obtain ⟨ka, kb, kc, kd⟩ := hn
  have p1 := mul_bd ha ka
  have p2 := mul_bd hb kc
  have p3 := mul_bd ha kb
  have p4 := mul_bd hb kd
  have p5 := mul_bd hc ka
  have p6 := mul_bd hd kc
  have p7 := mul_bd hc kb
  have p8 := mul_bd hd kd
  unfold torchonref06_Times.f
  simp (disch := omega) only [w64, Option.bind_some]
  rfl
theorem in_loop (m : S25) : ∀ (rest don : List S25) (k : Nat), don.length + rest.length ≤ 1000 → rest.length + 1 ≤ k →
    ∃ b, torchonlaw06_in.l0 k (don ++ rest) (don.length : Int) m.f0 m.f1 m.f2 m.f3 = some b ∧ (b = true ↔ m ∈ rest) := by
  intro rest
  induction rest with
  | nil =>
    intro don k h hk
    obtain ⟨k, rfl⟩ : ∃ q, k = q + 1 := ⟨k - 1, by omega⟩
    refine ⟨false, ?_, by simp⟩
    simp only [torchonlaw06_in.l0, List.append_nil]
    rw [if_neg (by omega)]
  | cons s rest ih =>
    intro don k h hk
    simp only [List.length_cons] at h hk
    obtain ⟨k, rfl⟩ : ∃ q, k = q + 1 := ⟨k - 1, by omega⟩
    have gl : (don ++ s :: rest)[don.length]? = some s := by rw [List.getElem?_append_right (by omega)]; simp
    simp only [torchonlaw06_in.l0]
    rw [if_pos (by simp; omega), if_pos (by omega), rd_at gl rfl]
    by_cases c : (s.f0 == m.f0 && (s.f1 == m.f1 && (s.f2 == m.f2 && (s.f3 == m.f3)))) = true
    · rw [if_pos c]
      refine ⟨true, rfl, ?_⟩
      simp only [Bool.and_eq_true, beq_iff_eq] at c
      obtain ⟨c0, c1, c2, c3⟩ := c
      have : m = s := by cases m; cases s; simp only at c0 c1 c2 c3; subst c0 c1 c2 c3; rfl
      simp [this]
    · rw [if_neg c, w64 (by omega) (by omega)]
      simp only [Option.bind_some]
      obtain ⟨b, h1, h2⟩ := ih (don ++ [s]) k (by simp; omega) (by omega)
      have e3 : ((don ++ [s]).length : Int) = (don.length : Int) + 1 := by simp
      rw [e3, List.append_assoc] at h1
      refine ⟨b, h1, ?_⟩
      rw [h2, List.mem_cons]
      have : m ≠ s := fun e => c (by rw [e]; simp)
      simp [this]
theorem in_val (k : Nat) (L : List S25) (m : S25) (hL : L.length ≤ 1000) (hk : L.length + 1 ≤ k) : ∃ b, torchonlaw06_in.f k L m.f0 m.f1 m.f2 m.f3 = some b ∧ (b = true ↔ m ∈ L) := by
  have := in_loop m L [] k (by simpa using hL) hk
  simpa [torchonlaw06_in.f] using this
theorem near_val (x y : Int) : torchonlaw06_near.f x y = some (Int.tmod x 11, Int.tmod y 11) := rfl
theorem tmod_bd (x : Int) : -10 ≤ Int.tmod x 11 ∧ Int.tmod x 11 ≤ 10 := by rw [Int.tmod_eq_emod]; split <;> omega
end Go.Proofs.Ytmcajdepoohlhaa.Val
