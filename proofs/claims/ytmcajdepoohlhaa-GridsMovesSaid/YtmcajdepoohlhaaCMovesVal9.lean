/- What both orders of a matrix come to. Conditions: enough rounds. -/
import Derived.Test.YtmcajdepoohlhaaCMovesVal8
import Derived.Test.YtmcajdepoohlhaaCMovesPow
import Derived.Test.YtmcajdepoohlhaaCMovesP0
import Derived.Test.YtmcajdepoohlhaaCMovesP3
namespace Go.Proofs.Ytmcajdepoohlhaa.Val
open Go.RowKit Go.Proofs.Ytmcajdepoohlhaa.G Go.Proofs.Ytmcajdepoohlhaa.Spec Go.Proofs.YtmcajdepoohlhaaW.PrintWords
theorem bool_one (m : Mat) : (m.a == 1 && (m.b == 0 && (m.c == 0 && (m.d == 1)))) = decide (m = one) := by
  cases m
  simp only [one, Mat.mk.injEq, Bool.decide_and]
  rfl
/-- The order of a matrix, as the program tells it. -/
def orderP (m : Mat) : Int × Int := if Small m then (ordM m, 0) else (0, 2)
theorem Order_val (k : Nat) (m : Mat) (hk : 10 ≤ k) : grids_Order.f k m.a m.b m.c m.d = some ((orderP m).1, (orderP m).2) := by
  obtain ⟨k, rfl⟩ : ∃ q, k = q + 2 := ⟨k - 2, by omega⟩
  unfold grids_Order.f
  rw [matrix_val]
  simp only [Option.bind_some]
  by_cases hs : Small m
  · have eo : orderP m = (ordM m, 0) := if_pos hs
    rw [eo, decide_eq_true hs, if_pos rfl, det_val m (small_bd hs)]
    simp only [Option.bind_some]
    rw [bool_one, times_val m m ((small_bd hs).mono (by omega)) ((small_bd hs).mono (by omega))]
    simp only [Option.bind_some]
    rw [bool_one]
    obtain ⟨ha, hb, hc, hd⟩ := small_bd hs
    rw [w64 (by omega) (by omega)]
    have et : m.a + m.d = tr m := rfl
    rw [et]
    unfold ordM
    by_cases h1 : m = one
    · simp [h1]
    have h1' : decide (m = one) = false := decide_eq_false h1
    rw [h1', if_neg h1]
    by_cases h2 : mul m m = one
    · simp [h2]
    have h2' : decide (mul m m = one) = false := decide_eq_false h2
    rw [h2', if_neg h2]
    simp only [Bool.false_eq_true, if_false, grids_Order.j0, grids_Order.j1]
    by_cases h3 : det m = 1
    · simp only [h3, true_and, if_true]
      by_cases t1 : tr m = -1
      · simp [t1]
      by_cases t2 : tr m = 0
      · simp [t2]
      by_cases t3 : tr m = 1
      · simp [t3]
      simp [t1, t2, t3]
    · simp [h3]
  · have eo : orderP m = (0, 2) := if_neg hs
    rw [eo, decide_eq_false hs]
    simp
def Six (m : Mat) : Prop := (-1000000 ≤ m.a ∧ m.a ≤ 1000000) ∧ (-1000000 ≤ m.b ∧ m.b ≤ 1000000) ∧ (-1000000 ≤ m.c ∧ m.c ≤ 1000000) ∧ (-1000000 ≤ m.d ∧ m.d ≤ 1000000)
instance (m : Mat) : Decidable (Six m) := by unfold Six; infer_instance
theorem small_val (m : Mat) : torchonref06_small.f m.a m.b m.c m.d = some (decide (Six m)) := by
  unfold torchonref06_small.f
  rw [from_val, from_val, from_val, from_val]
  simp only [Option.bind_some]
  unfold Six
  by_cases h1 : -1000000 ≤ m.a ∧ m.a ≤ 1000000
  · by_cases h2 : -1000000 ≤ m.b ∧ m.b ≤ 1000000
    · by_cases h3 : -1000000 ≤ m.c ∧ m.c ≤ 1000000
      · simp [h1, h2, h3]
      · simp [h1, h2, h3]
    · simp [h1, h2]
  · simp [h1]
theorem order_round (m : Mat) (hm : Small m) (k i : Nat) (hi : i ≤ 12) :
    torchonref06_Order.l0 (k + 3) (i : Int) m.a m.b m.c m.d (pw m i).a (pw m i).b (pw m i).c (pw m i).d =
      if Six (pw m i) then (if pw m i = one then some ((i : Int), 0) else torchonref06_Order.l0 k ((i + 1 : Nat) : Int) m.a m.b m.c m.d (pw m (i + 1)).a (pw m (i + 1)).b (pw m (i + 1)).c (pw m (i + 1)).d) else some (0, 0) := by
  simp only [torchonref06_Order.l0, torchonref06_Order.j1, torchonref06_Order.j2]
  rw [if_pos (by omega), small_val]
  simp only [Option.bind_some]
  by_cases h : Six (pw m i)
  · rw [if_pos h, decide_eq_true h, if_pos rfl]
    have ht := refTimes_val m (pw m i) (small_bd hm) h
    have en : mul m (pw m i) = pw m (i + 1) := rfl
    rw [en] at ht
    rw [ht, w64 (by omega) (by omega)]
    simp only [Option.bind_some]
    rw [show (i : Int) + 1 = ((i + 1 : Nat) : Int) by omega]
    generalize hq : pw m i = q at *
    by_cases c : q = one
    · rw [if_pos c]
      subst c
      simp [one]
    · rw [if_neg c]
      by_cases c1 : q.a = 1
      · by_cases c2 : q.b = 0
        · by_cases c3 : q.c = 0
          · by_cases c4 : q.d = 1
            · exact absurd (by cases q; simp_all [one]) c
            · simp [c1, c2, c3, c4]
          · simp [c1, c2, c3]
        · simp [c1, c2]
      · simp [c1]
  · rw [if_neg h, decide_eq_false h, if_neg (by simp)]
theorem order_hit (m : Mat) (hm : Small m) (n : Nat) (hn : n ≤ 12) (he : pw m n = one) : ∀ (d k i : Nat), i + d = n → (∀ j, i ≤ j → j ≤ n → Six (pw m j)) → (∀ j, i ≤ j → j < n → pw m j ≠ one) → 3 * d + 3 ≤ k →
    torchonref06_Order.l0 k (i : Int) m.a m.b m.c m.d (pw m i).a (pw m i).b (pw m i).c (pw m i).d = some ((n : Int), 0) := by
  intro d
  induction d with
  | zero =>
    intro k i h hs hne hk
    obtain ⟨k, rfl⟩ : ∃ q, k = q + 3 := ⟨k - 3, by omega⟩
    obtain rfl : i = n := by omega
    rw [order_round m hm k i hn, if_pos (hs i (Nat.le_refl _) (Nat.le_refl _)), if_pos he]
  | succ d ih =>
    intro k i h hs hne hk
    obtain ⟨k, rfl⟩ : ∃ q, k = q + 3 := ⟨k - 3, by omega⟩
    rw [order_round m hm k i (by omega), if_pos (hs i (Nat.le_refl _) (by omega)), if_neg (hne i (Nat.le_refl _) (by omega))]
    exact ih k (i + 1) (by omega) (fun j h1 h2 => hs j (by omega) h2) (fun j h1 h2 => hne j (by omega) h2) (by omega)
theorem order_miss (m : Mat) (hm : Small m) (hne : ∀ n, pw m (n + 1) ≠ one) : ∀ (d k i : Nat), i + 1 + d = 13 → 3 * d + 3 ≤ k →
    torchonref06_Order.l0 k ((i + 1 : Nat) : Int) m.a m.b m.c m.d (pw m (i + 1)).a (pw m (i + 1)).b (pw m (i + 1)).c (pw m (i + 1)).d = some (0, 0) := by
  intro d
  induction d with
  | zero =>
    intro k i h hk
    obtain ⟨k, rfl⟩ : ∃ q, k = q + 3 := ⟨k - 3, by omega⟩
    simp only [torchonref06_Order.l0, torchonref06_Order.j1]
    rw [if_neg (by omega)]
    simp
  | succ d ih =>
    intro k i h hk
    obtain ⟨k, rfl⟩ : ∃ q, k = q + 3 := ⟨k - 3, by omega⟩
    rw [order_round m hm k (i + 1) (by omega), if_neg (hne i)]
    by_cases c : Six (pw m (i + 1))
    · rw [if_pos c]
      exact ih k (i + 1) (by omega) (by omega)
    · rw [if_neg c]
theorem pw_two (m : Mat) : pw m 2 = mul m m := by show mul m (mul m one) = _; rw [mul_one]
/-- The powers of a matrix that the reference meets. -/
theorem powers {m : Mat} (hm : Small m) (hd : det m = 1) : (tr m = -1 → Six (pw m 2) ∧ pw m 3 = one) ∧
    (tr m = 0 → Six (pw m 2) ∧ Six (pw m 3) ∧ pw m 4 = one ∧ (pw m 3 = one → mul m m = one)) ∧
    (tr m = 1 → Six (pw m 2) ∧ Six (pw m 3) ∧ Six (pw m 4) ∧ Six (pw m 5) ∧ pw m 6 = one ∧ pw m 3 ≠ one ∧ (pw m 4 = one → mul m m = one) ∧ pw m 5 ≠ one) := by
  have p2 := pw_uu m 1
  have p3 := pw_uu m 2
  have p4 := pw_uu m 3
  have p5 := pw_uu m 4
  have p6 := pw_uu m 5
  rw [← pw_two]
  simp only [Nat.reduceAdd, uu] at p2 p3 p4 p5 p6
  rw [hd] at p2 p3 p4 p5 p6
  unfold Small at hm
  have et : tr m = m.a + m.d := rfl
  have hdet : m.a * m.d - m.b * m.c = 1 := hd
  refine ⟨fun ht => ?_, fun ht => ?_, fun ht => ?_⟩ <;> rw [ht] at p2 p3 p4 p5 p6 <;> simp only [Int.reduceSub, Int.reduceNeg, Int.one_mul, Int.zero_mul, Int.neg_mul, Int.mul_one, Int.mul_zero, Int.sub_zero, Int.zero_sub, Int.neg_neg] at p2 p3 p4 p5 p6
  · rw [p2, p3]
    refine ⟨?_, rfl⟩
    unfold Six
    simp only
    omega
  · rw [p2, p3, p4]
    refine ⟨by decide, ?_, rfl, fun h => ?_⟩
    · unfold Six
      simp only
      omega
    · simp only [one, Mat.mk.injEq] at h
      omega
  · rw [p2, p3, p4, p5, p6]
    refine ⟨?_, by decide, ?_, ?_, rfl, by decide, fun h => ?_, fun h => ?_⟩
    · unfold Six; simp only; omega
    · unfold Six; simp only; omega
    · unfold Six; simp only; omega
    · simp only [one, Mat.mk.injEq] at h
      omega
    · simp only [one, Mat.mk.injEq] at h
      have hb : m.b = 0 := by omega
      have ha : m.a = 0 := by omega
      rw [hb, ha] at hdet
      simp at hdet
theorem small_six {m : Mat} (h : Small m) : Six m := by unfold Small at h; unfold Six; omega
theorem one_six : Six one := by decide
theorem refOrder_val (k : Nat) (m : Mat) (hk : 100 ≤ k) : torchonref06_Order.f k m.a m.b m.c m.d = some ((orderP m).1, (orderP m).2) := by
  unfold torchonref06_Order.f
  rw [refMatrix_val]
  simp only [Option.bind_some]
  by_cases hs : Small m
  · have eo : orderP m = (ordM m, 0) := if_pos hs
    rw [eo, decide_eq_true hs, if_pos rfl]
    have p1 := pw_one m
    have hit := fun n hn he => order_hit m hs n hn he (n - 1) k 1
    have miss := order_miss m hs
    rw [p1] at hit
    have base : ∀ {n : Nat}, n ≤ 12 → 1 ≤ n → pw m n = one → (∀ j, 1 ≤ j → j ≤ n → Six (pw m j)) → (∀ j, 1 ≤ j → j < n → pw m j ≠ one) → torchonref06_Order.l0 k 1 m.a m.b m.c m.d m.a m.b m.c m.d = some ((n : Int), 0) := by
      intro n hn h1 he h2 h3
      exact hit n hn he (by omega) h2 h3 (by omega)
    have p2 := pw_two m
    have s1 := small_six hs
    by_cases c1 : m = one
    · have e : ordM m = 1 := if_pos c1
      rw [e]
      refine base (n := 1) (by omega) (by omega) (by rw [p1, c1]) (fun j h1 h2 => ?_) (fun j h1 h2 => by omega)
      obtain rfl : j = 1 := by omega
      rw [p1]; exact s1
    by_cases c2 : mul m m = one
    · have e : ordM m = 2 := by unfold ordM; rw [if_neg c1, if_pos c2]
      rw [e]
      refine base (n := 2) (by omega) (by omega) (by rw [p2, c2]) (fun j h1 h2 => ?_) (fun j h1 h2 => ?_)
      · rcases (show j = 1 ∨ j = 2 by omega) with rfl | rfl
        · rw [p1]; exact s1
        · rw [p2, c2]; exact one_six
      · obtain rfl : j = 1 := by omega
        rw [p1]; exact c1
    have c2' : pw m 2 ≠ one := by rw [p2]; exact c2
    have c1' : pw m 1 ≠ one := by rw [p1]; exact c1
    have s1' : Six (pw m 1) := by rw [p1]; exact s1
    by_cases c3 : det m = 1 ∧ tr m = -1
    · have e : ordM m = 3 := by unfold ordM; rw [if_neg c1, if_neg c2, if_pos c3]
      obtain ⟨s2, e3⟩ := (powers hs c3.1).1 c3.2
      rw [e]
      refine base (n := 3) (by omega) (by omega) e3 (fun j h1 h2 => ?_) (fun j h1 h2 => ?_)
      · rcases (show j = 1 ∨ j = 2 ∨ j = 3 by omega) with rfl | rfl | rfl
        · exact s1'
        · exact s2
        · rw [e3]; exact one_six
      · rcases (show j = 1 ∨ j = 2 by omega) with rfl | rfl
        · exact c1'
        · exact c2'
    by_cases c4 : det m = 1 ∧ tr m = 0
    · have e : ordM m = 4 := by unfold ordM; rw [if_neg c1, if_neg c2, if_neg c3, if_pos c4]
      obtain ⟨s2, s3, e4, n3⟩ := (powers hs c4.1).2.1 c4.2
      rw [e]
      refine base (n := 4) (by omega) (by omega) e4 (fun j h1 h2 => ?_) (fun j h1 h2 => ?_)
      · rcases (show j = 1 ∨ j = 2 ∨ j = 3 ∨ j = 4 by omega) with rfl | rfl | rfl | rfl
        · exact s1'
        · exact s2
        · exact s3
        · rw [e4]; exact one_six
      · rcases (show j = 1 ∨ j = 2 ∨ j = 3 by omega) with rfl | rfl | rfl
        · exact c1'
        · exact c2'
        · exact fun h => c2 (n3 h)
    by_cases c6 : det m = 1 ∧ tr m = 1
    · have e : ordM m = 6 := by unfold ordM; rw [if_neg c1, if_neg c2, if_neg c3, if_neg c4, if_pos c6]
      obtain ⟨s2, s3, s4, s5, e6, n3, n4, n5⟩ := (powers hs c6.1).2.2 c6.2
      rw [e]
      refine base (n := 6) (by omega) (by omega) e6 (fun j h1 h2 => ?_) (fun j h1 h2 => ?_)
      · rcases (show j = 1 ∨ j = 2 ∨ j = 3 ∨ j = 4 ∨ j = 5 ∨ j = 6 by omega) with rfl | rfl | rfl | rfl | rfl | rfl
        · exact s1'
        · exact s2
        · exact s3
        · exact s4
        · exact s5
        · rw [e6]; exact one_six
      · rcases (show j = 1 ∨ j = 2 ∨ j = 3 ∨ j = 4 ∨ j = 5 by omega) with rfl | rfl | rfl | rfl | rfl
        · exact c1'
        · exact c2'
        · exact n3
        · exact fun h => c2 (n4 h)
        · exact n5
    have e : ordM m = 0 := by unfold ordM; rw [if_neg c1, if_neg c2, if_neg c3, if_neg c4, if_neg c6]
    have := miss (ord_none e) 12 k 0 (by omega) (by omega)
    rw [e]
    simp only [Nat.zero_add, p1] at this
    exact this
  · have eo : orderP m = (0, 2) := if_neg hs
    rw [eo, decide_eq_false hs]
    simp
end Go.Proofs.Ytmcajdepoohlhaa.Val
