/- What the reference's steps of a given length come to. Conditions: a valid lattice, a length from 1 to 10000, and enough rounds. -/
import Derived.Test.YtmcajdepoohlhaaCGrpVal2
import Derived.Test.YtmcajdepoohlhaaCGrpP5
namespace Go.Proofs.Ytmcajdepoohlhaa.Val
open Go.RowKit Go.Proofs.Ytmcajdepoohlhaa.G Go.Proofs.Ytmcajdepoohlhaa.Spec Go.Proofs.YtmcajdepoohlhaaW.PrintWords
theorem sq_lt {a b : Int} (ha : 0 ≤ a) (hb : 0 ≤ b) (h : a * a < b * b) : a < b := by
  rcases Int.lt_or_le a b with c | c
  · exact c
  · have := Int.mul_le_mul c c hb ha; omega
theorem sq_mono {a b : Int} (ha : 0 ≤ a) (h : a ≤ b) : a * a ≤ b * b := Int.mul_le_mul h h ha (by omega)
theorem root_loop (n s : Int) (hs : 0 ≤ s) (h1 : s * s ≤ n) (h2 : n < (s + 1) * (s + 1)) : ∀ (d k : Nat) (lo hi : Int), 0 ≤ lo → lo ≤ s → s < hi → hi ≤ 20000 → hi - lo ≤ 2 ^ d → d + 1 ≤ k → torchonref06_root.l0 k n lo hi = some s := by
  intro d
  induction d with
  | zero =>
    intro k lo hi a1 a2 a3 a4 a5 hk
    obtain ⟨k, rfl⟩ : ∃ m, k = m + 1 := ⟨k - 1, by omega⟩
    simp only [torchonref06_root.l0]
    rw [w64 (by omega) (by omega)]
    simp only [Option.bind_some]
    rw [if_neg (by omega)]
    congr 1
    omega
  | succ d ih =>
    intro k lo hi a1 a2 a3 a4 a5 hk
    obtain ⟨k, rfl⟩ : ∃ m, k = m + 1 := ⟨k - 1, by omega⟩
    simp only [torchonref06_root.l0]
    rw [w64 (n := hi - lo) (by omega) (by omega)]
    simp only [Option.bind_some]
    by_cases c : hi - lo > 1
    · rw [if_pos c, w64 (n := lo + hi) (by omega) (by omega)]
      rw [Int.tdiv_eq_ediv_of_nonneg (by omega), w64 (n := (lo + hi) / 2) (by omega) (by omega)]
      rw [Int.pow_succ] at a5
      generalize hm : (lo + hi) / 2 = m at *
      have b1 : lo < m := by omega
      have b2 : m < hi := by omega
      have p := mul_bd (x := m) (y := m) (A := 20000) (B := 20000) (by omega) (by omega)
      rw [w64 (n := m * m) (by omega) (by omega)]
      by_cases q : m * m ≤ n
      · rw [if_pos q]
        have : m < s + 1 := sq_lt (by omega) (by omega) (by omega)
        exact ih k m hi (by omega) (by omega) a3 a4 (by omega) (by omega)
      · rw [if_neg q]
        have : s < m := sq_lt hs (by omega) (by omega)
        exact ih k lo m a1 a2 this (by omega) (by omega) (by omega)
    · rw [if_neg c]
      congr 1
      omega
theorem root_val (k : Nat) (n s : Int) (hs : 0 ≤ s) (hs2 : s < 20000) (h1 : s * s ≤ n) (h2 : n < (s + 1) * (s + 1)) (hk : 20 ≤ k) : torchonref06_root.f k n = some s := by
  unfold torchonref06_root.f
  exact root_loop n s hs h1 h2 15 k 0 20000 (by omega) hs hs2 (by omega) (by decide) (by omega)
theorem has_root : ∀ n : Nat, ∃ s : Int, 0 ≤ s ∧ s * s ≤ (n : Int) ∧ (n : Int) < (s + 1) * (s + 1)
  | 0 => ⟨0, by simp⟩
  | n + 1 => by
    obtain ⟨s, h0, h1, h2⟩ := has_root n
    by_cases c : ((n + 1 : Nat) : Int) < (s + 1) * (s + 1)
    · exact ⟨s, h0, by omega, c⟩
    · refine ⟨s + 1, by omega, by omega, ?_⟩
      have e : (s + 1 + 1) * (s + 1 + 1) = (s + 1) * (s + 1) + 2 * (s + 1) + 1 := by grind
      omega
theorem root_unique {n s t : Int} (hs : 0 ≤ s) (h1 : s * s ≤ n) (h2 : n < (s + 1) * (s + 1)) (ht : 0 ≤ t) (e : t * t = n) : t = s := by
  have a : t < s + 1 := sq_lt ht (by omega) (by omega)
  rcases Int.lt_or_le t s with c | c
  · have := sq_mono (a := t + 1) (b := s) (by omega) (by omega)
    have e2 : (t + 1) * (t + 1) = t * t + 2 * t + 1 := by grind
    omega
  · omega
theorem disc_bd {l : Lat} (h : Valid l) : 1 ≤ disc l ∧ disc l ≤ 100000000 := by
  refine ⟨h.d1, ?_⟩
  have p1 := mul_bd (x := l.A) (y := l.C) (A := 10000) (B := 10000) (by have := h.a1; have := h.a2; omega) (by have := h.c1; have := h.c2; omega)
  have := sq_nonneg l.B
  unfold disc
  omega
theorem det_ref {l : Lat} (h : Valid l) : torchonref06_Det.f l.A l.B l.C = some (disc l) := by
  have p1 := mul_bd (x := l.A) (y := l.C) (A := 10000) (B := 10000) (by have := h.a1; have := h.a2; omega) (by have := h.c1; have := h.c2; omega)
  have p2 := mul_bd (x := l.B) (y := l.B) (A := 10000) (B := 10000) (by have := h.b1; have := h.b2; omega) (by have := h.b1; have := h.b2; omega)
  unfold torchonref06_Det.f
  simp (disch := omega) only [w64, Option.bind_some]
  rfl
/-- One step's length, told by a square. -/
theorem step_sq (l : Lat) (x y n : Int) (hA : 1 ≤ l.A) : prod l x y x y = n ↔ (l.A * x + l.B * y) * (l.A * x + l.B * y) = l.A * n - disc l * y * y := by
  have e : l.A * prod l x y x y = (l.A * x + l.B * y) * (l.A * x + l.B * y) + disc l * y * y := by unfold prod disc; grind
  constructor
  · intro h; rw [h] at e; omega
  · intro h
    have : l.A * (prod l x y x y - n) = 0 := by rw [Int.mul_sub]; omega
    rcases Int.mul_eq_zero.1 this with c | c <;> omega
theorem lin_iff {A x B s : Int} (hA : 1 ≤ A) : A * x + B = s ↔ (s - B) % A = 0 ∧ x = (s - B) / A := by
  constructor
  · intro h
    have e : s - B = A * x := by omega
    rw [e]
    exact ⟨Int.mul_emod_right A x, (Int.mul_ediv_cancel_left x (by omega)).symm⟩
  · rintro ⟨h1, h2⟩
    have := Int.mul_ediv_add_emod (s - B) A
    rw [h1, ← h2] at this
    omega
theorem tmod_zero {a b : Int} (_hb : 1 ≤ b) : Int.tmod a b = 0 ↔ a % b = 0 := by
  rw [← Int.dvd_iff_tmod_eq_zero, Int.dvd_iff_emod_eq_zero]
theorem tdiv_dvd {a b : Int} (h : a % b = 0) : Int.tdiv a b = a / b := Int.tdiv_eq_ediv_of_dvd (Int.dvd_of_emod_eq_zero h)
set_option maxHeartbeats 4000000 in
theorem steps_round {l : Lat} (hv : Valid l) {n : Int} (hn : 1 ≤ n ∧ n ≤ 10000) (k : Nat) (hk : 20 ≤ k) (acc : List S37) (y : Int) (hy : -10000 ≤ y ∧ y ≤ 10000) (hacc : acc.length ≤ 100000) :
    ∃ R : List S37, torchonref06_Steps.l0 (k + 1) n acc y l.A l.B l.C = torchonref06_Steps.l0 k n (acc ++ R) (y + 1) l.A l.B l.C ∧ R.Nodup ∧ R.length ≤ 2 ∧ ∀ p : S37, p ∈ R ↔ p.f1 = y ∧ prod l p.f0 p.f1 p.f0 p.f1 = n := by
  obtain ⟨hD1, hD2⟩ := disc_bd hv
  have a1 := hv.a1
  have a2 := hv.a2
  have b1 := hv.b1
  have b2 := hv.b2
  have q1 := mul_bd (x := l.A) (y := n) (A := 10000) (B := 10000) (by omega) (by omega)
  have q2 := mul_bd (x := disc l) (y := y) (A := 100000000) (B := 10000) (by omega) (by omega)
  have q3 := mul_bd (x := disc l * y) (y := y) (A := 1000000000000) (B := 10000) (by omega) (by omega)
  have q4 := mul_bd (x := l.B) (y := y) (A := 10000) (B := 10000) (by omega) (by omega)
  have hz0 : 0 ≤ disc l * y * y := by
    have := Int.mul_nonneg (show 0 ≤ disc l by omega) (sq_nonneg y)
    have e : disc l * y * y = disc l * (y * y) := by grind
    omega
  have hsq := fun x => step_sq l x y n a1
  simp only [torchonref06_Steps.l0]
  rw [if_pos (by omega), det_ref hv]
  simp only [Option.bind_some]
  rw [w64 (n := l.A * n) (by omega) (by omega), w64 (n := disc l * y) (by omega) (by omega), w64 (n := disc l * y * y) (by omega) (by omega), w64 (n := l.A * n - disc l * y * y) (by omega) (by omega), w64 (n := y + 1) (by omega) (by omega), w64 (n := l.B * y) (by omega) (by omega)]
  generalize hd : l.A * n - disc l * y * y = d at *
  have hd2 : d ≤ 100000000 := by omega
  by_cases c1 : d < 0
  · rw [if_pos c1]
    refine ⟨[], by simp, List.nodup_nil, by simp, fun p => ⟨fun h => by simp at h, fun ⟨h1, h2⟩ => ?_⟩⟩
    rw [h1] at h2
    have := (hsq p.f0).1 h2
    have := sq_nonneg (l.A * p.f0 + l.B * y)
    omega
  rw [if_neg c1]
  obtain ⟨s, hs0, hs1, hs2⟩ := has_root d.toNat
  rw [Int.toNat_of_nonneg (by omega)] at hs1 hs2
  have hs3 : s < 10001 := sq_lt hs0 (by omega) (by omega)
  rw [root_val k d s hs0 (by omega) hs1 hs2 hk]
  simp only [Option.bind_some]
  have q5 := mul_bd (x := s) (y := s) (A := 10001) (B := 10001) (by omega) (by omega)
  rw [w64 (n := s * s) (by omega) (by omega), w64 (n := s - l.B * y) (by omega) (by omega), w64 (n := s + l.B * y) (by omega) (by omega), w64 (n := -(s + l.B * y)) (by omega) (by omega)]
  by_cases c2 : s * s = d
  · rw [if_pos c2]
    rw [if_neg (by omega)]
    have hsol : ∀ x, prod l x y x y = n ↔ l.A * x + l.B * y = s ∨ l.A * x + l.B * y = -s := by
      intro x
      rw [hsq x, ← c2]
      constructor
      · intro h
        have : (l.A * x + l.B * y - s) * (l.A * x + l.B * y + s) = 0 := by grind
        rcases Int.mul_eq_zero.1 this with g | g
        · left; omega
        · right; omega
      · rintro (h | h) <;> rw [h] <;> grind
    have hlin := fun x s => lin_iff (A := l.A) (x := x) (B := l.B * y) (s := s) a1
    have em : ∀ u : Int, Int.tmod u l.A = 0 ↔ u % l.A = 0 := fun u => tmod_zero a1
    have hb1 := ediv_bd (a := s - l.B * y) (b := l.A) (N := 200000000) a1 (by omega)
    have hb2 := ediv_bd (a := -(s + l.B * y)) (b := l.A) (N := 200000000) a1 (by omega)
    have en : -s - l.B * y = -(s + l.B * y) := by omega
    have hneg : (s + l.B * y) % l.A = 0 ↔ -(s + l.B * y) % l.A = 0 := by
      rw [← Int.dvd_iff_emod_eq_zero, ← Int.dvd_iff_emod_eq_zero, Int.dvd_neg]
    have two : 0 < s → (s - l.B * y) % l.A = 0 → -(s + l.B * y) % l.A = 0 → (s - l.B * y) / l.A ≠ -(s + l.B * y) / l.A := by
      intro h0 h1 h2 h3
      have g1 := (hlin _ s).2 ⟨h1, rfl⟩
      have g2 := (hlin _ (-s)).2 (by rw [en]; exact ⟨h2, rfl⟩)
      rw [← h3] at g2
      omega
    by_cases m1 : (s - l.B * y) % l.A = 0
    · rw [if_pos ((em _).2 m1), tdiv_dvd m1]
      simp (disch := omega) only [w64]
      rw [if_pos (by omega)]
      by_cases s0 : s > 0
      · rw [if_pos s0]
        by_cases m2 : -(s + l.B * y) % l.A = 0
        · rw [if_pos ((em _).2 (hneg.2 m2)), tdiv_dvd m2]
          simp (disch := omega) only [w64]
          rw [if_pos (by simp; omega)]
          refine ⟨[⟨(s - l.B * y) / l.A, y⟩, ⟨-(s + l.B * y) / l.A, y⟩], by simp, ?_, by simp, fun p => ?_⟩
          · simp only [List.nodup_cons, List.mem_singleton, List.not_mem_nil, not_false_eq_true, List.nodup_nil, and_true, S37.mk.injEq]
            exact fun h => absurd h (two s0 m1 m2)
          · obtain ⟨px, py⟩ := p
            simp only [List.mem_cons, List.not_mem_nil, or_false, S37.mk.injEq]
            constructor
            · rintro (⟨h1, rfl⟩ | ⟨h1, rfl⟩)
              · exact ⟨rfl, (hsol px).2 (Or.inl ((hlin px s).2 ⟨m1, h1⟩))⟩
              · exact ⟨rfl, (hsol px).2 (Or.inr ((hlin px (-s)).2 (by rw [en]; exact ⟨m2, h1⟩)))⟩
            · rintro ⟨rfl, h⟩
              rcases (hsol px).1 h with g | g
              · exact Or.inl ⟨((hlin px s).1 g).2, rfl⟩
              · have := ((hlin px (-s)).1 g).2
                rw [en] at this
                exact Or.inr ⟨this, rfl⟩
        · rw [if_neg (fun h => m2 (hneg.1 ((em _).1 h)))]
          refine ⟨[⟨(s - l.B * y) / l.A, y⟩], rfl, by simp, by simp, fun p => ?_⟩
          obtain ⟨px, py⟩ := p
          simp only [List.mem_singleton, S37.mk.injEq]
          constructor
          · rintro ⟨h1, rfl⟩
            exact ⟨rfl, (hsol px).2 (Or.inl ((hlin px s).2 ⟨m1, h1⟩))⟩
          · rintro ⟨rfl, h⟩
            rcases (hsol px).1 h with g | g
            · exact ⟨((hlin px s).1 g).2, rfl⟩
            · have := ((hlin px (-s)).1 g).1
              rw [en] at this
              exact absurd this m2
      · rw [if_neg s0]
        obtain rfl : s = 0 := by omega
        refine ⟨[⟨(0 - l.B * y) / l.A, y⟩], rfl, by simp, by simp, fun p => ?_⟩
        obtain ⟨px, py⟩ := p
        simp only [List.mem_singleton, S37.mk.injEq]
        constructor
        · rintro ⟨h1, rfl⟩
          exact ⟨rfl, (hsol px).2 (Or.inl ((hlin px 0).2 ⟨m1, h1⟩))⟩
        · rintro ⟨rfl, h⟩
          rcases (hsol px).1 h with g | g
          · exact ⟨((hlin px 0).1 g).2, rfl⟩
          · exact ⟨((hlin px 0).1 (by omega)).2, rfl⟩
    · rw [if_neg (fun h => m1 ((em _).1 h))]
      by_cases s0 : s > 0
      · rw [if_pos s0]
        by_cases m2 : -(s + l.B * y) % l.A = 0
        · rw [if_pos ((em _).2 (hneg.2 m2)), tdiv_dvd m2]
          simp (disch := omega) only [w64]
          rw [if_pos (by omega)]
          refine ⟨[⟨-(s + l.B * y) / l.A, y⟩], rfl, by simp, by simp, fun p => ?_⟩
          obtain ⟨px, py⟩ := p
          simp only [List.mem_singleton, S37.mk.injEq]
          constructor
          · rintro ⟨h1, rfl⟩
            exact ⟨rfl, (hsol px).2 (Or.inr ((hlin px (-s)).2 (by rw [en]; exact ⟨m2, h1⟩)))⟩
          · rintro ⟨rfl, h⟩
            rcases (hsol px).1 h with g | g
            · exact absurd ((hlin px s).1 g).1 m1
            · have := ((hlin px (-s)).1 g).2
              rw [en] at this
              exact ⟨this, rfl⟩
        · rw [if_neg (fun h => m2 (hneg.1 ((em _).1 h)))]
          refine ⟨[], by simp, List.nodup_nil, by simp, fun p => ⟨fun h => by simp at h, fun ⟨h1, h2⟩ => ?_⟩⟩
          rw [h1] at h2
          rcases (hsol p.f0).1 h2 with g | g
          · exact absurd ((hlin _ s).1 g).1 m1
          · have := ((hlin _ (-s)).1 g).1
            rw [en] at this
            exact absurd this m2
      · rw [if_neg s0]
        obtain rfl : s = 0 := by omega
        refine ⟨[], by simp, List.nodup_nil, by simp, fun p => ⟨fun h => by simp at h, fun ⟨h1, h2⟩ => ?_⟩⟩
        rw [h1] at h2
        rcases (hsol p.f0).1 h2 with g | g
        · exact absurd ((hlin _ 0).1 g).1 m1
        · exact absurd ((hlin p.f0 0).1 (by omega)).1 m1
  · rw [if_neg c2]
    refine ⟨[], by simp, List.nodup_nil, by simp, fun p => ⟨fun h => by simp at h, fun ⟨h1, h2⟩ => ?_⟩⟩
    rw [h1] at h2
    have h3 := (hsq p.f0).1 h2
    obtain ⟨t, ht, et⟩ := abs_cases (l.A * p.f0 + l.B * y)
    have h4 : t * t = d := by rcases et with e | e <;> rw [e] at h3 <;> grind
    have := root_unique hs0 hs1 hs2 ht h4
    subst this
    exact absurd h4 c2
theorem steps_loop {l : Lat} (hv : Valid l) {n : Int} (hn : 1 ≤ n ∧ n ≤ 10000) : ∀ (d k : Nat) (y : Int) (acc : List S37), y + d = 10001 → -10000 ≤ y → acc.length + 2 * d ≤ 90000 → d + 21 ≤ k →
    ∃ L : List S37, torchonref06_Steps.l0 k n acc y l.A l.B l.C = some (acc ++ L) ∧ L.Nodup ∧ L.length ≤ 2 * d ∧ ∀ p : S37, p ∈ L ↔ (y ≤ p.f1 ∧ p.f1 ≤ 10000) ∧ prod l p.f0 p.f1 p.f0 p.f1 = n := by
  intro d
  induction d with
  | zero =>
    intro k y acc h1 h2 h3 hk
    obtain ⟨k, rfl⟩ : ∃ m, k = m + 1 := ⟨k - 1, by omega⟩
    refine ⟨[], ?_, List.nodup_nil, by simp, fun p => ⟨fun h => by simp at h, fun h => by omega⟩⟩
    simp only [torchonref06_Steps.l0]
    rw [if_neg (by omega)]
    simp
  | succ d ih =>
    intro k y acc h1 h2 h3 hk
    obtain ⟨k, rfl⟩ : ∃ m, k = m + 1 := ⟨k - 1, by omega⟩
    obtain ⟨R, e1, r1, r2, r3⟩ := steps_round hv hn k (by omega) acc y (by omega) (by omega)
    obtain ⟨L, e2, s1, s2, s3⟩ := ih k (y + 1) (acc ++ R) (by omega) (by omega) (by rw [List.length_append]; omega) (by omega)
    refine ⟨R ++ L, by rw [e1, e2, List.append_assoc], ?_, by rw [List.length_append]; omega, fun p => ?_⟩
    · refine List.nodup_append.2 ⟨r1, s1, fun a ha b hb e => ?_⟩
      subst e
      have := (r3 a).1 ha
      have := (s3 a).1 hb
      omega
    · rw [List.mem_append, r3, s3]
      constructor
      · rintro (⟨h, g⟩ | ⟨h, g⟩)
        · exact ⟨by omega, g⟩
        · exact ⟨by omega, g⟩
      · rintro ⟨h, g⟩
        by_cases c : p.f1 = y
        · exact Or.inl ⟨c, g⟩
        · exact Or.inr ⟨by omega, g⟩
theorem up_to {α : Type} {f : Nat → Option α} {r : α} (hm : ∀ k, LeO (f k) (f (k + 1))) {k0 : Nat} (h : f k0 = some r) : ∀ k, k0 ≤ k → f k = some r := by
  intro k hk
  obtain ⟨d, rfl⟩ : ∃ d, k = k0 + d := ⟨k - k0, by omega⟩
  clear hk
  induction d with
  | zero => exact h
  | succ d ih => exact hm _ _ ih
/-- What Steps answers: each step of that length once. -/
theorem Steps_val {l : Lat} (hv : Valid l) {n : Int} (hn : 1 ≤ n ∧ n ≤ 10000) : ∃ L : List S37, (∀ k, 21000 ≤ k → torchonref06_Steps.f k l.A l.B l.C n = some L) ∧ L.Nodup ∧ L.length ≤ 50000 ∧ ∀ p : S37, p ∈ L ↔ prod l p.f0 p.f1 p.f0 p.f1 = n := by
  obtain ⟨L, e, h1, h2, h3⟩ := steps_loop hv hn 20001 20999 (-10000) [] (by omega) (by omega) (by simp) (by omega)
  refine ⟨L, fun k hk => up_to (f := fun k => torchonref06_Steps.f k l.A l.B l.C n) (fun k => torchonref06_Steps.mono _ _ _ _ k) (k0 := 20999) ?_ k (by omega), h1, by omega, fun p => ?_⟩
  · unfold torchonref06_Steps.f
    rw [e]
    rfl
  · rw [h3]
    constructor
    · exact fun h => h.2
    · intro h
      have := step_bd hv (x := p.f0) (y := p.f1) (by omega)
      exact ⟨this.2, h⟩
end Go.Proofs.Ytmcajdepoohlhaa.Val
