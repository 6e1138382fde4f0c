/- How many matrices keep a reduced lattice: 2, 4, 8 or 12. Plain facts, no condition. -/
import Derived.Test.YtmcajdepoohlhaaCKeepLat2
namespace Go.Proofs.Ytmcajdepoohlhaa.Spec
/-- The matrix number i of the 81 whose numbers are -1, 0 or 1. -/
def mat81 (i : Int) : Mat := ⟨i % 3 - 1, i / 3 % 3 - 1, i / 9 % 3 - 1, i / 27 - 1⟩
def mats : List Mat := (List.range 81).map fun (i : Nat) => mat81 (i : Int)
def Unit3 (m : Mat) : Prop := (-1 ≤ m.a ∧ m.a ≤ 1) ∧ (-1 ≤ m.b ∧ m.b ≤ 1) ∧ (-1 ≤ m.c ∧ m.c ≤ 1) ∧ (-1 ≤ m.d ∧ m.d ≤ 1)
theorem mats_unit {m : Mat} (h : m ∈ mats) : Unit3 m := by
  obtain ⟨i, hi, rfl⟩ := List.mem_map.1 h
  have := List.mem_range.1 hi
  unfold Unit3 mat81
  simp only
  omega
theorem unit_mats {m : Mat} (h : Unit3 m) : m ∈ mats := by
  unfold Unit3 at h
  refine List.mem_map.2 ⟨(m.a + 1 + 3 * (m.b + 1) + 9 * (m.c + 1) + 27 * (m.d + 1)).toNat, List.mem_range.2 (by omega), ?_⟩
  cases m
  simp only at h
  simp only [mat81, Mat.mk.injEq]
  omega
def group (r : Lat) : List Mat := mats.filter fun g => decide (Keep r g)
theorem mem_group {r : Lat} (hr : Red r) {g : Mat} : g ∈ group r ↔ Keep r g := by
  unfold group
  rw [List.mem_filter, decide_eq_true_eq]
  exact ⟨fun h => h.2, fun h => ⟨unit_mats (keep_small hr h), h⟩⟩
theorem like {r e : Lat} (hr : Red r) (he : Red e) (h1 : r.B = 0 ↔ e.B = 0) (h2 : 2 * r.B = r.A ↔ 2 * e.B = e.A) (h3 : r.A = r.C ↔ e.A = e.C) {g : Mat} (hg : Unit3 g) : Keep r g ↔ Keep e g := by
  obtain ⟨b0, ba, ac, a1⟩ := hr
  obtain ⟨b0', ba', ac', a1'⟩ := he
  obtain ⟨a, b, c, d⟩ := g
  unfold Unit3 at hg
  simp only at hg
  have ha : a = -1 ∨ a = 0 ∨ a = 1 := by omega
  have hb : b = -1 ∨ b = 0 ∨ b = 1 := by omega
  have hc : c = -1 ∨ c = 0 ∨ c = 1 := by omega
  have hd : d = -1 ∨ d = 0 ∨ d = 1 := by omega
  clear hg
  obtain ⟨A, B, C⟩ := r
  obtain ⟨A', B', C'⟩ := e
  simp only at b0 ba ac a1 b0' ba' ac' a1' h1 h2 h3
  rcases ha with rfl | rfl | rfl <;> rcases hb with rfl | rfl | rfl <;> rcases hc with rfl | rfl | rfl <;> rcases hd with rfl | rfl | rfl <;>
    (simp only [Keep, lead, prod, Lat.mk.injEq]; omega)
theorem group_like {r e : Lat} (hr : Red r) (he : Red e) (h1 : r.B = 0 ↔ e.B = 0) (h2 : 2 * r.B = r.A ↔ 2 * e.B = e.A) (h3 : r.A = r.C ↔ e.A = e.C) : group r = group e := by
  unfold group
  refine List.filter_congr fun g hg => ?_
  rw [decide_eq_decide]
  exact like hr he h1 h2 h3 (mats_unit hg)
theorem group_count {r : Lat} (hr : Red r) : (group r).length = 2 ∨ (group r).length = 4 ∨ (group r).length = 8 ∨ (group r).length = 12 := by
  by_cases c1 : r.B = 0
  · by_cases c3 : r.A = r.C
    · rw [group_like hr (e := ⟨1, 0, 1⟩) ⟨by decide, by decide, by decide, by decide⟩ (by simp [c1]) (by have := hr.a1; simp only; omega) (by simp [c3])]
      decide +kernel
    · rw [group_like hr (e := ⟨1, 0, 2⟩) ⟨by decide, by decide, by decide, by decide⟩ (by simp [c1]) (by have := hr.a1; simp only; omega) (by simp [c3])]
      decide +kernel
  · by_cases c2 : 2 * r.B = r.A
    · by_cases c3 : r.A = r.C
      · rw [group_like hr (e := ⟨2, 1, 2⟩) ⟨by decide, by decide, by decide, by decide⟩ (by simp [c1]) (by simp [c2]) (by simp [c3])]
        decide +kernel
      · rw [group_like hr (e := ⟨2, 1, 3⟩) ⟨by decide, by decide, by decide, by decide⟩ (by simp [c1]) (by simp [c2]) (by simp [c3])]
        decide +kernel
    · by_cases c3 : r.A = r.C
      · rw [group_like hr (e := ⟨3, 1, 3⟩) ⟨by decide, by decide, by decide, by decide⟩ (by simp [c1]) (by simp [c2]) (by simp [c3])]
        decide +kernel
      · rw [group_like hr (e := ⟨3, 1, 4⟩) ⟨by decide, by decide, by decide, by decide⟩ (by simp [c1]) (by simp [c2]) (by simp [c3])]
        decide +kernel
theorem one_mem {r : Lat} (hr : Red r) : one ∈ group r := (mem_group hr).2 (lead_one r)
theorem mats_nodup : mats.Nodup := by decide +kernel
theorem group_nodup (r : Lat) : (group r).Nodup := mats_nodup.filter _
end Go.Proofs.Ytmcajdepoohlhaa.Spec
