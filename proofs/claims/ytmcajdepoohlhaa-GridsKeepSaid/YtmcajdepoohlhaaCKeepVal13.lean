/- What the group of a lattice comes to: the matrices that keep it, in order. Conditions: enough rounds; a valid lattice where one is asked. -/
import Derived.Test.YtmcajdepoohlhaaCKeepVal4
import Derived.Test.YtmcajdepoohlhaaCKeepP2
namespace Go.Proofs.Ytmcajdepoohlhaa.Val
open Go.RowKit Go.Proofs.Ytmcajdepoohlhaa.G Go.Proofs.Ytmcajdepoohlhaa.Spec
/-- A matrix of the reduced lattice, told in the lattice itself. -/
def conj (m g : Mat) : Mat := mul (mul m g) (inv m)
theorem group_fill (m : Mat) (hm : Bd 10000 m) (hd : det m * det m = 1) (n : Nat) (hn : n ≤ 12) : ∀ (rest : List Mat) (don : List S25) (k : Nat), don.length + rest.length = n → (∀ g ∈ rest, Bd 1 g) → rest.length + 400 ≤ k →
    grids_Group.l0 k (don ++ rest.map ofM) (n : Int) (don.length : Int) m.a m.b m.c m.d = some (srt (don ++ rest.map fun g => ofM (conj m g)), 0) := by
  intro rest
  induction rest with
  | nil =>
    intro don k h hb hk
    obtain ⟨k, rfl⟩ : ∃ q, k = q + 1 := ⟨k - 1, by omega⟩
    simp only [List.length_nil] at h hk
    simp only [grids_Group.l0]
    rw [if_neg (by omega)]
    simp only [List.map_nil, List.append_nil]
    rw [sort_val k don (by omega) (by omega)]
    rfl
  | cons g rest ih =>
    intro don k h hb hk
    obtain ⟨k, rfl⟩ : ∃ q, k = q + 1 := ⟨k - 1, by omega⟩
    simp only [List.length_cons] at h hk
    have hg := hb g List.mem_cons_self
    have gl : (don ++ (g :: rest).map ofM)[don.length]? = some (ofM g) := by rw [List.getElem?_append_right (by omega)]; simp
    have tv := times_val m g (hm.mono (by omega)) (hg.mono (by omega))
    have iv := inverse_val m hm
    have tw := times_val (mul m g) (inv m) ((mul_bd1 hm hg).mono (by omega)) ((inv_bd hm hd).mono (by omega))
    simp only [grids_Group.l0]
    rw [if_pos (by omega), if_pos (by omega), if_pos (by simp; omega), rd_at gl rfl]
    simp only [ofM] at tv ⊢
    rw [tv]
    simp only [Option.bind_some]
    rw [iv]
    simp only [Option.bind_some]
    rw [tw]
    simp only [Option.bind_some]
    rw [w64 (by omega) (by omega)]
    have es : (don ++ (g :: rest).map ofM).set (don.length : Int).toNat (ofM (conj m g)) = (don ++ [ofM (conj m g)]) ++ rest.map ofM := by
      rw [Int.toNat_natCast, List.set_append_right _ _ (by omega)]
      simp
    have := ih (don ++ [ofM (conj m g)]) k (by simp; omega) (fun x hx => hb x (List.mem_cons_of_mem _ hx)) (by omega)
    have e3 : ((don ++ [ofM (conj m g)]).length : Int) = (don.length : Int) + 1 := by simp
    rw [e3, ← es] at this
    simp only [ofM, conj] at this ⊢
    rw [this]
    simp
theorem conj_keep {l r : Lat} {m g : Mat} (h : Round l r m) (hg : Keep r g) : Keep l (conj m g) := by
  unfold Keep conj at *
  rw [← lead_mul, ← lead_mul, h.ld, hg, ← h.ld, lead_inv h.dd]
theorem keep_conj {l r : Lat} {m n : Mat} (h : Round l r m) (hn : Keep l n) : Keep r (mul (mul (inv m) n) m) ∧ conj m (mul (mul (inv m) n) m) = n := by
  have e : lead r (inv m) = l := by rw [← h.ld, lead_inv h.dd]
  constructor
  · unfold Keep at *
    rw [← lead_mul, ← lead_mul, e, hn, h.ld]
  · unfold conj
    rw [← mul_assoc, ← mul_assoc, mul_inv h.dd, one_mul, mul_assoc, mul_inv h.dd, mul_one]
theorem conj_inj {m g g' : Mat} (hd : det m * det m = 1) (h : conj m g = conj m g') : g = g' := by
  have e : ∀ x, mul (inv m) (mul (conj m x) m) = x := by
    intro x
    unfold conj
    rw [mul_assoc (mul m x), inv_mul hd, mul_one, ← mul_assoc, inv_mul hd, one_mul]
  rw [← e g, h, e g']
theorem Group_val {l : Lat} (hv : Valid l) : ∃ L : List S25, (∀ k, 21000 ≤ k → grids_Group.f k l.A l.B l.C = some (L, 0)) ∧ L.Pairwise Lt ∧ (∀ s, s ∈ L ↔ Keep l (toM s)) ∧ (L.length = 2 ∨ L.length = 4 ∨ L.length = 8 ∨ L.length = 12) := by
  obtain ⟨r, m, hf, hR, hr⟩ := reduce_val hv
  have hm := small_bd (hR.small hv)
  have hlen := group_len hr
  refine ⟨srt ((group r).map fun g => ofM (conj m g)), fun k hk => ?_, srt_up ?_, fun s => ?_, ?_⟩
  · unfold grids_Group.f
    rw [gcheck_val k l (by omega), if_pos hv]
    simp only [Option.bind_some, if_true]
    rw [hf k (by omega)]
    simp only [Option.bind_some]
    rw [group_val k r (round_lb hR) (by omega)]
    simp only [Option.bind_some]
    have e := group_fill m hm hR.dd (group r).length hlen (group r) [] k (by simp) (fun g hg => by
      have := mats_unit (List.mem_filter.1 hg).1
      exact unit_bd this) (by omega)
    have e1 : (((group r).map ofM).length : Int) = ((group r).length : Int) := by simp
    rw [e1]
    simpa using e
  · unfold List.Nodup
    rw [List.pairwise_map]
    refine (group_nodup r).imp fun {a b} hab e => hab ?_
    have := congrArg toM e
    rw [to_of, to_of] at this
    exact conj_inj hR.dd this
  · rw [(srt_perm _).mem_iff, List.mem_map]
    constructor
    · rintro ⟨g, hg, rfl⟩
      rw [to_of]
      exact conj_keep hR ((mem_group hr).1 hg)
    · intro h
      obtain ⟨h1, h2⟩ := keep_conj hR h
      exact ⟨_, (mem_group hr).2 h1, by rw [h2, of_to]⟩
  · rw [(srt_perm _).length_eq, List.length_map]
    exact group_count hr
theorem Group_err (k : Nat) (l : Lat) (hv : ¬ Valid l) (hk : 1 ≤ k) : grids_Group.f k l.A l.B l.C = some ([], 2) := by
  unfold grids_Group.f
  rw [gcheck_val k l hk, if_neg hv]
  simp
end Go.Proofs.Ytmcajdepoohlhaa.Val
