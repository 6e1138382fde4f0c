/- What the printed functions of the layer 'grids' come to: the least matrix, the group of a lattice, its reduction, inverses. Conditions: the bounds that each states, and enough rounds. -/
import Derived.Test.YtmcajdepoohlhaaCKeepVal3
namespace Go.Proofs.Ytmcajdepoohlhaa.Val
open Go.RowKit Go.Proofs.Ytmcajdepoohlhaa.G Go.Proofs.Ytmcajdepoohlhaa.Spec Go.Proofs.YtmcajdepoohlhaaW.PrintWords
/-- The least of two, and of a list. -/
def leS (s t : S25) : S25 := if Lt t s then t else s
theorem min_loop (l : List S25) (hl : l.length ≤ 1000) : ∀ (d k : Nat) (i : Nat) (m : S25), i + d = l.length → d + 12 ≤ k →
    api_GrMatrix_41.l0 k l (i : Int) m.f0 m.f1 m.f2 m.f3 = some (((l.drop i).foldl leS m).f0, ((l.drop i).foldl leS m).f1, ((l.drop i).foldl leS m).f2, ((l.drop i).foldl leS m).f3) := by
  intro d
  induction d with
  | zero =>
    intro k i m h hk
    obtain ⟨k, rfl⟩ : ∃ q, k = q + 1 := ⟨k - 1, by omega⟩
    simp only [api_GrMatrix_41.l0]
    rw [if_neg (by omega), List.drop_eq_nil_of_le (by omega)]
    rfl
  | succ d ih =>
    intro k i m h hk
    obtain ⟨k, rfl⟩ : ∃ q, k = q + 1 := ⟨k - 1, by omega⟩
    simp only [api_GrMatrix_41.l0]
    have hi : i < l.length := by omega
    rw [if_pos (by omega), if_pos (by omega), rd_at (List.getElem?_eq_getElem hi) rfl, order_val _ _ _ (by omega), List.drop_eq_getElem_cons hi, List.foldl_cons]
    simp only [Option.bind_some]
    rw [w64 (by omega) (by omega), show (i : Int) + 1 = ((i + 1 : Nat) : Int) by omega]
    by_cases c : Lt l[i] m
    · rw [if_pos (ordS_lt.2 c), ih k (i + 1) l[i] (by omega) (by omega), leS, if_pos c]
    · rw [if_neg (fun h => c (ordS_lt.1 h)), ih k (i + 1) m (by omega) (by omega), leS, if_neg c]
theorem fold_least : ∀ (l : List S25) (m : S25), (l.foldl leS m ∈ m :: l) ∧ ∀ x ∈ m :: l, ¬ Lt x (l.foldl leS m)
  | [], m => ⟨by simp, by simp [lt_irr]⟩
  | a :: l, m => by
    rw [List.foldl_cons]
    obtain ⟨h1, h2⟩ := fold_least l (leS m a)
    unfold leS at *
    by_cases c : Lt a m
    · rw [if_pos c] at h1 h2 ⊢
      refine ⟨List.mem_cons_of_mem _ h1, fun x hx => ?_⟩
      rcases List.mem_cons.1 hx with rfl | hx
      · intro hlt
        exact h2 a List.mem_cons_self (lt_trans c hlt)
      · exact h2 x hx
    · rw [if_neg c] at h1 h2 ⊢
      refine ⟨?_, fun x hx => ?_⟩
      · rcases List.mem_cons.1 h1 with e | h1
        · rw [e]; exact List.mem_cons_self
        · exact List.mem_cons_of_mem _ (List.mem_cons_of_mem _ h1)
      · rcases List.mem_cons.1 hx with rfl | hx
        · exact h2 x List.mem_cons_self
        · rcases List.mem_cons.1 hx with rfl | hx
          · intro hlt
            by_cases e : x = m
            · subst e; exact h2 x List.mem_cons_self hlt
            · exact h2 m List.mem_cons_self (lt_trans (lt_total e c) hlt)
          · exact h2 x (List.mem_cons_of_mem _ hx)
theorem min_val (k : Nat) (l : List S25) (h0 : l ≠ []) (hl : l.length ≤ 1000) (hk : l.length + 20 ≤ k) :
    ∃ m, api_GrMatrix_41.f k l = some (m.f0, m.f1, m.f2, m.f3) ∧ m ∈ l ∧ ∀ x ∈ l, ¬ Lt x m := by
  cases l with
  | nil => exact absurd rfl h0
  | cons a l =>
    have hr : rd_T25 (a :: l) 0 = a := rd_at (i := 0) rfl rfl
    refine ⟨l.foldl leS a, ?_, (fold_least l a).1, (fold_least l a).2⟩
    unfold api_GrMatrix_41.f
    rw [if_neg (by simp only [List.length_cons]; omega), if_pos (by simp only [List.length_cons]; omega), hr]
    simp only [List.length_cons] at hl hk
    have := min_loop (a :: l) (by simp only [List.length_cons]; omega) l.length k 1 a (by simp only [List.length_cons]; omega) (by omega)
    simpa using this
theorem bool_lat {a b : Lat} : (a.A == b.A && (a.B == b.B && (a.C == b.C))) = decide (a = b) := by
  cases a; cases b
  simp only [Lat.mk.injEq, Bool.decide_and]
  rfl
theorem mats_split (i : Nat) (h : i < 81) : mats.drop i = mat81 (i : Int) :: mats.drop (i + 1) := by
  have hl : i < mats.length := by simp [mats]; omega
  rw [List.drop_eq_getElem_cons hl]
  congr 1
  simp [mats]
theorem group_loop (l : Lat) (hl : LB l) : ∀ (d k : Nat) (i : Nat) (acc : List S25), i + d = 81 → acc.length ≤ i → d + 1 ≤ k →
    grids_group.l0 k acc (i : Int) l.A l.B l.C = some (acc ++ ((mats.drop i).filter fun g => decide (Keep l g)).map ofM) := by
  intro d
  induction d with
  | zero =>
    intro k i acc h ha hk
    obtain ⟨k, rfl⟩ : ∃ q, k = q + 1 := ⟨k - 1, by omega⟩
    simp only [grids_group.l0]
    rw [if_neg (by omega), List.drop_eq_nil_of_le (by simp [mats]; omega)]
    simp
  | succ d ih =>
    intro k i acc h ha hk
    obtain ⟨k, rfl⟩ : ∃ q, k = q + 1 := ⟨k - 1, by omega⟩
    simp only [grids_group.l0]
    rw [if_pos (by omega)]
    have e1 : Int.tmod (i : Int) 3 = (i : Int) % 3 := Int.tmod_eq_emod_of_nonneg (by omega)
    have e2 : Int.tdiv (i : Int) 3 = (i : Int) / 3 := Int.tdiv_eq_ediv_of_nonneg (by omega)
    have e3 : Int.tdiv (i : Int) 9 = (i : Int) / 9 := Int.tdiv_eq_ediv_of_nonneg (by omega)
    have e4 : Int.tdiv (i : Int) 27 = (i : Int) / 27 := Int.tdiv_eq_ediv_of_nonneg (by omega)
    simp only [e1, e2, e3, e4]
    simp (disch := omega) only [w64, Option.bind_some]
    have e5 : Int.tmod ((i : Int) / 3) 3 = (i : Int) / 3 % 3 := Int.tmod_eq_emod_of_nonneg (by omega)
    have e6 : Int.tmod ((i : Int) / 9) 3 = (i : Int) / 9 % 3 := Int.tmod_eq_emod_of_nonneg (by omega)
    simp only [e5, e6]
    simp (disch := omega) only [w64]
    have hu : Unit3 (mat81 (i : Int)) := mats_unit (by rw [← List.take_append_drop i mats, mats_split i (by omega)]; simp)
    have ea : (i : Int) % 3 - 1 = (mat81 (i : Int)).a := rfl
    have eb : (i : Int) / 3 % 3 - 1 = (mat81 (i : Int)).b := rfl
    have ec : (i : Int) / 9 % 3 - 1 = (mat81 (i : Int)).c := rfl
    have ed : (i : Int) / 27 - 1 = (mat81 (i : Int)).d := rfl
    rw [ea, eb, ec, ed, mats_split i (by omega)]
    generalize mat81 (i : Int) = m at *
    rw [glead_val l m hl (by unfold Unit3 at hu; unfold Bd; omega), List.filter_cons]
    simp only [Option.bind_some]
    rw [show (i : Int) + 1 = ((i + 1 : Nat) : Int) by omega, bool_lat]
    by_cases c : Keep l m
    · have hc : decide (Keep l m) = true := decide_eq_true c
      have hc2 : decide (lead l m = l) = true := decide_eq_true c
      simp only [hc, hc2, if_true]
      rw [if_pos (by omega), ih k (i + 1) _ (by omega) (by simp; omega) (by omega)]
      simp [ofM]
    · have hc : decide (Keep l m) = false := decide_eq_false c
      have hc2 : decide (lead l m = l) = false := decide_eq_false c
      simp only [hc, hc2, Bool.false_eq_true, if_false]
      rw [ih k (i + 1) _ (by omega) (by omega) (by omega)]
theorem group_val (k : Nat) (l : Lat) (hl : LB l) (hk : 100 ≤ k) : grids_group.f k l.A l.B l.C = some ((group l).map ofM) := by
  unfold grids_group.f
  have := group_loop l hl 81 k 0 [] (by omega) (by simp) (by omega)
  simpa [group] using this
theorem det_bd {m : Mat} (hm : Bd 10000 m) : -200000000 ≤ det m ∧ det m ≤ 200000000 := by
  obtain ⟨ha, hb, hc, hd⟩ := hm
  have p1 := mul_bd ha hd
  have p2 := mul_bd hb hc
  unfold det
  omega
theorem det_val (m : Mat) (hm : Bd 10000 m) : grids_det.f m.a m.b m.c m.d = some (det m) := by
  obtain ⟨ha, hb, hc, hd⟩ := hm
  have p1 := mul_bd ha hd
  have p2 := mul_bd hb hc
  unfold grids_det.f
  simp (disch := omega) only [w64, Option.bind_some]
  rfl
theorem inverse_val (m : Mat) (hm : Bd 10000 m) : grids_inverse.f m.a m.b m.c m.d = some ((inv m).a, (inv m).b, (inv m).c, (inv m).d) := by
  have hd0 := det_bd hm
  have hv := det_val m hm
  obtain ⟨ha, hb, hc, hd⟩ := hm
  have p1 := mul_bd hd0 hd
  have p2 := mul_bd (x := -det m) (y := m.b) (A := 200000000) (by omega) hb
  have p3 := mul_bd (x := -det m) (y := m.c) (A := 200000000) (by omega) hc
  have p4 := mul_bd hd0 ha
  unfold grids_inverse.f
  rw [hv]
  simp (disch := omega) only [w64, Option.bind_some]
  rfl
theorem neg_one_mul' (x : Int) : -1 * x = -x := by omega
theorem inv_bd {m : Mat} {B : Int} (hm : Bd B m) (hd : det m * det m = 1) : Bd B (inv m) := by
  obtain ⟨ha, hb, hc, hd'⟩ := hm
  unfold Bd inv
  simp only
  rcases det_pm hd with e | e <;> rw [e] <;> simp only [Int.one_mul, neg_one_mul', Int.neg_neg] <;> omega
theorem unit_bd {m : Mat} (h : Unit3 m) : Bd 1 m := h
theorem mul_bd1 {m g : Mat} (hm : Bd 10000 m) (hg : Bd 1 g) : Bd 20000 (mul m g) := by
  obtain ⟨ha, hb, hc, hd⟩ := hm
  obtain ⟨ga, gb, gc, gd⟩ := hg
  have p1 := mul_bd ha ga
  have p2 := mul_bd hb gc
  have p3 := mul_bd ha gb
  have p4 := mul_bd hb gd
  have p5 := mul_bd hc ga
  have p6 := mul_bd hd gc
  have p7 := mul_bd hc gb
  have p8 := mul_bd hd gd
  unfold Bd mul
  simp only
  omega
theorem reduce_fill (l : Lat) (m : Mat) (hm : Bd 10000 m) (n : Nat) (hn : n ≤ 12) : ∀ (rest : List Mat) (don : List S25) (k : Nat), don.length + rest.length = n → (∀ g ∈ rest, Bd 1 g) → rest.length + 100 ≤ k →
    ∃ k', 99 ≤ k' ∧ grids_Reduce.l0 k (don ++ rest.map ofM) (n : Int) (don.length : Int) l.A l.B l.C m.a m.b m.c m.d = (api_GrMatrix_41.f k' (don ++ rest.map fun g => ofM (mul m g))).bind fun bt => some (l.A, l.B, l.C, bt.1, bt.2.1, bt.2.2.1, bt.2.2.2, 0) := by
  intro rest
  induction rest with
  | nil =>
    intro don k h hb hk
    obtain ⟨k, rfl⟩ : ∃ q, k = q + 1 := ⟨k - 1, by omega⟩
    simp only [List.length_nil] at h hk
    refine ⟨k, by omega, ?_⟩
    simp only [grids_Reduce.l0]
    rw [if_neg (by omega)]
    simp
  | cons g rest ih =>
    intro don k h hb hk
    obtain ⟨k, rfl⟩ : ∃ q, k = q + 1 := ⟨k - 1, by omega⟩
    simp only [List.length_cons] at h hk
    have hg := hb g List.mem_cons_self
    have gl : (don ++ (g :: rest).map ofM)[don.length]? = some (ofM g) := by rw [List.getElem?_append_right (by omega)]; simp
    have tv := times_val m g (hm.mono (by omega)) (hg.mono (by omega))
    simp only [grids_Reduce.l0]
    rw [if_pos (by omega), if_pos (by omega), if_pos (by simp; omega), rd_at gl rfl]
    simp only [ofM] at tv ⊢
    rw [tv]
    simp only [Option.bind_some]
    rw [w64 (by omega) (by omega)]
    have es : (don ++ (g :: rest).map ofM).set (don.length : Int).toNat ⟨(mul m g).a, (mul m g).b, (mul m g).c, (mul m g).d⟩ = (don ++ [ofM (mul m g)]) ++ rest.map ofM := by
      rw [Int.toNat_natCast, List.set_append_right _ _ (by omega)]
      simp [ofM]
    have := ih (don ++ [ofM (mul m g)]) k (by simp; omega) (fun x hx => hb x (List.mem_cons_of_mem _ hx)) (by omega)
    obtain ⟨k', h1, h2⟩ := this
    refine ⟨k', h1, ?_⟩
    simp only [ofM] at es h2 ⊢
    rw [es]
    have e3 : ((don ++ [ofM (mul m g)]).length : Int) = (don.length : Int) + 1 := by simp
    simp only [ofM] at e3
    rw [e3] at h2
    rw [h2]
    simp
theorem group_len {r : Lat} (hr : Red r) : (group r).length ≤ 12 := by have := group_count hr; omega
theorem round_mul {l r : Lat} {m g : Mat} (h : Round l r m) (hr : Red r) (hg : Keep r g) : Round l r (mul m g) := by
  refine ⟨?_, ?_, h.a1, h.a2, h.c1, h.c2, h.b1, h.b2⟩
  · rw [← lead_mul, h.ld]; exact hg
  · have e := keep_det (red_disc_pos hr) hg
    have d := h.dd
    rw [det_mul]
    grind
theorem round_quot {l r : Lat} {m n : Mat} (h : Round l r m) (g : Round l r n) : Keep r (mul (inv m) n) := by
  unfold Keep
  rw [← lead_mul, ← h.ld, lead_inv h.dd, g.ld, h.ld]
/-- What Reduce answers to a lattice: the reduced lattice and the least matrix that leads there. -/
theorem Reduce_val (l : Lat) (hv : Valid l) : ∃ r m, (∀ k, 21000 ≤ k → grids_Reduce.f k l.A l.B l.C = some (r.A, r.B, r.C, m.a, m.b, m.c, m.d, 0)) ∧ Round l r m ∧ Red r ∧ ∀ n, Round l r n → ¬ Lt (ofM n) (ofM m) := by
  obtain ⟨r, g0, hf, hR, hr⟩ := reduce_val hv
  have hm := small_bd (hR.small hv)
  have hlen := group_len hr
  have hne : (group r).map (fun g => ofM (mul g0 g)) ≠ [] := by
    intro e
    have := one_mem hr
    rw [List.map_eq_nil_iff.1 e] at this
    simp at this
  obtain ⟨s, _, hs2, hs3⟩ := min_val 1000 ((group r).map fun g => ofM (mul g0 g)) hne (by simp; omega) (by simp; omega)
  obtain ⟨g, hg, rfl⟩ := List.mem_map.1 hs2
  refine ⟨r, mul g0 g, fun k hk => ?_, round_mul hR hr ((mem_group hr).1 hg), hr, fun n hn => ?_⟩
  · unfold grids_Reduce.f
    rw [gcheck_val k l (by omega), if_pos hv]
    simp only [Option.bind_some, if_true]
    rw [hf k (by omega)]
    simp only [Option.bind_some]
    rw [group_val k r (round_lb hR) (by omega)]
    simp only [Option.bind_some]
    obtain ⟨k', hk', e⟩ := reduce_fill r g0 hm (group r).length hlen (group r) [] k (by simp) (fun g hg => by
      have := mats_unit (List.mem_filter.1 hg).1
      exact unit_bd this) (by omega)
    have e1 : (((group r).map ofM).length : Int) = ((group r).length : Int) := by simp
    rw [e1]
    simp only [List.nil_append, List.length_nil, Int.ofNat_zero] at e
    rw [e]
    obtain ⟨s, ht1, ht2, ht3⟩ := min_val k' ((group r).map fun g => ofM (mul g0 g)) hne (by simp; omega) (by simp; omega)
    have es : s = ofM (mul g0 g) := by
      by_cases c : s = ofM (mul g0 g)
      · exact c
      · exact absurd (lt_total c (hs3 s ht2)) (ht3 _ hs2)
    rw [ht1, es]
    rfl
  · refine hs3 _ (List.mem_map.2 ⟨mul (inv g0) n, (mem_group hr).2 (round_quot hR hn), ?_⟩)
    rw [← mul_assoc, mul_inv hR.dd, one_mul]
theorem Reduce_err (k : Nat) (l : Lat) (hv : ¬ Valid l) (hk : 1 ≤ k) : grids_Reduce.f k l.A l.B l.C = some (0, 0, 0, 0, 0, 0, 0, 2) := by
  unfold grids_Reduce.f
  rw [gcheck_val k l hk, if_neg hv]
  simp
end Go.Proofs.Ytmcajdepoohlhaa.Val
