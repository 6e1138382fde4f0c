/- What the printed functions of the layer 'grids' come to: the order of matrices, the least one, sorting, the group of a lattice, its reduction. Conditions: the bounds that each states, and enough rounds. -/
import Derived.Test.YtmcajdepoohlhaaCKeepVal2
namespace Go.Proofs.Ytmcajdepoohlhaa.Val
open Go.RowKit Go.Proofs.Ytmcajdepoohlhaa.G Go.Proofs.Ytmcajdepoohlhaa.Spec Go.Proofs.YtmcajdepoohlhaaW.PrintWords
/-- The order of matrices, number by number. -/
def Lt (s t : S25) : Prop := s.f0 < t.f0 ∨ s.f0 = t.f0 ∧ (s.f1 < t.f1 ∨ s.f1 = t.f1 ∧ (s.f2 < t.f2 ∨ s.f2 = t.f2 ∧ s.f3 < t.f3))
instance (s t : S25) : Decidable (Lt s t) := by unfold Lt; infer_instance
theorem lt_irr (s : S25) : ¬ Lt s s := by unfold Lt; omega
theorem lt_trans {s t u : S25} (h : Lt s t) (g : Lt t u) : Lt s u := by unfold Lt at *; omega
theorem lt_total {s t : S25} (h : s ≠ t) (g : ¬ Lt s t) : Lt t s := by
  have : ¬ (s.f0 = t.f0 ∧ s.f1 = t.f1 ∧ s.f2 = t.f2 ∧ s.f3 = t.f3) := fun ⟨a, b, c, d⟩ => h (by cases s; cases t; simp_all)
  unfold Lt at *; omega
theorem lt_asymm {s t : S25} (h : Lt s t) : ¬ Lt t s := by unfold Lt at *; omega
def ordS (s t : S25) : Int := orI [cmpI s.f0 t.f0, cmpI s.f1 t.f1, cmpI s.f2 t.f2, cmpI s.f3 t.f3]
theorem cmpI_z {a b : Int} : cmpI a b = 0 ↔ a = b := by unfold cmpI; split <;> (try split) <;> omega
theorem cmpI_n {a b : Int} : cmpI a b < 0 ↔ a < b := by unfold cmpI; split <;> (try split) <;> omega
theorem ordS_lt {s t : S25} : ordS s t < 0 ↔ Lt s t := by
  unfold ordS
  simp only [orI]
  unfold Lt
  have a0 := @cmpI_z s.f0 t.f0
  have a1 := @cmpI_z s.f1 t.f1
  have a2 := @cmpI_z s.f2 t.f2
  have a3 := @cmpI_z s.f3 t.f3
  have b0 := @cmpI_n s.f0 t.f0
  have b1 := @cmpI_n s.f1 t.f1
  have b2 := @cmpI_n s.f2 t.f2
  have b3 := @cmpI_n s.f3 t.f3
  repeat' split
  all_goals omega
theorem order_val (k : Nat) (s t : S25) (hk : 10 ≤ k) : grids_order.f k s.f0 s.f1 s.f2 s.f3 t.f0 t.f1 t.f2 t.f3 = some (ordS s t) := by
  unfold grids_order.f
  rw [compare64_val, compare64_val, compare64_val, compare64_val]
  simp only [Option.bind_some]
  rw [or_val _ _ (by simp) (by simp only [List.length_cons, List.length_nil]; omega)]
  rfl
/-- An insertion into a list that goes down. -/
def ins (a : S25) : List S25 → List S25
  | [] => [a]
  | b :: t => if Lt a b then b :: ins a t else a :: b :: t
def srt (l : List S25) : List S25 := (l.foldl (fun p a => ins a p) []).reverse
theorem ins_length (a : S25) : ∀ p, (ins a p).length = p.length + 1
  | [] => rfl
  | b :: t => by unfold ins; split <;> simp [ins_length a t]
theorem ins_perm (a : S25) : ∀ p, (ins a p).Perm (a :: p)
  | [] => List.Perm.refl _
  | b :: t => by
    unfold ins
    split
    · exact ((ins_perm a t).cons b).trans (List.Perm.swap a b t)
    · exact List.Perm.refl _
theorem ins_down (a : S25) : ∀ p : List S25, a ∉ p → p.Pairwise (fun x y => Lt y x) → (ins a p).Pairwise (fun x y => Lt y x)
  | [], _, _ => List.pairwise_singleton _ _
  | b :: t, h, hp => by
    rw [List.pairwise_cons] at hp
    unfold ins
    split
    · rename_i c
      refine List.pairwise_cons.2 ⟨fun x hx => ?_, ins_down a t (fun hm => h (List.mem_cons_of_mem _ hm)) hp.2⟩
      rcases List.mem_cons.1 ((ins_perm a t).mem_iff.1 hx) with rfl | hx
      · exact c
      · exact hp.1 x hx
    · rename_i c
      have hab : Lt b a := lt_total (fun e => h (by rw [e]; exact List.mem_cons_self)) c
      refine List.pairwise_cons.2 ⟨fun x hx => ?_, List.pairwise_cons.2 hp⟩
      rcases List.mem_cons.1 hx with rfl | hx
      · exact hab
      · exact lt_trans (hp.1 x hx) hab
theorem fold_perm : ∀ (l p : List S25), (l.foldl (fun p a => ins a p) p).Perm (l ++ p)
  | [], p => List.Perm.refl _
  | a :: l, p => by
    rw [List.foldl_cons]
    exact (fold_perm l (ins a p)).trans (((ins_perm a p).append_left l).trans List.perm_middle)
theorem fold_down : ∀ (l p : List S25), (l ++ p).Nodup → p.Pairwise (fun x y => Lt y x) → (l.foldl (fun p a => ins a p) p).Pairwise (fun x y => Lt y x)
  | [], p, _, hp => hp
  | a :: l, p, hn, hp => by
    rw [List.foldl_cons]
    rw [List.cons_append, List.nodup_cons] at hn
    refine fold_down l (ins a p) ?_ (ins_down a p (fun hm => hn.1 (List.mem_append_right _ hm)) hp)
    have : (l ++ ins a p).Perm (a :: (l ++ p)) := ((ins_perm a p).append_left l).trans List.perm_middle
    exact this.nodup_iff.2 (List.nodup_cons.2 hn)
theorem srt_perm (l : List S25) : (srt l).Perm l := by
  have := fold_perm l []
  rw [List.append_nil] at this
  exact (List.reverse_perm _).trans this
theorem srt_up {l : List S25} (h : l.Nodup) : (srt l).Pairwise Lt := by
  unfold srt
  rw [List.pairwise_reverse]
  exact fold_down l [] (by simpa using h) List.Pairwise.nil
/-- Two lists in order with the same elements are the same. -/
theorem up_unique : ∀ {l m : List S25}, l.Pairwise Lt → m.Pairwise Lt → (∀ x, x ∈ l ↔ x ∈ m) → l = m
  | [], [], _, _, _ => rfl
  | [], b :: m, _, _, h => absurd ((h b).2 List.mem_cons_self) (by simp)
  | a :: l, [], _, _, h => absurd ((h a).1 List.mem_cons_self) (by simp)
  | a :: l, b :: m, hl, hm, h => by
    rw [List.pairwise_cons] at hl hm
    have e : a = b := by
      rcases List.mem_cons.1 ((h a).1 List.mem_cons_self) with e | ha
      · exact e
      rcases List.mem_cons.1 ((h b).2 List.mem_cons_self) with e | hb
      · exact e.symm
      exact absurd (lt_trans (hl.1 b hb) (hm.1 a ha)) (lt_irr a)
    subst e
    congr 1
    refine up_unique hl.2 hm.2 fun x => ⟨fun hx => ?_, fun hx => ?_⟩
    · rcases List.mem_cons.1 ((h x).1 (List.mem_cons_of_mem _ hx)) with e | hx'
      · subst e; exact absurd (hl.1 x hx) (lt_irr x)
      · exact hx'
    · rcases List.mem_cons.1 ((h x).2 (List.mem_cons_of_mem _ hx)) with e | hx'
      · subst e; exact absurd (hm.1 x hx) (lt_irr x)
      · exact hx'
theorem rd_at {l : List S25} {i : Nat} {x : S25} (h : l[i]? = some x) {j : Int} (hj : j = (i : Int)) : rd_T25 l j = x := by
  unfold rd_T25
  rw [hj, Int.toNat_natCast, List.getD_eq_getElem?_getD, h]
  rfl
theorem sort_in (n : Nat) (hn : n ≤ 12) (i : Int) : ∀ (p : List S25) (a : S25) (post : List S25) (k : Nat), p.length + 1 + post.length = n → p.length + 12 ≤ k →
    ∃ k', k ≤ k' + p.length + 1 ∧ k' ≤ k ∧ api_GrMatrix_85.l1 k (p.reverse ++ a :: post) 0 (n : Int) i (p.length : Int) = api_GrMatrix_85.l0 k' ((ins a p).reverse ++ post) 0 (n : Int) (wrap64 (i + 1)) := by
  intro p
  induction p with
  | nil =>
    intro a post k hl hk
    obtain ⟨k, rfl⟩ : ∃ m, k = m + 1 := ⟨k - 1, by omega⟩
    refine ⟨k, by omega, by omega, ?_⟩
    simp [api_GrMatrix_85.l1, ins]
  | cons b t ih =>
    intro a post k hl hk
    simp only [List.length_cons] at hl hk
    obtain ⟨k, rfl⟩ : ∃ m, k = m + 1 := ⟨k - 1, by omega⟩
    simp only [api_GrMatrix_85.l1, List.length_cons]
    have hlen : ((b :: t).reverse ++ a :: post).length = n := by simp; omega
    have e0 : (b :: t).reverse ++ a :: post = t.reverse ++ b :: a :: post := by simp
    have g1 : ((b :: t).reverse ++ a :: post)[t.length + 1]? = some a := by rw [e0, List.getElem?_append_right (by simp)]; simp
    have g0 : ((b :: t).reverse ++ a :: post)[t.length]? = some b := by rw [e0, List.getElem?_append_right (by simp)]; simp
    have r1 : rd_T25 ((b :: t).reverse ++ a :: post) ((t.length + 1 : Nat) : Int) = a := rd_at g1 rfl
    have r0 : rd_T25 ((b :: t).reverse ++ a :: post) (((t.length + 1 : Nat) : Int) - 1) = b := rd_at g0 (by omega)
    rw [if_pos (by omega), if_pos (by omega), if_pos (by omega), w64 (by omega) (by omega)]
    simp only [Option.bind_some]
    rw [if_pos (by omega), if_pos (by omega), r0, r1, order_val _ _ _ (by omega)]
    simp only [Option.bind_some]
    rw [show ((t.length + 1 : Nat) : Int).toNat = t.length + 1 by omega, show (((t.length + 1 : Nat) : Int) - 1).toNat = t.length by omega]
    by_cases c : Lt a b
    · rw [if_pos (ordS_lt.2 c)]
      have es : (((b :: t).reverse ++ a :: post).set (t.length + 1) ⟨b.f0, b.f1, b.f2, b.f3⟩).set t.length ⟨a.f0, a.f1, a.f2, a.f3⟩ = t.reverse ++ a :: b :: post := by
        rw [e0, List.set_append_right _ _ (by simp), List.set_append_right _ _ (by simp)]
        simp
      rw [es, show (((t.length + 1 : Nat) : Int) - 1) = (t.length : Int) by omega]
      obtain ⟨k', h1, h2, h3⟩ := ih a (b :: post) k (by simp only [List.length_cons]; omega) (by omega)
      refine ⟨k', by omega, by omega, ?_⟩
      rw [h3, ins, if_pos c]
      simp
    · rw [if_neg (fun h => c (ordS_lt.1 h))]
      refine ⟨k, by omega, by omega, ?_⟩
      rw [ins, if_neg c]
      simp
theorem sort_out (n : Nat) (hn : n ≤ 12) : ∀ (post p : List S25) (k : Nat), p.length + post.length = n → 14 * post.length + 20 ≤ k →
    api_GrMatrix_85.l0 k (p.reverse ++ post) 0 (n : Int) (p.length : Int) = some ((post.foldl (fun p a => ins a p) p).reverse) := by
  intro post
  induction post with
  | nil =>
    intro p k hl hk
    obtain ⟨k, rfl⟩ : ∃ m, k = m + 1 := ⟨k - 1, by omega⟩
    simp only [api_GrMatrix_85.l0, List.length_nil] at *
    rw [if_neg (by omega)]
    simp
  | cons a post ih =>
    intro p k hl hk
    obtain ⟨k, rfl⟩ : ∃ m, k = m + 1 := ⟨k - 1, by omega⟩
    simp only [List.length_cons] at hl hk
    simp only [api_GrMatrix_85.l0]
    rw [if_pos (by omega)]
    obtain ⟨k', h1, h2, h3⟩ := sort_in n hn (p.length : Int) p a post k (by omega) (by omega)
    rw [h3, w64 (by omega) (by omega)]
    have hl2 := ins_length a p
    have := ih (ins a p) k' (by omega) (by omega)
    rw [hl2] at this
    exact this
theorem len_val (n : Nat) (hn : n ≤ 12) : ∃ v, bits_Len.f (IntKind.u64.wrap (n : Int)) = some v := by
  have e : IntKind.u64.wrap (n : Int) = (n : Int) := by simp only [IntKind.wrap, IntKind.bits, IntKind.signed]; simp; omega
  rw [e]
  unfold bits_Len.f
  rw [if_pos (by omega)]
  repeat' split
  all_goals first | exact ⟨_, rfl⟩ | omega
theorem sort_all (k : Nat) (l : List S25) (hl : l.length ≤ 12) (hk : 200 ≤ k) : api_GrMatrix_85.f k l 0 (l.length : Int) = some (srt l) := by
  unfold api_GrMatrix_85.f
  rw [w64 (by omega) (by omega)]
  simp only [Option.bind_some]
  cases l with
  | nil =>
    obtain ⟨k, rfl⟩ : ∃ m, k = m + 1 := ⟨k - 1, by omega⟩
    simp only [api_GrMatrix_85.l0]
    rw [if_neg (by simp)]
    simp [srt]
  | cons a t =>
    simp only [List.length_cons] at hl
    have := sort_out (t.length + 1) (by omega) t [a] k (by simp; omega) (by omega)
    simpa [srt, ins] using this
theorem pdq_val (k : Nat) (l : List S25) (v : Int) (hl : l.length ≤ 12) (hk : 200 ≤ k) : api_GrMatrix_81.f (k + 1 + 1) l 0 (l.length : Int) v = some (srt l) := by
  rw [api_GrMatrix_81.f, api_GrMatrix_81.l0, Option.bind_some, if_pos, sort_all k l hl hk]
  · rfl
  · rw [w64 (by omega) (by omega)]; omega
theorem sort_val (k : Nat) (l : List S25) (hl : l.length ≤ 12) (hk : 300 ≤ k) : api_GrMatrix_58.f k l = some (srt l) := by
  obtain ⟨m, rfl⟩ : ∃ m, k = m + 1 + 1 := ⟨k - 2, by omega⟩
  obtain ⟨v, hv⟩ := len_val l.length hl
  have hs := pdq_val m l v hl (by omega)
  unfold api_GrMatrix_58.f
  rw [hv, Option.bind_some, hs, Option.bind_some]
end Go.Proofs.Ytmcajdepoohlhaa.Val
