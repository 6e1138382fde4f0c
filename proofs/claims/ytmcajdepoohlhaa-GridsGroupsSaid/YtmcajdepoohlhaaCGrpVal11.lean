/- What the reference's list of the matrices that lead from a lattice to another one comes to. Conditions: valid lattices, and enough rounds. -/
import Derived.Test.YtmcajdepoohlhaaCGrpVal3
import Derived.Test.YtmcajdepoohlhaaCGrpVal6
import Derived.Test.YtmcajdepoohlhaaCGrpVal10
import Derived.Test.YtmcajdepoohlhaaCGrpP6
namespace Go.Proofs.Ytmcajdepoohlhaa.Val
open Go.RowKit Go.Proofs.Ytmcajdepoohlhaa.G Go.Proofs.Ytmcajdepoohlhaa.Spec Go.Proofs.YtmcajdepoohlhaaW.PrintWords
theorem Less_val (s t : S25) : torchonref06_Less.f s.f0 s.f1 s.f2 s.f3 t.f0 t.f1 t.f2 t.f3 = some (decide (Lt s t)) := by
  unfold torchonref06_Less.f Lt
  by_cases h0 : s.f0 = t.f0
  · by_cases h1 : s.f1 = t.f1
    · by_cases h2 : s.f2 = t.f2
      · simp [h0, h1, h2]
      · simp [h0, h1, h2]
    · simp [h0, h1]
  · simp [h0]
/-- An insertion into a list that goes up. -/
def insU (m : S25) : List S25 → List S25
  | [] => [m]
  | a :: t => if Lt a m then a :: insU m t else m :: a :: t
theorem insU_perm (m : S25) : ∀ l, (insU m l).Perm (m :: l)
  | [] => List.Perm.refl _
  | a :: t => by
    unfold insU
    split
    · exact ((insU_perm m t).cons a).trans (List.Perm.swap m a t)
    · exact List.Perm.refl _
theorem insU_up (m : S25) : ∀ l : List S25, l.Pairwise (fun a b => ¬ Lt b a) → (insU m l).Pairwise (fun a b => ¬ Lt b a)
  | [], _ => List.pairwise_singleton _ _
  | a :: t, h => by
    rw [List.pairwise_cons] at h
    unfold insU
    split
    · rename_i c
      refine List.pairwise_cons.2 ⟨fun x hx => ?_, insU_up m t h.2⟩
      rcases List.mem_cons.1 ((insU_perm m t).mem_iff.1 hx) with rfl | hx
      · exact lt_asymm c
      · exact h.1 x hx
    · rename_i c
      refine List.pairwise_cons.2 ⟨fun x hx => ?_, List.pairwise_cons.2 h⟩
      rcases List.mem_cons.1 hx with rfl | hx'
      · exact c
      · intro hlt
        by_cases e : m = a
        · subst e; exact h.1 x hx' hlt
        · exact h.1 x hx' (lt_trans hlt (by
            by_cases e2 : Lt m a
            · exact e2
            · exact absurd (lt_total e e2) c))
def good (l t : Lat) (p q : S37) : Bool := decide (prod l p.f0 p.f1 q.f0 q.f1 = t.B) && (decide (p.f0 * q.f1 - p.f1 * q.f0 = 1) || decide (p.f0 * q.f1 - p.f1 * q.f0 = -1))
def mkM (p q : S37) : S25 := ⟨p.f0, q.f0, p.f1, q.f1⟩
def addL (l t : Lat) (p : S37) (out : List S25) (q : S37) : List S25 := if good l t p q = true then insU (mkM p q) out else out
theorem fold_add_perm (l t : Lat) (p : S37) : ∀ (qs : List S37) (out : List S25), (qs.foldl (addL l t p) out).Perm (out ++ (qs.filter (good l t p)).map (mkM p))
  | [], out => by simp
  | q :: qs, out => by
    rw [List.foldl_cons]
    refine (fold_add_perm l t p qs _).trans ?_
    unfold addL
    by_cases c : good l t p q = true
    · rw [if_pos c, List.filter_cons_of_pos c, List.map_cons]
      exact ((insU_perm _ _).append_right _).trans List.perm_middle.symm
    · rw [if_neg c, List.filter_cons_of_neg c]
theorem fold_add_up (l t : Lat) (p : S37) : ∀ (qs : List S37) (out : List S25), out.Pairwise (fun a b => ¬ Lt b a) → (qs.foldl (addL l t p) out).Pairwise (fun a b => ¬ Lt b a)
  | [], _, h => h
  | q :: qs, out, h => by
    rw [List.foldl_cons]
    refine fold_add_up l t p qs _ ?_
    unfold addL
    split
    · exact insU_up _ _ h
    · exact h
theorem fold_add_len (l t : Lat) (p : S37) (qs : List S37) (out : List S25) : (qs.foldl (addL l t p) out).length ≤ out.length + qs.length := by
  rw [(fold_add_perm l t p qs out).length_eq, List.length_append, List.length_map]
  have := List.length_filter_le (good l t p) qs
  omega
/-- All of them. -/
def leads (l t : Lat) (ps qs : List S37) (out : List S25) : List S25 := ps.foldl (fun out p => qs.foldl (addL l t p) out) out
theorem leads_perm (l t : Lat) (qs : List S37) : ∀ (ps : List S37) (out : List S25), (leads l t ps qs out).Perm (out ++ ps.flatMap fun p => (qs.filter (good l t p)).map (mkM p))
  | [], out => by simp [leads]
  | p :: ps, out => by
    have := leads_perm l t qs ps (qs.foldl (addL l t p) out)
    unfold leads at this ⊢
    rw [List.foldl_cons, List.flatMap_cons, ← List.append_assoc]
    exact this.trans ((fold_add_perm l t p qs out).append_right _)
theorem leads_up (l t : Lat) (qs : List S37) : ∀ (ps : List S37) (out : List S25), out.Pairwise (fun a b => ¬ Lt b a) → (leads l t ps qs out).Pairwise (fun a b => ¬ Lt b a)
  | [], _, h => h
  | p :: ps, out, h => leads_up l t qs ps _ (fold_add_up l t p qs out h)
theorem leads_strict (l t : Lat) {ps qs : List S37} (hp : ps.Nodup) (hq : qs.Nodup) : (leads l t ps qs []).Pairwise Lt := by
  have h1 := leads_up l t qs ps [] List.Pairwise.nil
  have h2 : (leads l t ps qs []).Nodup := by
    rw [(leads_perm l t qs ps []).nodup_iff, List.nil_append]
    unfold List.Nodup
    rw [List.pairwise_flatMap]
    refine ⟨fun p _ => ?_, hp.imp fun {a b} hab x hx y hy e => ?_⟩
    · rw [List.pairwise_map]
      refine (hq.filter _).imp fun {a b} hab e => hab ?_
      simp only [mkM, S25.mk.injEq] at e
      cases a; cases b
      simp only [S37.mk.injEq]
      exact ⟨e.2.1, e.2.2.2⟩
    · obtain ⟨u, _, rfl⟩ := List.mem_map.1 hx
      obtain ⟨v, _, rfl⟩ := List.mem_map.1 hy
      simp only [mkM, S25.mk.injEq] at e
      apply hab
      cases a; cases b
      simp only [S37.mk.injEq]
      exact ⟨e.1, e.2.2.1⟩
  exact (h1.and h2).imp fun {a b} h => lt_total (fun e => h.2 e.symm) h.1 |> fun hlt => by
    by_cases c : Lt a b
    · exact c
    · exact absurd hlt (fun _ => c (lt_total (fun e => h.2 e.symm) h.1))
theorem leads_mem (l t : Lat) {ps qs : List S37} {s : S25} : s ∈ leads l t ps qs [] ↔ (⟨s.f0, s.f2⟩ : S37) ∈ ps ∧ (⟨s.f1, s.f3⟩ : S37) ∈ qs ∧ good l t ⟨s.f0, s.f2⟩ ⟨s.f1, s.f3⟩ = true := by
  rw [(leads_perm l t qs ps []).mem_iff, List.nil_append, List.mem_flatMap]
  constructor
  · rintro ⟨p, hp, hs⟩
    obtain ⟨q, hq, rfl⟩ := List.mem_map.1 hs
    rw [List.mem_filter] at hq
    exact ⟨hp, hq.1, hq.2⟩
  · rintro ⟨h1, h2, h3⟩
    exact ⟨_, h1, List.mem_map.2 ⟨_, List.mem_filter.2 ⟨h2, h3⟩, rfl⟩⟩
def Tiny (p : S37) : Prop := (-10000 ≤ p.f0 ∧ p.f0 ≤ 10000) ∧ (-10000 ≤ p.f1 ∧ p.f1 ≤ 10000)
theorem rd37_at {l : List S37} {i : Nat} {x : S37} (h : l[i]? = some x) {j : Int} (hj : j = (i : Int)) : rd_T37 l j = x := by
  unfold rd_T37
  rw [hj, Int.toNat_natCast, List.getD_eq_getElem?_getD, h]
  rfl
theorem refcross_val (p q : S37) (hp : Tiny p) (hq : Tiny q) : torchonref06_cross.f p.f0 p.f1 q.f0 q.f1 = some (p.f0 * q.f1 - p.f1 * q.f0) := by
  have p1 := mul_bd hp.1 hq.2
  have p2 := mul_bd hp.2 hq.1
  unfold torchonref06_cross.f
  simp (disch := omega) only [w64, Option.bind_some]
section
variable (l t : Lat) (ps qs : List S37) (r : List S25)
/-- An answer from some number of rounds on. -/
def Late (f : Nat → Option (List S25)) (r : List S25) : Prop := ∃ K, ∀ k, K ≤ k → f k = some r
theorem lead_ins (i j : Int) (m : S25) : ∀ (rest pre : List S25), pre.length + rest.length ≤ 4000000000 →
    Late (fun k => torchonref06_Leading.l1 k ps qs (pre ++ insU m rest) i (wrap64 (j + 1)) l.A l.B l.C t.A t.B t.C) r →
    Late (fun k => torchonref06_Leading.l2 k ps qs (pre ++ rest) i j (pre.length : Int) l.A l.B l.C t.A t.B t.C m.f0 m.f1 m.f2 m.f3) r := by
  intro rest
  induction rest with
  | nil =>
    intro pre hl ⟨K, hK⟩
    refine ⟨K + 1, fun k hk => ?_⟩
    obtain ⟨k, rfl⟩ : ∃ q, k = q + 1 := ⟨k - 1, by omega⟩
    have := hK k (by omega)
    simp only [List.length_nil] at hl
    simp only [torchonref06_Leading.l2, List.append_nil]
    rw [if_neg (by omega)]
    simp only [Option.bind_some, List.nil_append, List.length_nil]
    rw [if_pos (by omega), if_pos (by omega), Int.toNat_natCast, List.take_length, if_pos (by omega), if_pos (by omega), List.drop_length, if_pos (by simp; omega), List.append_nil]
    exact this
  | cons a rest ih =>
    intro pre hl hr
    simp only [List.length_cons] at hl
    have hg : (pre ++ a :: rest)[pre.length]? = some a := by rw [List.getElem?_append_right (by omega)]; simp
    have hlen : (pre ++ a :: rest).length = pre.length + rest.length + 1 := by simp; omega
    by_cases c : Lt a m
    · have e1 : pre ++ insU m (a :: rest) = (pre ++ [a]) ++ insU m rest := by rw [insU, if_pos c]; simp
      rw [e1] at hr
      obtain ⟨K, hK⟩ := ih (pre ++ [a]) (by rw [List.length_append]; simp only [List.length_cons, List.length_nil]; omega) hr
      refine ⟨K + 1, fun k hk => ?_⟩
      obtain ⟨k, rfl⟩ : ∃ q, k = q + 1 := ⟨k - 1, by omega⟩
      have := hK k (by omega)
      simp only [torchonref06_Leading.l2]
      rw [if_pos (by omega), if_pos (by omega), rd_at hg rfl, Less_val, decide_eq_true c]
      simp only [Option.bind_some, if_true]
      rw [w64 (by omega) (by omega)]
      have e2 : (((pre ++ [a]).length : Nat) : Int) = (pre.length : Int) + 1 := by simp
      rw [e2, List.append_assoc] at this
      exact this
    · have e1 : pre ++ insU m (a :: rest) = (pre ++ [m]) ++ (a :: rest) := by rw [insU, if_neg c]; simp
      rw [e1] at hr
      obtain ⟨K, hK⟩ := hr
      refine ⟨K + 1, fun k hk => ?_⟩
      obtain ⟨k, rfl⟩ : ∃ q, k = q + 1 := ⟨k - 1, by omega⟩
      have := hK k (by omega)
      simp only [torchonref06_Leading.l2]
      rw [if_pos (by omega), if_pos (by omega), rd_at hg rfl, Less_val, decide_eq_false c]
      simp only [Option.bind_some, Bool.false_eq_true, if_false, List.nil_append, List.length_nil]
      have ht : (pre ++ a :: rest).take pre.length = pre := by simp
      have hd : (pre ++ a :: rest).drop pre.length = a :: rest := by simp
      rw [if_pos (by omega), Int.toNat_natCast, ht, hd, if_pos (by omega), if_pos (by omega), if_pos (by simp; omega)]
      exact this
theorem lead_row (hl : LB l) (hq : ∀ q ∈ qs, Tiny q) (hql : qs.length ≤ 50000) (hpl : ps.length ≤ 50000) (i : Nat) (p : S37) (hp : Tiny p) (hi : ps[i]? = some p) :
    ∀ (rest don : List S37) (out : List S25), qs = don ++ rest → out.length + rest.length ≤ 4000000000 →
    Late (fun k => torchonref06_Leading.l0 k ps qs (rest.foldl (addL l t p) out) ((i + 1 : Nat) : Int) l.A l.B l.C t.A t.B t.C) r →
    Late (fun k => torchonref06_Leading.l1 k ps qs out (i : Int) (don.length : Int) l.A l.B l.C t.A t.B t.C) r := by
  have hil : i < ps.length := (List.getElem?_eq_some_iff.1 hi).1
  intro rest
  induction rest with
  | nil =>
    intro don out e ho ⟨K, hK⟩
    refine ⟨K + 1, fun k hk => ?_⟩
    obtain ⟨k, rfl⟩ : ∃ q, k = q + 1 := ⟨k - 1, by omega⟩
    have := hK k (by omega)
    rw [List.append_nil] at e
    simp only [torchonref06_Leading.l1]
    rw [if_neg (by rw [e]; omega), w64 (by omega) (by omega)]
    exact this
  | cons q rest ih =>
    intro don out e ho hr
    simp only [List.length_cons] at ho
    rw [List.foldl_cons] at hr
    have hlen : qs.length = don.length + rest.length + 1 := by rw [e]; simp; omega
    have hg : qs[don.length]? = some q := by rw [e, List.getElem?_append_right (by omega)]; simp
    have hqq : Tiny q := hq q (by rw [e]; simp)
    have hal : (addL l t p out q).length ≤ out.length + 1 := by
      unfold addL
      split
      · rw [(insU_perm _ _).length_eq]; simp
      · omega
    have h2 := ih (don ++ [q]) (addL l t p out q) (by rw [e]; simp) (by omega) hr
    have e2 : (((don ++ [q]).length : Nat) : Int) = (don.length : Int) + 1 := by simp
    rw [e2] at h2
    have w1 : wrap64 ((don.length : Int) + 1) = (don.length : Int) + 1 := w64 (by omega) (by omega)
    have J : ∀ b : Bool, (!b) = good l t p q → Late (fun k => torchonref06_Leading.j2 k ps qs out (i : Int) (don.length : Int) b l.A l.B l.C t.A t.B t.C) r := by
      intro b hb
      cases b with
      | true =>
        have hg2 : good l t p q = false := by simpa using hb.symm
        have e3 : addL l t p out q = out := by unfold addL; rw [hg2]; simp
        rw [e3] at h2
        obtain ⟨K, hK⟩ := h2
        refine ⟨K + 1, fun k hk => ?_⟩
        obtain ⟨k, rfl⟩ : ∃ q, k = q + 1 := ⟨k - 1, by omega⟩
        simp only [torchonref06_Leading.j2, if_true, w1, Option.bind_some]
        exact hK k (by omega)
      | false =>
        have hg2 : good l t p q = true := by simpa using hb.symm
        have e3 : addL l t p out q = insU (mkM p q) out := by unfold addL; rw [hg2]; simp
        rw [e3] at h2
        have h3 := lead_ins l t ps qs r (i : Int) (don.length : Int) (mkM p q) out [] (by simp; omega) (by simpa [w1] using h2)
        obtain ⟨K, hK⟩ := h3
        refine ⟨K + 1, fun k hk => ?_⟩
        obtain ⟨k, rfl⟩ : ∃ q, k = q + 1 := ⟨k - 1, by omega⟩
        have := hK k (by omega)
        simp only [torchonref06_Leading.j2, Bool.false_eq_true, if_false]
        rw [if_pos (by omega), if_pos (by omega), if_pos (by omega), if_pos (by omega), rd37_at hi rfl, rd37_at hg rfl]
        exact this
    have step : ∀ b : Bool, (!b) = good l t p q → (∀ k, torchonref06_Leading.l1 (k + 1) ps qs out (i : Int) (don.length : Int) l.A l.B l.C t.A t.B t.C = torchonref06_Leading.j2 k ps qs out (i : Int) (don.length : Int) b l.A l.B l.C t.A t.B t.C) →
        Late (fun k => torchonref06_Leading.l1 k ps qs out (i : Int) (don.length : Int) l.A l.B l.C t.A t.B t.C) r := by
      intro b hb hs
      obtain ⟨K, hK⟩ := J b hb
      refine ⟨K + 1, fun k hk => ?_⟩
      obtain ⟨k, rfl⟩ : ∃ q, k = q + 1 := ⟨k - 1, by omega⟩
      show torchonref06_Leading.l1 (k + 1) ps qs out (i : Int) (don.length : Int) l.A l.B l.C t.A t.B t.C = some r
      rw [hs k]
      exact hK k (by omega)
    have hx := refcross_val p q hp hqq
    have hy := refProduct_val l p.f0 p.f1 q.f0 q.f1 hl hp.1 hp.2 hqq.1 hqq.2
    refine step (!good l t p q) (by simp) fun k => ?_
    simp only [torchonref06_Leading.l1]
    rw [if_pos (by omega), if_pos (by omega), if_pos (by omega), if_pos (by omega), rd37_at hi rfl, rd37_at hg rfl, hx, hy]
    simp only [Option.bind_some]
    unfold good
    by_cases c1 : prod l p.f0 p.f1 q.f0 q.f1 = t.B
    · rw [if_pos c1, decide_eq_true c1]
      by_cases c2 : p.f0 * q.f1 - p.f1 * q.f0 = 1
      · rw [if_pos c2, decide_eq_true c2]; rfl
      · rw [if_neg c2, decide_eq_false c2]
        by_cases c3 : p.f0 * q.f1 - p.f1 * q.f0 = -1
        · simp [c3]
        · have : (p.f0 * q.f1 - p.f1 * q.f0 != -1) = true := by simpa using c3
          rw [this, decide_eq_false c3]; rfl
    · rw [if_neg c1, decide_eq_false c1]; rfl
theorem lead_all (hl : LB l) (hp : ∀ p ∈ ps, Tiny p) (hq : ∀ q ∈ qs, Tiny q) (hql : qs.length ≤ 50000) (hpl : ps.length ≤ 50000) : ∀ (rest don : List S37) (out : List S25), ps = don ++ rest → out.length + rest.length * 50000 ≤ 3000000000 →
    Late (fun k => torchonref06_Leading.l0 k ps qs out (don.length : Int) l.A l.B l.C t.A t.B t.C) (leads l t rest qs out) := by
  intro rest
  induction rest with
  | nil =>
    intro don out e ho
    refine ⟨1, fun k hk => ?_⟩
    obtain ⟨k, rfl⟩ : ∃ q, k = q + 1 := ⟨k - 1, by omega⟩
    rw [List.append_nil] at e
    simp only [torchonref06_Leading.l0]
    rw [if_neg (by rw [e]; omega)]
    rfl
  | cons p rest ih =>
    intro don out e ho
    simp only [List.length_cons] at ho
    have hlen : ps.length = don.length + rest.length + 1 := by rw [e]; simp; omega
    have hg : ps[don.length]? = some p := by rw [e, List.getElem?_append_right (by omega)]; simp
    have hlen2 := fold_add_len l t p qs out
    have h1 := ih (don ++ [p]) (qs.foldl (addL l t p) out) (by rw [e]; simp) (by omega)
    have e2 : (((don ++ [p]).length : Nat) : Int) = ((don.length + 1 : Nat) : Int) := by simp
    rw [e2] at h1
    have h2 := lead_row l t ps qs _ hl hq hql hpl don.length p (hp p (by rw [e]; simp)) hg qs [] out rfl (by omega) h1
    obtain ⟨K, hK⟩ := h2
    refine ⟨K + 1, fun k hk => ?_⟩
    obtain ⟨k, rfl⟩ : ∃ q, k = q + 1 := ⟨k - 1, by omega⟩
    simp only [torchonref06_Leading.l0]
    rw [if_pos (by omega)]
    exact hK k (by omega)
end
/-- What Leading answers: all the matrices that lead there, in order. -/
theorem Leading_val {l t : Lat} (hv : Valid l) (ha : 1 ≤ t.A ∧ t.A ≤ 10000) (hc : 1 ≤ t.C ∧ t.C ≤ 10000) : ∃ L : List S25, (∃ K, ∀ k, K ≤ k → torchonref06_Leading.f k l.A l.B l.C t.A t.B t.C = some L) ∧ L.Pairwise Lt ∧
    ∀ s : S25, s ∈ L ↔ lead l (toM s) = t ∧ (det (toM s) = 1 ∨ det (toM s) = -1) := by
  obtain ⟨ps, e1, n1, l1, m1⟩ := Steps_val hv ha
  obtain ⟨qs, e2, n2, l2, m2⟩ := Steps_val hv hc
  have t1 : ∀ p ∈ ps, Tiny p := fun p h => step_bd hv (by have := (m1 p).1 h; omega)
  have t2 : ∀ p ∈ qs, Tiny p := fun p h => step_bd hv (by have := (m2 p).1 h; omega)
  obtain ⟨K, hK⟩ := lead_all l t ps qs (valid_lb hv) t1 t2 l2 l1 ps [] [] rfl (by simp; omega)
  refine ⟨leads l t ps qs [], ⟨K + 21000, fun k hk => ?_⟩, leads_strict l t n1 n2, fun s => ?_⟩
  · unfold torchonref06_Leading.f
    rw [e1 k (by omega), e2 k (by omega)]
    exact hK k (by omega)
  · rw [leads_mem, m1, m2]
    have ed : det (toM s) = s.f0 * s.f3 - s.f2 * s.f1 := by unfold det toM; grind
    rw [ed]
    unfold good lead
    simp only [toM, Bool.and_eq_true, Bool.or_eq_true, decide_eq_true_eq]
    obtain ⟨A, B, C⟩ := t
    simp only [Lat.mk.injEq]
    constructor
    · rintro ⟨h1, h2, h3, h4⟩
      exact ⟨⟨h1, h3, h2⟩, h4⟩
    · rintro ⟨⟨h1, h3, h2⟩, h4⟩
      exact ⟨h1, h2, h3, h4⟩
end Go.Proofs.Ytmcajdepoohlhaa.Val
