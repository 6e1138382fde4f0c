/- The law GridsKeep, as its printed function tells it: true for every lattice, every points and every matrix. No condition beyond that the numbers fit. -/
import Derived.Test.YtmcajdepoohlhaaCKeepVal5
import Derived.Test.YtmcajdepoohlhaaCKeepVal7
import Derived.Test.YtmcajdepoohlhaaCKeepVal13
import Derived.Test.YtmcajdepoohlhaaCKeepVal14
import Derived.Test.YtmcajdepoohlhaaCKeepVal15
import Derived.Test.YtmcajdepoohlhaaCKeepAwake
import Derived.Test.YtmcajdepoohlhaaCKeepP6
namespace Go.Proofs.Ytmcajdepoohlhaa.Pure
open Go.RowKit Go.Proofs.Ytmcajdepoohlhaa.G Go.Proofs.Ytmcajdepoohlhaa.Spec Go.Proofs.Ytmcajdepoohlhaa.Val
/-- The matrix alone, as a move. -/
def mv (g : Mat) : Mov := ⟨g, ⟨0, 0⟩⟩
def Near (p : Vec) : Prop := (-10 ≤ p.x ∧ p.x ≤ 10) ∧ (-10 ≤ p.y ∧ p.y ≤ 10)
theorem near_ok {p : Vec} (h : Near p) : okP p.x p.y = true := by unfold Near at h; rw [okP_iff]; omega
theorem okV_mv {g : Mat} (h : Small g) : okV (mv g) = true := okV_iff.2 ⟨h, okP_iff.2 (by simp [mv])⟩
theorem near_img {g : Mat} {p : Vec} (hg : Small g) (hp : Near p) : okP (app (mv g) p).x (app (mv g) p).y = true := by
  unfold Near at hp
  obtain ⟨ha, hb, hc, hd⟩ := hg
  have p1 := mul_bd ha hp.1
  have p2 := mul_bd hb hp.2
  have p3 := mul_bd hc hp.1
  have p4 := mul_bd hd hp.2
  rw [okP_iff]
  simp only [app, mv]
  omega
theorem keep_small2 {l : Lat} {g : Mat} (hv : Valid l) (hk : Keep l g) : Small g := lead_small hv (by rw [hk]; exact hv.a2) (by rw [hk]; exact hv.c2)
theorem cmpI_sgn {d x : Int} (hd : d = 1 ∨ d = -1) : cmpI (d * x) 0 = d * cmpI x 0 := by
  rcases hd with rfl | rfl
  · simp
  · unfold cmpI
    split <;> split <;> (try split) <;> (try split) <;> omega
section
variable (l : Lat) (x m : Mat) (P Q R : Vec) (L : List S25)
/-- The products of two of them. -/
theorem keep_row (hv : Valid l) (hL : ∀ s, s ∈ L ↔ Keep l (toM s)) (hlen : L.length ≤ 12) (n1 n2 i : Int) (s : S25) (hi0 : 0 ≤ i) (hiL : i < L.length) (hs : rd_T25 L i = s) (hsL : s ∈ L) :
    ∀ (rest don : List S25) (k : Nat), L = don ++ rest → rest.length + 100 ≤ k →
    ∃ k', k ≤ k' + rest.length + 1 ∧ torchonlaw06_GridsKeep.l1 k L (L.length : Int) n1 n2 i (don.length : Int) l.A l.B l.C m.a m.b m.c m.d P.x P.y Q.x Q.y R.x R.y =
      torchonlaw06_GridsKeep.l0 k' L (L.length : Int) n1 n2 (i + 1) l.A l.B l.C m.a m.b m.c m.d P.x P.y Q.x Q.y R.x R.y := by
  intro rest
  induction rest with
  | nil =>
    intro don k e hk
    obtain ⟨k, rfl⟩ : ∃ q, k = q + 1 := ⟨k - 1, by omega⟩
    refine ⟨k, by omega, ?_⟩
    rw [List.append_nil] at e
    simp only [torchonlaw06_GridsKeep.l1]
    rw [if_neg (by rw [e]; omega), w64 (by omega) (by omega)]
    rfl
  | cons t rest ih =>
    intro don k e hk
    simp only [List.length_cons] at hk
    obtain ⟨k, rfl⟩ : ∃ q, k = q + 1 := ⟨k - 1, by omega⟩
    have hl2 : L.length = don.length + rest.length + 1 := by rw [e]; simp; omega
    have gl : L[don.length]? = some t := by rw [e, List.getElem?_append_right (by omega)]; simp
    have ht : t ∈ L := by rw [e]; simp
    have k1 := (hL s).1 hsL
    have k2 := (hL t).1 ht
    have b1 := small_bd (keep_small2 hv k1)
    have b2 := small_bd (keep_small2 hv k2)
    have tm := refTimes2 (toM s) (toM t) b1 (b2.mono (by omega))
    obtain ⟨b, hb1, hb2⟩ := in_val k L (ofM (mul (toM s) (toM t))) (by omega) (by omega)
    have kk : Keep l (mul (toM s) (toM t)) := by unfold Keep at *; rw [← lead_mul, k1, k2]
    have hbt : b = true := hb2.2 ((hL _).2 (by rw [to_of]; exact kk))
    subst hbt
    simp only [torchonlaw06_GridsKeep.l1]
    rw [if_pos (by omega), if_pos (by omega), if_pos (by omega), if_pos (by omega), if_pos (by omega), hs, rd_at gl rfl]
    simp only [toM] at tm
    rw [tm]
    simp only [Option.bind_some]
    simp only [ofM, toM] at hb1
    rw [hb1]
    simp only [Option.bind_some, if_true]
    rw [w64 (by omega) (by omega)]
    obtain ⟨k', h1, h2⟩ := ih (don ++ [t]) k (by rw [e]; simp) (by omega)
    have e3 : ((don ++ [t]).length : Int) = (don.length : Int) + 1 := by simp
    rw [e3] at h2
    exact ⟨k', by simp only [List.length_cons]; omega, h2⟩
theorem keep_all (hv : Valid l) (hL : ∀ s, s ∈ L ↔ Keep l (toM s)) (hlen : L.length ≤ 12) (hP : Near P) (hQ : Near Q) (hR : Near R) :
    ∀ (rest don : List S25) (k : Nat), L = don ++ rest → 30 * rest.length + 500 ≤ k →
    torchonlaw06_GridsKeep.l0 k L (L.length : Int) (prod l (Q.x - P.x) (Q.y - P.y) (Q.x - P.x) (Q.y - P.y)) (cmpI (crs ⟨Q.x - P.x, Q.y - P.y⟩ ⟨R.x - P.x, R.y - P.y⟩) 0) (don.length : Int) l.A l.B l.C m.a m.b m.c m.d P.x P.y Q.x Q.y R.x R.y = some true := by
  intro rest
  induction rest with
  | nil =>
    intro don k e hk
    obtain ⟨k, rfl⟩ : ∃ q, k = q + 1 := ⟨k - 1, by omega⟩
    rw [List.append_nil] at e
    simp only [torchonlaw06_GridsKeep.l0]
    rw [if_neg (by rw [e]; omega), Keeps_val k l m (by omega), refMatrix_val]
    simp only [Option.bind_some]
    unfold keepsP
    rw [if_pos hv, awake_val k (by omega)]
    by_cases hs : Small m
    · rw [if_pos hs, decide_eq_true hs]
      obtain ⟨b, h1, h2⟩ := in_val k L (ofM m) (by omega) (by omega)
      have hb : b = decide (Keep l m) := by
        by_cases c : Keep l m
        · rw [decide_eq_true c]; exact h2.2 ((hL _).2 (by rw [to_of]; exact c))
        · rw [decide_eq_false c]
          cases b with
          | false => rfl
          | true => exact absurd (by have := (hL _).1 (h2.1 rfl); rwa [to_of] at this) c
      simp only [ofM] at h1
      simp only [h1, hb, Option.bind_some, beq_self_eq_true, if_true]
    · rw [if_neg hs, decide_eq_false hs]
      simp
  | cons s rest ih =>
    intro don k e hk
    simp only [List.length_cons] at hk
    obtain ⟨k, rfl⟩ : ∃ q, k = q + 2 := ⟨k - 2, by omega⟩
    have hl2 : L.length = don.length + rest.length + 1 := by rw [e]; simp; omega
    have gl : L[don.length]? = some s := by rw [e, List.getElem?_append_right (by omega)]; simp
    have hrd : rd_T25 L (don.length : Int) = s := rd_at gl rfl
    have hs : s ∈ L := by rw [e]; simp
    have hk1 := (hL s).1 hs
    obtain ⟨g, rfl⟩ : ∃ g, s = ofM g := ⟨toM s, (of_to s).symm⟩
    rw [to_of] at hk1
    have hsm := keep_small2 hv hk1
    have hb := small_bd hsm
    have hdd := keep_det hv.d1 hk1
    have hpm := det_pm hdd
    have oP := near_ok hP
    have oQ := near_ok hQ
    have oR := near_ok hR
    have iP := near_img hsm hP
    have iQ := near_img hsm hQ
    have iR := near_img hsm hR
    have vP := Apply_val (k + 1) (mv g) P (by omega)
    have vQ := Apply_val (k + 1) (mv g) Q (by omega)
    have vR := Apply_val (k + 1) (mv g) R (by omega)
    rw [applyP_ok (okV_mv hsm) oP iP] at vP
    rw [applyP_ok (okV_mv hsm) oQ iQ] at vQ
    rw [applyP_ok (okV_mv hsm) oR iR] at vR
    have vS := Square_val (k + 1) l (app (mv g) P) (app (mv g) Q) (by omega)
    rw [dotP_ok hv iP iQ iQ] at vS
    have vT := Side_val (k + 1) (app (mv g) P) (app (mv g) Q) (app (mv g) R) (by omega)
    rw [sideP_ok iP iQ iR] at vT
    have vI := Invert_val (k + 1) (mv g) (by omega)
    have oI : okV (invM (mv g)) = true := by
      have hi := inv_bd hb hdd
      refine okV_iff.2 ⟨hi, okP_iff.2 ?_⟩
      simp [invM, mv]
    have eI : invertP (mv g) = (invM (mv g), 0) := by
      unfold invertP validP
      rw [if_pos (okV_mv hsm), if_pos (show det (mv g).M = 1 ∨ det (mv g).M = -1 from hpm), if_pos oI]
    rw [eI] at vI
    have eS : prod l ((app (mv g) Q).x - (app (mv g) P).x) ((app (mv g) Q).y - (app (mv g) P).y) ((app (mv g) Q).x - (app (mv g) P).x) ((app (mv g) Q).y - (app (mv g) P).y) = prod l (Q.x - P.x) (Q.y - P.y) (Q.x - P.x) (Q.y - P.y) := by
      conv => rhs; rw [← hk1]
      rw [prod_lead]
      congr 1 <;> simp only [app, mv] <;> grind
    have eT : cmpI (crs ⟨(app (mv g) Q).x - (app (mv g) P).x, (app (mv g) Q).y - (app (mv g) P).y⟩ ⟨(app (mv g) R).x - (app (mv g) P).x, (app (mv g) R).y - (app (mv g) P).y⟩) 0 = det g * cmpI (crs ⟨Q.x - P.x, Q.y - P.y⟩ ⟨R.x - P.x, R.y - P.y⟩) 0 := by
      rw [← cmpI_sgn hpm]
      congr 1
      simp only [crs, app, mv, det]
      grind
    rw [eS] at vS
    rw [eT] at vT
    have hcs := cmpI_small (crs ⟨Q.x - P.x, Q.y - P.y⟩ ⟨R.x - P.x, R.y - P.y⟩) 0
    generalize prod l (Q.x - P.x) (Q.y - P.y) (Q.x - P.x) (Q.y - P.y) = sq at *
    generalize cmpI (crs ⟨Q.x - P.x, Q.y - P.y⟩ ⟨R.x - P.x, R.y - P.y⟩) 0 = sd at *
    obtain ⟨b, hb1, hb2⟩ := in_val (k + 1) L (ofM (inv g)) (by omega) (by omega)
    have ki : Keep l (inv g) := by
      have := lead_inv (l := l) hdd
      rw [hk1] at this
      exact this
    have hbt : b = true := hb2.2 ((hL _).2 (by rw [to_of]; exact ki))
    subst hbt
    obtain ⟨ga, gb, gc, gd⟩ := hb
    have p1 := mul_bd ga gd
    have p2 := mul_bd gb gc
    have ed : g.a * g.d - g.b * g.c = det g := rfl
    have hds : -1 ≤ det g * sd ∧ det g * sd ≤ 1 := by rcases hpm with h | h <;> rw [h] <;> omega
    simp only [torchonlaw06_GridsKeep.l0]
    rw [if_pos (by omega), if_pos (by omega), if_pos (by omega), hrd]
    have vM := refMatrix_val g
    rw [decide_eq_true hsm] at vM
    simp only [ofM]
    rw [vM]
    simp only [Option.bind_some, if_true]
    simp only [mv] at vP vQ vR vI
    rw [vP, vQ, vR]
    simp only [Option.bind_some]
    rw [w64 (n := g.a * g.d) (by omega) (by omega), w64 (n := g.b * g.c) (by omega) (by omega), w64 (n := g.a * g.d - g.b * g.c) (by omega) (by omega), ed]
    simp only [mv] at vS vT
    rw [vS]
    simp only [Option.bind_some]
    rw [vT]
    simp only [Option.bind_some]
    rw [vI]
    simp only [Option.bind_some, if_true]
    rw [w64 (by omega) (by omega)]
    simp only [if_true]
    simp only [ofM] at hb1
    simp only [invM]
    rw [hb1]
    simp only [Option.bind_some, Bool.not_true, torchonlaw06_GridsKeep.j3, Bool.false_eq_true, if_false]
    obtain ⟨k', h1, h2⟩ := keep_row l m P Q R L hv hL hlen sq sd (don.length : Int) (ofM g) (by omega) (by omega) hrd hs L [] k (by simp) (by omega)
    simp only [List.length_nil, Int.ofNat_zero] at h2
    have e3 : (((don ++ [ofM g]).length : Nat) : Int) = (don.length : Int) + 1 := by simp
    have h3 := ih (don ++ [ofM g]) k' (by rw [e]; simp) (by omega)
    rw [e3] at h3
    exact h2.trans h3
end
theorem GridsKeep (a0_0 a0_1 a0_2 a1_0 a1_1 a1_2 a1_3 a1_4 a1_5 a1_6 a1_7 a2_0 a2_1 a2_2 a2_3 : Int) (_h0 : ∀ x ∈ [a0_0, a0_1, a0_2], (Lit.int .i64 x).wf = true) (_h1 : ∀ x ∈ [a1_0, a1_1, a1_2, a1_3, a1_4, a1_5, a1_6, a1_7], (Lit.int .i64 x).wf = true) (_h2 : ∀ x ∈ [a2_0, a2_1, a2_2, a2_3], (Lit.int .i64 x).wf = true) :
    ∃ k, torchonlaw06_GridsKeep.f k a0_0 a0_1 a0_2 a1_0 a1_1 a1_2 a1_3 a1_4 a1_5 a1_6 a1_7 a2_0 a2_1 a2_2 a2_3 = some true := by
  obtain ⟨k, hk⟩ : ∃ k : Nat, 25000 ≤ k := ⟨25000, Nat.le_refl _⟩
  refine ⟨k + 2, ?_⟩
  obtain ⟨l, rfl, rfl, rfl⟩ : ∃ l : Lat, a0_0 = l.A ∧ a0_1 = l.B ∧ a0_2 = l.C := ⟨⟨a0_0, a0_1, a0_2⟩, rfl, rfl, rfl⟩
  obtain ⟨m, rfl, rfl, rfl, rfl⟩ : ∃ m : Mat, a2_0 = m.a ∧ a2_1 = m.b ∧ a2_2 = m.c ∧ a2_3 = m.d := ⟨⟨a2_0, a2_1, a2_2, a2_3⟩, rfl, rfl, rfl, rfl⟩
  unfold torchonlaw06_GridsKeep.f
  by_cases hv : Valid l
  · obtain ⟨L, hf, _, hL, hlen⟩ := Group_val hv
    rw [hf _ (by omega)]
    simp only [Option.bind_some, if_true]
    have J : torchonlaw06_GridsKeep.j0 (k + 2) L (L.length : Int) false l.A l.B l.C a1_0 a1_1 a1_2 a1_3 a1_4 a1_5 a1_6 a1_7 m.a m.b m.c m.d = some true := by
      simp only [torchonlaw06_GridsKeep.j0, Bool.false_eq_true, if_false]
      rw [near_val, near_val, near_val]
      simp only [Option.bind_some]
      have t2 := tmod_bd a1_2
      have t3 := tmod_bd a1_3
      have t4 := tmod_bd a1_4
      have t5 := tmod_bd a1_5
      have t6 := tmod_bd a1_6
      have t7 := tmod_bd a1_7
      obtain ⟨P, e2, e3⟩ : ∃ P : Vec, Int.tmod a1_2 11 = P.x ∧ Int.tmod a1_3 11 = P.y := ⟨⟨_, _⟩, rfl, rfl⟩
      obtain ⟨Q, e4, e5⟩ : ∃ P : Vec, Int.tmod a1_4 11 = P.x ∧ Int.tmod a1_5 11 = P.y := ⟨⟨_, _⟩, rfl, rfl⟩
      obtain ⟨R, e6, e7⟩ : ∃ P : Vec, Int.tmod a1_6 11 = P.x ∧ Int.tmod a1_7 11 = P.y := ⟨⟨_, _⟩, rfl, rfl⟩
      rw [e2, e3, e4, e5, e6, e7]
      rw [e2] at t2
      rw [e3] at t3
      rw [e4] at t4
      rw [e5] at t5
      rw [e6] at t6
      rw [e7] at t7
      have hP : Near P := ⟨t2, t3⟩
      have hQ : Near Q := ⟨t4, t5⟩
      have hR : Near R := ⟨t6, t7⟩
      rw [Square_val (k + 1) l P Q (by omega), Side_val (k + 1) P Q R (by omega), dotP_ok hv (near_ok hP) (near_ok hQ) (near_ok hQ), sideP_ok (near_ok hP) (near_ok hQ) (near_ok hR)]
      simp only [Option.bind_some, if_true, torchonlaw06_GridsKeep.j1, bne_self_eq_false, Bool.false_eq_true, if_false]
      exact keep_all l m P Q R L hv hL (by omega) hP hQ hR L [] k (by simp) (by omega)
    by_cases c2 : (L.length : Int) = 2
    · rw [if_pos c2]; exact J
    · rw [if_neg c2]
      by_cases c4 : (L.length : Int) = 4
      · rw [if_pos c4]; exact J
      · rw [if_neg c4]
        by_cases c8 : (L.length : Int) = 8
        · rw [if_pos c8]; exact J
        · rw [if_neg c8]
          have c12 : (L.length : Int) = 12 := by omega
          have : ((L.length : Int) != 12) = false := by rw [c12]; rfl
          rw [this]
          exact J
  · rw [Group_err _ l hv (by omega)]
    simp only [Option.bind_some]
    rw [if_neg (by omega), if_pos (by simp), gcheck_val _ l (by omega), if_neg hv, awake_val _ (by omega)]
    simp
end Go.Proofs.Ytmcajdepoohlhaa.Pure
