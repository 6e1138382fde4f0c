/- Functions of the program as plain Lean functions, and their contracts (printed by a program of this session). No condition beyond what each states. -/
import Derived.Test.YtmcajdepoohlhaaCMovesY
import Derived.Test.YtmcajdepoohlhaaCMovesP0
import Derived.Test.YtmcajdepoohlhaaCMovesP2
import Derived.Test.YtmcajdepoohlhaaCMovesP1
namespace Go.Proofs.Ytmcajdepoohlhaa.G
open Go.RowKit Go.Proofs.YtmcajdepoohlhaaW.PrintWords Go.Proofs.YtmcajdepoohlhaaW.PrintLast Go.Proofs.YtmcajdepoohlhaaW.PrintMore
attribute [local go_sem] max2_int min2_int max_two min_two max_three min_three max_four min_four
set_option linter.unusedVariables false
set_option linter.unusedSimpArgs false
section
/-! ### torchonref06_Compose: function 30 -/
def torchonref06_Compose.j0 : Nat → Bool → Int → Int → Int → Int → Int → Int → Int → Int → Int → Int → Int → Int → Option (Int × Int × Int × Int × Int × Int × Int)
  | 0, _, _, _, _, _, _, _, _, _, _, _, _, _ => none
  | k + 1, x14, x907000, x907001, x907002, x907003, x907004, x907005, x908000, x908001, x908002, x908003, x908004, x908005 => if x14 = true then (some (0, 0, 0, 0, 0, 0, 2)) else ((torchonref06_Times.f x907000 x907001 x907002 x907003 x908000 x908001 x908002 x908003).bind fun bt911 => ((torchonref06_apply.f x907000 x907001 x907002 x907003 x907004 x907005 x908004 x908005).bind fun bt915 => ((torchonref06_move.f bt911.1 bt911.2.1 bt911.2.2.1 bt911.2.2.2 bt915.1 bt915.2).bind fun t918 => (if t918 = true then (some (bt911.1, bt911.2.1, bt911.2.2.1, bt911.2.2.2, bt915.1, bt915.2, 0)) else (some (0, 0, 0, 0, 0, 0, 7))))))
def torchonref06_Compose.f (k : Nat) (a0_0 : Int) (a0_1 : Int) (a0_2 : Int) (a0_3 : Int) (a0_4 : Int) (a0_5 : Int) (a1_0 : Int) (a1_1 : Int) (a1_2 : Int) (a1_3 : Int) (a1_4 : Int) (a1_5 : Int) : Option (Int × Int × Int × Int × Int × Int × Int) := (torchonref06_move.f a0_0 a0_1 a0_2 a0_3 a0_4 a0_5).bind fun t909 => (if t909 = true then ((torchonref06_move.f a1_0 a1_1 a1_2 a1_3 a1_4 a1_5).bind fun t910 => (torchonref06_Compose.j0 k (!t910) a0_0 a0_1 a0_2 a0_3 a0_4 a0_5 a1_0 a1_1 a1_2 a1_3 a1_4 a1_5)) else (torchonref06_Compose.j0 k true a0_0 a0_1 a0_2 a0_3 a0_4 a0_5 a1_0 a1_1 a1_2 a1_3 a1_4 a1_5))
theorem torchonref06_Compose.mono_l : ∀ k, (∀ y0 y1 y2 y3 y4 y5 y6 y7 y8 y9 y10 y11 y12, LeO (torchonref06_Compose.j0 k y0 y1 y2 y3 y4 y5 y6 y7 y8 y9 y10 y11 y12) (torchonref06_Compose.j0 (k + 1) y0 y1 y2 y3 y4 y5 y6 y7 y8 y9 y10 y11 y12))
  | 0 => fun _ _ _ _ _ _ _ _ _ _ _ _ _ r h => by simp [torchonref06_Compose.j0] at h
  | k + 1 => by
    have ih0 := torchonref06_Compose.mono_l k
    · intro y0 y1 y2 y3 y4 y5 y6 y7 y8 y9 y10 y11 y12
      unfold torchonref06_Compose.j0
      repeat' first
      | (with_reducible exact ih0 _ _ _ _ _ _ _ _ _ _ _ _ _)
      | (with_reducible exact LeO.refl _)
      | (with_reducible exact LeO.none _)
      | (with_reducible refine LeO.ite ?_ ?_)
      | (with_reducible refine LeO.bind ?_ (fun _ => ?_))
      | exact ih0 _ _ _ _ _ _ _ _ _ _ _ _ _
      | exact LeO.none _
      | refine LeO.ite ?_ ?_
      | refine LeO.bind ?_ (fun _ => ?_)
theorem torchonref06_Compose.mono : ∀ a0 a1 a2 a3 a4 a5 a6 a7 a8 a9 a10 a11 k, LeO (torchonref06_Compose.f k a0 a1 a2 a3 a4 a5 a6 a7 a8 a9 a10 a11) (torchonref06_Compose.f (k + 1) a0 a1 a2 a3 a4 a5 a6 a7 a8 a9 a10 a11) := by
  intro a0 a1 a2 a3 a4 a5 a6 a7 a8 a9 a10 a11 k
  have ih0 := torchonref06_Compose.mono_l k
  unfold torchonref06_Compose.f
  repeat' first
      | (with_reducible exact ih0 _ _ _ _ _ _ _ _ _ _ _ _ _)
      | (with_reducible exact LeO.refl _)
      | (with_reducible exact LeO.none _)
      | (with_reducible refine LeO.ite ?_ ?_)
      | (with_reducible refine LeO.bind ?_ (fun _ => ?_))
      | exact ih0 _ _ _ _ _ _ _ _ _ _ _ _ _
      | exact LeO.none _
      | refine LeO.ite ?_ ?_
      | refine LeO.bind ?_ (fun _ => ?_)
def torchonref06_Compose.T3 : Bool × List (List Nat × List Nat) := (true, [([], []), ([0], [0]), ([], []), ([2], [2]), ([1, 3], [1, 3]), ([], []), ([], []), ([6], [6]), ([5, 7, 4], [5, 7]), ([4, 8], [4, 8]), ([], []), ([10, 9, 8, 0, 1, 2, 3, 4, 5, 6, 7, 8, 9, 10], [9, 10])])
def torchonref06_Compose.B3 : List Nat := [0, 1, 0, 4, 15, 0, 0, 64, 255, 511, 0, 2047]
theorem torchonref06_Compose.tab3 : rtab .any (opsOf Try.f30 3) = torchonref06_Compose.T3 := by kernel_rfl
theorem torchonref06_Compose.bits3 : waitsOk torchonref06_Compose.T3.2 torchonref06_Compose.B3 = true := by kernel_rfl
set_option maxHeartbeats 8000000 in
set_option maxRecDepth 100000 in
theorem torchonref06_Compose.calls (k : Nat) (a0_0 : Int) (a0_1 : Int) (a0_2 : Int) (a0_3 : Int) (a0_4 : Int) (a0_5 : Int) (a1_0 : Int) (a1_1 : Int) (a1_2 : Int) (a1_3 : Int) (a1_4 : Int) (a1_5 : Int) (r1 : Int) (r2 : Int) (r3 : Int) (r4 : Int) (r5 : Int) (r6 : Int) (r7 : Int) (w : World) (h : torchonref06_Compose.f k a0_0 a0_1 a0_2 a0_3 a0_4 a0_5 a1_0 a1_1 a1_2 a1_3 a1_4 a1_5 = some (r1, r2, r3, r4, r5, r6, r7)) :
    Calls Try.prog 30 #[.agg #[.int .i64 a0_0, .int .i64 a0_1, .int .i64 a0_2, .int .i64 a0_3, .int .i64 a0_4, .int .i64 a0_5], .agg #[.int .i64 a1_0, .int .i64 a1_1, .int .i64 a1_2, .int .i64 a1_3, .int .i64 a1_4, .int .i64 a1_5]] w fun e w' => e = .returned (.tuple #[.agg #[.int .i64 r1, .int .i64 r2, .int .i64 r3, .int .i64 r4, .int .i64 r5, .int .i64 r6], .int .i64 r7]) ∧ Below w.heap.size w w' := by
  have hu55 := Try.underlying55
  have hu25 := Try.underlying25
  have hu37 := Try.underlying37
  have HB := Aside0.mk (Below.refl w.heap.size w)
  have H : ((torchonref06_move.f a0_0 a0_1 a0_2 a0_3 a0_4 a0_5).bind fun t909 => (if t909 = true then ((torchonref06_move.f a1_0 a1_1 a1_2 a1_3 a1_4 a1_5).bind fun t910 => (torchonref06_Compose.j0 k (!t910) a0_0 a0_1 a0_2 a0_3 a0_4 a0_5 a1_0 a1_1 a1_2 a1_3 a1_4 a1_5)) else (torchonref06_Compose.j0 k true a0_0 a0_1 a0_2 a0_3 a0_4 a0_5 a1_0 a1_1 a1_2 a1_3 a1_4 a1_5))) = some (r1, r2, r3, r4, r5, r6, r7) := h
  clear h
  have HC3 := Aside0.mk H
  clear H
  go_enter Try.func30, Try.ntmps30
  go_upto_region 1 with (first | ((with_reducible refine gate_dst (N := 2) rfl ?_); refine bx 2 #[.int .i64 a0_0, .int .i64 a0_1, .int .i64 a0_2, .int .i64 a0_3, .int .i64 a0_4, .int .i64 a0_5] 55 fun gb906 hg w4 BK906 hb => ?_; have GW906 := gw hg HB; have GE906 := gw hg HB; replace HB := bst HB hb; clear hb hg) | ((with_reducible refine gate_dst (N := 3) rfl ?_); refine bx 3 #[.int .i64 a1_0, .int .i64 a1_1, .int .i64 a1_2, .int .i64 a1_3, .int .i64 a1_4, .int .i64 a1_5] 55 fun gb907 hg w5 BK907 hb => ?_; have GW907 := gw hg HB; have GE907 := gw hg HB; have NB906_907 := nlt hg BK906; have NB907_906 := ngt hg BK906; replace BK906 := bb BK906 hb; replace HB := bst HB hb; clear hb hg) | ((with_reducible refine gate_dst (N := 4) rfl ?_); refine bx 4 #[.int .i64 0, .int .i64 0, .int .i64 0, .int .i64 0, .int .i64 0, .int .i64 0] 55 fun gb908 hg w6 BK908 hb => ?_; have GW908 := gw hg HB; have GE908 := gw hg HB; have NB906_908 := nlt hg BK906; have NB908_906 := ngt hg BK906; have NB907_908 := nlt hg BK907; have NB908_907 := ngt hg BK907; replace BK906 := bb BK906 hb; replace BK907 := bb BK907 hb; replace HB := bst HB hb; clear hb hg))
  (try simp only [Act.put, List.setIfInBounds_toArray, List.set_cons_zero, List.set_cons_succ])
  go_cut [14] (fun v14 wc => ∃ (kq : Nat) (x14_2 : Bool), v14 = .bool x14_2 ∧ Aside0 (torchonref06_Compose.j0 kq x14_2 a0_0 a0_1 a0_2 a0_3 a0_4 a0_5 a1_0 a1_1 a1_2 a1_3 a1_4 a1_5 = some (r1, r2, r3, r4, r5, r6, r7)) ∧ Aside0 (kq ≤ k) ∧ Aside0 (wc.heap[gb906]? = some (.cells #[.int .i64 a0_0, .int .i64 a0_1, .int .i64 a0_2, .int .i64 a0_3, .int .i64 a0_4, .int .i64 a0_5] 55 (0, 0))) ∧ Aside0 (wc.heap[gb907]? = some (.cells #[.int .i64 a1_0, .int .i64 a1_1, .int .i64 a1_2, .int .i64 a1_3, .int .i64 a1_4, .int .i64 a1_5] 55 (0, 0))) ∧ Aside0 (wc.heap[gb908]? = some (.cells #[.int .i64 0, .int .i64 0, .int .i64 0, .int .i64 0, .int .i64 0, .int .i64 0] 55 (0, 0))) ∧ Aside0 (Below w.heap.size w wc))
  case first =>
    have H := HC3.out
    clear HC3
    obtain ⟨t909, A7, H⟩ := ob H
    by_cases c8 : t909 = true
    · subst c8
      have H1 : ((torchonref06_move.f a1_0 a1_1 a1_2 a1_3 a1_4 a1_5).bind fun t910 => (torchonref06_Compose.j0 k (!t910) a0_0 a0_1 a0_2 a0_3 a0_4 a0_5 a1_0 a1_1 a1_2 a1_3 a1_4 a1_5)) = some (r1, r2, r3, r4, r5, r6, r7) := by rw [if_pos rfl] at H; exact H
      clear H
      have H := H1
      clear H1
      obtain ⟨t910, A9, H⟩ := ob H
      have H' := Aside0.mk H
      clear H
      have hnb10 := NB906_907.out
      have hnc10 := NB907_906.out
      have hnb11 := NB906_908.out
      have hnc11 := NB908_906.out
      have ⟨hcz12_0, hcz12_1, hcz12_2, hcz12_3, hcz12_4, hcz12_5, hfz12_0, hfz12_1, hfz12_2, hfz12_3, hfz12_4, hfz12_5⟩ := cf6 BK906
      go_wp2_with (first | ((with_reducible refine gate_callee (f := 64) rfl ?_); refine gl 8 Try.func64 (torchonref06_move.calls a0_0 a0_1 a0_2 a0_3 a0_4 a0_5 true _ A7.out) ?_; rintro e w13 ⟨rfl, hb⟩; refine ⟨_, rfl, ?_⟩; replace BK906 := bb BK906 hb; replace BK907 := bb BK907 hb; replace BK908 := bb BK908 hb; replace HB := bst HB hb; clear hb; have hnb14 := NB907_908.out; have hnc14 := NB908_907.out; have ⟨hcz15_0, hcz15_1, hcz15_2, hcz15_3, hcz15_4, hcz15_5, hfz15_0, hfz15_1, hfz15_2, hfz15_3, hfz15_4, hfz15_5⟩ := cf6 BK907) | (go_at_call 64; (with_reducible refine (torchonref06_move.calls a1_0 a1_1 a1_2 a1_3 a1_4 a1_5 t910 _ A9.out).mono ?_); rintro e w16 ⟨rfl, hb⟩; replace BK906 := bb BK906 hb; replace BK907 := bb BK907 hb; replace BK908 := bb BK908 hb; replace HB := bst HB hb; clear hb))
      go_meet
      case rel => exact ⟨_, (!t910), (by first | rfl | (simp; done) | (simp [*]; done)), H', ⟨by first | omega | exact Nat.le_refl _⟩, ⟨pk BK906⟩, ⟨pk BK907⟩, ⟨pk BK908⟩, ⟨bnow HB⟩⟩
    · replace c8 := Bool.eq_false_iff.mpr c8
      subst c8
      have H1 : (torchonref06_Compose.j0 k true a0_0 a0_1 a0_2 a0_3 a0_4 a0_5 a1_0 a1_1 a1_2 a1_3 a1_4 a1_5) = some (r1, r2, r3, r4, r5, r6, r7) := by rw [if_neg (show ¬ (false = true) by decide)] at H; exact H
      clear H
      have H := H1
      clear H1
      have H' := Aside0.mk H
      clear H
      have hnb17 := NB906_907.out
      have hnc17 := NB907_906.out
      have hnb18 := NB906_908.out
      have hnc18 := NB908_906.out
      have ⟨hcz19_0, hcz19_1, hcz19_2, hcz19_3, hcz19_4, hcz19_5, hfz19_0, hfz19_1, hfz19_2, hfz19_3, hfz19_4, hfz19_5⟩ := cf6 BK906
      go_wp2_with (first | ((with_reducible refine gate_callee (f := 64) rfl ?_); refine gl 8 Try.func64 (torchonref06_move.calls a0_0 a0_1 a0_2 a0_3 a0_4 a0_5 false _ A7.out) ?_; rintro e w20 ⟨rfl, hb⟩; refine ⟨_, rfl, ?_⟩; replace BK906 := bb BK906 hb; replace BK907 := bb BK907 hb; replace BK908 := bb BK908 hb; replace HB := bst HB hb; clear hb))
      go_meet
      case rel => exact ⟨_, (true), (by first | rfl | (simp; done) | (simp [*]; done)), H', ⟨by first | omega | exact Nat.le_refl _⟩, ⟨pk BK906⟩, ⟨pk BK907⟩, ⟨pk BK908⟩, ⟨bnow HB⟩⟩
  case rest =>
    clear HC3
    try clear c1; try clear p2; try clear c3; try clear c6; try clear c8; try clear c10; try clear c11; try clear c14; try clear c17; try clear c18; try clear hcz12_0; try clear hcz12_1; try clear hcz12_2; try clear hcz12_3; try clear hcz12_4; try clear hcz12_5; try clear hcz15_0; try clear hcz15_1; try clear hcz15_2; try clear hcz15_3; try clear hcz15_4; try clear hcz15_5; try clear hcz19_0; try clear hcz19_1; try clear hcz19_2; try clear hcz19_3; try clear hcz19_4; try clear hcz19_5; try clear hfz12_0; try clear hfz12_1; try clear hfz12_2; try clear hfz12_3; try clear hfz12_4; try clear hfz12_5; try clear hfz15_0; try clear hfz15_1; try clear hfz15_2; try clear hfz15_3; try clear hfz15_4; try clear hfz15_5; try clear hfz19_0; try clear hfz19_1; try clear hfz19_2; try clear hfz19_3; try clear hfz19_4; try clear hfz19_5
    obtain ⟨kq, x14_2, rfl, HA, HJ2, BK906, BK907, BK908, HB⟩ := hcut
    cases kq with
    | zero => exact absurd HA.out (by simp [torchonref06_Compose.j0])
    | succ kj2 =>
      have H := HA.out
      clear HA
      simp only [torchonref06_Compose.j0] at H
      by_cases c21 : x14_2 = true
      · subst c21
        have H1 : (some (0, 0, 0, 0, 0, 0, 2)) = some (r1, r2, r3, r4, r5, r6, r7) := by rw [if_pos rfl] at H; exact H
        clear H
        have H := H1
        clear H1
        simp only [Option.some.injEq, Prod.mk.injEq] at H
        obtain ⟨rfl, rfl, rfl, rfl, rfl, rfl, rfl⟩ := H
        have hnb22 := NB908_906.out
        have hnc22 := NB906_908.out
        have hnb23 := NB908_907.out
        have hnc23 := NB907_908.out
        have ⟨hcz24_0, hcz24_1, hcz24_2, hcz24_3, hcz24_4, hcz24_5, hfz24_0, hfz24_1, hfz24_2, hfz24_3, hfz24_4, hfz24_5⟩ := cf6 BK908
        go_wp2_with (first | ((with_reducible refine gate_store (t := 55) (p := 4) rfl ?_); refine sx 55 4 (((((((wc.setCell ⟨gb908, 0, none⟩ (.int .i64 0)).setCell ⟨gb908, 1, none⟩ (.int .i64 0)).setCell ⟨gb908, 2, none⟩ (.int .i64 0)).setCell ⟨gb908, 3, none⟩ (.int .i64 0)).setCell ⟨gb908, 4, none⟩ (.int .i64 0)).setCell ⟨gb908, 5, none⟩ (.int .i64 0))) fun w25 hw => ?_; replace BK906 := fw hw BK906; replace BK907 := fw hw BK907; replace BK908 := pw6 hw BK908; replace HB := bw hw HB; clear hw))
        refine bodyPost_ret (results_ct rfl _ _ gb908 55 #[.int .i64 0, .int .i64 0, .int .i64 0, .int .i64 0, .int .i64 0, .int .i64 0] (0, 0) _ rfl (pk BK908) Try.underlying55 rfl (by kernel_rfl)) rfl ?_
        exact rt HB
      · replace c21 := Bool.eq_false_iff.mpr c21
        subst c21
        have H1 : ((torchonref06_Times.f a0_0 a0_1 a0_2 a0_3 a1_0 a1_1 a1_2 a1_3).bind fun bt911 => ((torchonref06_apply.f a0_0 a0_1 a0_2 a0_3 a0_4 a0_5 a1_4 a1_5).bind fun bt915 => ((torchonref06_move.f bt911.1 bt911.2.1 bt911.2.2.1 bt911.2.2.2 bt915.1 bt915.2).bind fun t918 => (if t918 = true then (some (bt911.1, bt911.2.1, bt911.2.2.1, bt911.2.2.2, bt915.1, bt915.2, 0)) else (some (0, 0, 0, 0, 0, 0, 7)))))) = some (r1, r2, r3, r4, r5, r6, r7) := by rw [if_neg (show ¬ (false = true) by decide)] at H; exact H
        clear H
        have H := H1
        clear H1
        obtain ⟨⟨t911, t912, t913, t914⟩, A26, H⟩ := ob H
        obtain ⟨⟨t915, t916⟩, A27, H⟩ := ob H
        obtain ⟨t918, A28, H⟩ := ob H
        by_cases c29 : t918 = true
        · subst c29
          have H1 : (some (t911, t912, t913, t914, t915, t916, 0)) = some (r1, r2, r3, r4, r5, r6, r7) := by rw [if_pos rfl] at H; exact H
          clear H
          have H := H1
          clear H1
          simp only [Option.some.injEq, Prod.mk.injEq] at H
          obtain ⟨rfl, rfl, rfl, rfl, rfl, rfl, rfl⟩ := H
          try go_wp2
          replace BK906 := bd BK906
          replace BK907 := bd BK907
          replace BK908 := bd BK908
          replace HB := bdn HB
          refine start_ (n := 12) (S := fun w' => True) (ds := []) #[false, false, false, false, false, false, false, false, false, false, false, false] (by kernel_rfl) rfl rfl trivial (fun hHeld => ?_); refine with_tabW torchonref06_Compose.tab3 torchonref06_Compose.bits3 (fun HT_ HW_ => ?_)
          generalize wc.drew = w30 at BK906 BK907 BK908 HB hHeld ⊢
          refine pz 0 16 HT_ ?_
          refine pz 2 18 HT_ ?_
          refine pz 6 22 HT_ ?_
          refine inv_at [1, 3, 4, 5, 7, 8, 9, 10, 11] (fun a0_ b a w' => ∃ (gb917 : Nat) (m10_ : Value), a = putSel a0_ b [(1, 17, .agg #[.int .i64 a0_0, .int .i64 a0_1, .int .i64 a0_2, .int .i64 a0_3]), (3, 19, .agg #[.int .i64 a1_0, .int .i64 a1_1, .int .i64 a1_2, .int .i64 a1_3]), (4, 20, .agg #[.int .i64 t911, .int .i64 t912, .int .i64 t913, .int .i64 t914]), (5, 21, .agg #[.int .i64 a0_0, .int .i64 a0_1, .int .i64 a0_2, .int .i64 a0_3, .int .i64 a0_4, .int .i64 a0_5]), (7, 23, .agg #[.int .i64 a1_4, .int .i64 a1_5]), (8, 24, .agg #[.int .i64 t915, .int .i64 t916]), (9, 25, .agg #[.int .i64 t911, .int .i64 t912, .int .i64 t913, .int .i64 t914, .int .i64 t915, .int .i64 t916]), (10, 6, m10_)] ∧ (w'.heap[gb906]? = some (.cells #[.int .i64 a0_0, .int .i64 a0_1, .int .i64 a0_2, .int .i64 a0_3, .int .i64 a0_4, .int .i64 a0_5] 55 (0, 0))) ∧ (w'.heap[gb907]? = some (.cells #[.int .i64 a1_0, .int .i64 a1_1, .int .i64 a1_2, .int .i64 a1_3, .int .i64 a1_4, .int .i64 a1_5] 55 (0, 0))) ∧ (w'.heap[gb908]? = some (.cells #[.int .i64 0, .int .i64 0, .int .i64 0, .int .i64 0, .int .i64 0, .int .i64 0] 55 (0, 0))) ∧ (Below w.heap.size w w') ∧ (b 10 = true → b 11 = false → w'.heap[gb917]? = some (.cells #[.int .i64 0, .int .i64 0, .int .i64 0, .int .i64 0, .int .i64 0, .int .i64 0] 55 (0, 0))) ∧ (b 10 = true → w.heap.size ≤ gb917) ∧ (b 10 = true → w.heap.size ≤ gb917) ∧ (b 10 = true → gb906 ≠ gb917) ∧ (b 10 = true → gb917 ≠ gb906) ∧ (b 10 = true → gb907 ≠ gb917) ∧ (b 10 = true → gb917 ≠ gb907) ∧ (b 10 = true → gb908 ≠ gb917) ∧ (b 10 = true → gb917 ≠ gb908) ∧ (b 11 = true → w'.heap[gb917]? = some (.cells #[.int .i64 t911, .int .i64 t912, .int .i64 t913, .int .i64 t914, .int .i64 t915, .int .i64 t916] 55 (0, 0))) ∧ (b 10 = true → (m10_ : Value) = .pointer (some ⟨gb917, 0, none⟩))) HT_.out HW_.out (by kernel_rfl) (by kernel_rfl) ?_ ?_ ?_
          · exact ⟨0, .bool false, by simp only [putSel, Bool.false_eq_true, if_false], BK906.out, BK907.out, BK908.out, HB.out, fun h_ => absurd h_ (by decide), fun h_ => absurd h_ (by decide), fun h_ => absurd h_ (by decide), fun h_ => absurd h_ (by decide), fun h_ => absurd h_ (by decide), fun h_ => absurd h_ (by decide), fun h_ => absurd h_ (by decide), fun h_ => absurd h_ (by decide), fun h_ => absurd h_ (by decide), fun h_ => absurd h_ (by decide), fun h_ => absurd h_ (by decide)⟩
          · skip
            clear BK906 BK907 BK908 HB
            refine steps_cons ?_ ?_
            · rintro b a w' ⟨gb917, m10_, ha, Q_BK906, Q_BK907, Q_BK908, Q_HB, Q_BK917, Q_GW917, Q_GE917, Q_NB906_917, Q_NB917_906, Q_NB907_917, Q_NB917_907, Q_NB908_917, Q_NB917_908, Q_BK917_e11, Q_X10_⟩ hb_ hon hoff
              refine ⟨_, rfl, fun K hK => ?_⟩
              have e16 : a.tmps[16]? = some (.pointer (some ⟨gb906, 0, none⟩)) := by rw [ha]; exact (putSel_off rfl).trans rfl
              replace ha := Aside0.mk ha
              have BK906 := Aside0.mk Q_BK906
              have BK907 := Aside0.mk Q_BK907
              have BK908 := Aside0.mk Q_BK908
              have HB := Aside0.mk Q_HB
              have hc0_ : w'.cell? ⟨gb906, 0, none⟩ = some (.int .i64 a0_0) := (blk_cell BK906.out 0).trans rfl
              have hc1_ : w'.cell? ⟨gb906, 1, none⟩ = some (.int .i64 a0_1) := (blk_cell BK906.out 1).trans rfl
              have hc2_ : w'.cell? ⟨gb906, 2, none⟩ = some (.int .i64 a0_2) := (blk_cell BK906.out 2).trans rfl
              have hc3_ : w'.cell? ⟨gb906, 3, none⟩ = some (.int .i64 a0_3) := (blk_cell BK906.out 3).trans rfl
              have hc4_ : w'.cell? ⟨gb906, 4, none⟩ = some (.int .i64 a0_4) := (blk_cell BK906.out 4).trans rfl
              have hc5_ : w'.cell? ⟨gb906, 5, none⟩ = some (.int .i64 a0_5) := (blk_cell BK906.out 5).trans rfl
              refine value_ (w1 := w') (v := .agg #[.int .i64 a0_0, .int .i64 a0_1, .int .i64 a0_2, .int .i64 a0_3]) (by rfl) rfl ?_ ?_
              · go_simp
                (try simp only [i64_w])
                try rfl
              refine hK.out _ _ ⟨gb917, m10_, (by rw [ha.out]; exact putSel_upk 0 hb_ rfl rfl rfl), Q_BK906, Q_BK907, Q_BK908, Q_HB, Q_BK917, Q_GW917, Q_GE917, Q_NB906_917, Q_NB917_906, Q_NB907_917, Q_NB917_907, Q_NB908_917, Q_NB917_908, fun h0_ => absurd ((hoff 11 (by kernel_rfl)).symm.trans h0_) (by decide), Q_X10_⟩
            refine steps_cons ?_ ?_
            · rintro b a w' ⟨gb917, m10_, ha, Q_BK906, Q_BK907, Q_BK908, Q_HB, Q_BK917, Q_GW917, Q_GE917, Q_NB906_917, Q_NB917_906, Q_NB907_917, Q_NB917_907, Q_NB908_917, Q_NB917_908, Q_BK917_e11, Q_X10_⟩ hb_ hon hoff
              refine ⟨_, rfl, fun K hK => ?_⟩
              have e18 : a.tmps[18]? = some (.pointer (some ⟨gb907, 0, none⟩)) := by rw [ha]; exact (putSel_off rfl).trans rfl
              replace ha := Aside0.mk ha
              have BK906 := Aside0.mk Q_BK906
              have BK907 := Aside0.mk Q_BK907
              have BK908 := Aside0.mk Q_BK908
              have HB := Aside0.mk Q_HB
              have hc0_ : w'.cell? ⟨gb907, 0, none⟩ = some (.int .i64 a1_0) := (blk_cell BK907.out 0).trans rfl
              have hc1_ : w'.cell? ⟨gb907, 1, none⟩ = some (.int .i64 a1_1) := (blk_cell BK907.out 1).trans rfl
              have hc2_ : w'.cell? ⟨gb907, 2, none⟩ = some (.int .i64 a1_2) := (blk_cell BK907.out 2).trans rfl
              have hc3_ : w'.cell? ⟨gb907, 3, none⟩ = some (.int .i64 a1_3) := (blk_cell BK907.out 3).trans rfl
              have hc4_ : w'.cell? ⟨gb907, 4, none⟩ = some (.int .i64 a1_4) := (blk_cell BK907.out 4).trans rfl
              have hc5_ : w'.cell? ⟨gb907, 5, none⟩ = some (.int .i64 a1_5) := (blk_cell BK907.out 5).trans rfl
              refine value_ (w1 := w') (v := .agg #[.int .i64 a1_0, .int .i64 a1_1, .int .i64 a1_2, .int .i64 a1_3]) (by rfl) rfl ?_ ?_
              · go_simp
                (try simp only [i64_w])
                try rfl
              refine hK.out _ _ ⟨gb917, m10_, (by rw [ha.out]; exact putSel_upk 1 hb_ rfl rfl rfl), Q_BK906, Q_BK907, Q_BK908, Q_HB, Q_BK917, Q_GW917, Q_GE917, Q_NB906_917, Q_NB917_906, Q_NB907_917, Q_NB917_907, Q_NB908_917, Q_NB917_908, fun h0_ => absurd ((hoff 11 (by kernel_rfl)).symm.trans h0_) (by decide), Q_X10_⟩
            refine steps_cons ?_ ?_
            · rintro b a w' ⟨gb917, m10_, ha, Q_BK906, Q_BK907, Q_BK908, Q_HB, Q_BK917, Q_GW917, Q_GE917, Q_NB906_917, Q_NB917_906, Q_NB907_917, Q_NB917_907, Q_NB908_917, Q_NB917_908, Q_BK917_e11, Q_X10_⟩ hb_ hon hoff
              refine ⟨_, rfl, fun K hK => ?_⟩
              have e17 : a.tmps[17]? = some (.agg #[.int .i64 a0_0, .int .i64 a0_1, .int .i64 a0_2, .int .i64 a0_3]) := by rw [ha]; exact putSel_on (e := (1, 17, .agg #[.int .i64 a0_0, .int .i64 a0_1, .int .i64 a0_2, .int .i64 a0_3])) 0 rfl rfl (hon 1 (by kernel_rfl)) rfl
              have e19 : a.tmps[19]? = some (.agg #[.int .i64 a1_0, .int .i64 a1_1, .int .i64 a1_2, .int .i64 a1_3]) := by rw [ha]; exact putSel_on (e := (3, 19, .agg #[.int .i64 a1_0, .int .i64 a1_1, .int .i64 a1_2, .int .i64 a1_3])) 1 rfl rfl (hon 3 (by kernel_rfl)) rfl
              replace ha := Aside0.mk ha
              have BK906 := Aside0.mk Q_BK906
              have BK907 := Aside0.mk Q_BK907
              have BK908 := Aside0.mk Q_BK908
              have HB := Aside0.mk Q_HB
              refine goes_ Try.func37 (by kernel_rfl) rfl #[.agg #[.int .i64 a0_0, .int .i64 a0_1, .int .i64 a0_2, .int .i64 a0_3], .agg #[.int .i64 a1_0, .int .i64 a1_1, .int .i64 a1_2, .int .i64 a1_3]] (by rfl) rfl rfl (by first | (simp only [List.map_toArray, List.map_cons, List.map_nil, Act.eval, Array.getD_eq_getD_getElem?, Option.getD_some, e17, e19]; done) | (simp only [List.map_toArray, List.map_cons, List.map_nil, Act.eval, Array.getD_eq_getD_getElem?, Option.getD_some, e17, e19]; rfl)) ?_
              with_reducible refine (torchonref06_Times.calls a0_0 a0_1 a0_2 a0_3 a1_0 a1_1 a1_2 a1_3 t911 t912 t913 t914 _ A26.out).mono ?_
              rintro e w31 ⟨rfl, hb⟩
              refine ⟨_, rfl, ?_⟩
              have n0_ := bb BK906 hb
              have n1_ := bb BK907 hb
              have n2_ := bb BK908 hb
              have n3_ := bst HB hb
              have z_BK917 := fun (h0_ : b 10 = true) (h1_ : b 11 = false) => (show w31.heap[gb917]? = some (.cells #[.int .i64 0, .int .i64 0, .int .i64 0, .int .i64 0, .int .i64 0, .int .i64 0] 55 (0, 0)) from by first | exact (blk_below (g := gb917) (o := .cells #[.int .i64 0, .int .i64 0, .int .i64 0, .int .i64 0, .int .i64 0, .int .i64 0] 55 (0, 0)) (by (with_reducible repeat (first | refine blk_drewN ?_ _ | refine blk_drew ?_ | refine blk_alloc ?_ _)); exact (Q_BK917 h0_ h1_)) hb))
              clear BK906
              clear BK907
              clear BK908
              clear HB
              have BK906 := n0_
              have BK907 := n1_
              have BK908 := n2_
              have HB := n3_
              clear n0_ n1_ n2_ n3_
              (try clear hb)
              (try clear hb2)
              (try clear hk)
              (try clear hi)
              refine hK.out _ _ ⟨gb917, m10_, (by rw [ha.out]; exact putSel_upk 2 hb_ rfl rfl rfl), (pk BK906), (pk BK907), (pk BK908), (bnow HB), z_BK917, Q_GW917, Q_GE917, Q_NB906_917, Q_NB917_906, Q_NB907_917, Q_NB917_907, Q_NB908_917, Q_NB917_908, fun h0_ => absurd ((hoff 11 (by kernel_rfl)).symm.trans h0_) (by decide), Q_X10_⟩
            refine steps_cons ?_ ?_
            · rintro b a w' ⟨gb917, m10_, ha, Q_BK906, Q_BK907, Q_BK908, Q_HB, Q_BK917, Q_GW917, Q_GE917, Q_NB906_917, Q_NB917_906, Q_NB907_917, Q_NB917_907, Q_NB908_917, Q_NB917_908, Q_BK917_e11, Q_X10_⟩ hb_ hon hoff
              refine ⟨_, rfl, fun K hK => ?_⟩
              have e2 : a.tmps[2]? = some (.pointer (some ⟨gb906, 0, none⟩)) := by rw [ha]; exact (putSel_off rfl).trans rfl
              replace ha := Aside0.mk ha
              have BK906 := Aside0.mk Q_BK906
              have BK907 := Aside0.mk Q_BK907
              have BK908 := Aside0.mk Q_BK908
              have HB := Aside0.mk Q_HB
              have hc0_ : w'.cell? ⟨gb906, 0, none⟩ = some (.int .i64 a0_0) := (blk_cell BK906.out 0).trans rfl
              have hc1_ : w'.cell? ⟨gb906, 1, none⟩ = some (.int .i64 a0_1) := (blk_cell BK906.out 1).trans rfl
              have hc2_ : w'.cell? ⟨gb906, 2, none⟩ = some (.int .i64 a0_2) := (blk_cell BK906.out 2).trans rfl
              have hc3_ : w'.cell? ⟨gb906, 3, none⟩ = some (.int .i64 a0_3) := (blk_cell BK906.out 3).trans rfl
              have hc4_ : w'.cell? ⟨gb906, 4, none⟩ = some (.int .i64 a0_4) := (blk_cell BK906.out 4).trans rfl
              have hc5_ : w'.cell? ⟨gb906, 5, none⟩ = some (.int .i64 a0_5) := (blk_cell BK906.out 5).trans rfl
              refine value_ (w1 := w') (v := .agg #[.int .i64 a0_0, .int .i64 a0_1, .int .i64 a0_2, .int .i64 a0_3, .int .i64 a0_4, .int .i64 a0_5]) (by rfl) rfl ?_ ?_
              · go_simp
                (try simp only [i64_w])
                try rfl
              refine hK.out _ _ ⟨gb917, m10_, (by rw [ha.out]; exact putSel_upk 3 hb_ rfl rfl rfl), Q_BK906, Q_BK907, Q_BK908, Q_HB, Q_BK917, Q_GW917, Q_GE917, Q_NB906_917, Q_NB917_906, Q_NB907_917, Q_NB917_907, Q_NB908_917, Q_NB917_908, fun h0_ => absurd ((hoff 11 (by kernel_rfl)).symm.trans h0_) (by decide), Q_X10_⟩
            refine steps_cons ?_ ?_
            · rintro b a w' ⟨gb917, m10_, ha, Q_BK906, Q_BK907, Q_BK908, Q_HB, Q_BK917, Q_GW917, Q_GE917, Q_NB906_917, Q_NB917_906, Q_NB907_917, Q_NB917_907, Q_NB908_917, Q_NB917_908, Q_BK917_e11, Q_X10_⟩ hb_ hon hoff
              refine ⟨_, rfl, fun K hK => ?_⟩
              have e22 : a.tmps[22]? = some (.pointer (some ⟨gb907, 4, none⟩)) := by rw [ha]; exact (putSel_off rfl).trans rfl
              replace ha := Aside0.mk ha
              have BK906 := Aside0.mk Q_BK906
              have BK907 := Aside0.mk Q_BK907
              have BK908 := Aside0.mk Q_BK908
              have HB := Aside0.mk Q_HB
              have hc0_ : w'.cell? ⟨gb907, 0, none⟩ = some (.int .i64 a1_0) := (blk_cell BK907.out 0).trans rfl
              have hc1_ : w'.cell? ⟨gb907, 1, none⟩ = some (.int .i64 a1_1) := (blk_cell BK907.out 1).trans rfl
              have hc2_ : w'.cell? ⟨gb907, 2, none⟩ = some (.int .i64 a1_2) := (blk_cell BK907.out 2).trans rfl
              have hc3_ : w'.cell? ⟨gb907, 3, none⟩ = some (.int .i64 a1_3) := (blk_cell BK907.out 3).trans rfl
              have hc4_ : w'.cell? ⟨gb907, 4, none⟩ = some (.int .i64 a1_4) := (blk_cell BK907.out 4).trans rfl
              have hc5_ : w'.cell? ⟨gb907, 5, none⟩ = some (.int .i64 a1_5) := (blk_cell BK907.out 5).trans rfl
              refine value_ (w1 := w') (v := .agg #[.int .i64 a1_4, .int .i64 a1_5]) (by rfl) rfl ?_ ?_
              · go_simp
                (try simp only [i64_w])
                try rfl
              refine hK.out _ _ ⟨gb917, m10_, (by rw [ha.out]; exact putSel_upk 4 hb_ rfl rfl rfl), Q_BK906, Q_BK907, Q_BK908, Q_HB, Q_BK917, Q_GW917, Q_GE917, Q_NB906_917, Q_NB917_906, Q_NB907_917, Q_NB917_907, Q_NB908_917, Q_NB917_908, fun h0_ => absurd ((hoff 11 (by kernel_rfl)).symm.trans h0_) (by decide), Q_X10_⟩
            refine steps_cons ?_ ?_
            · rintro b a w' ⟨gb917, m10_, ha, Q_BK906, Q_BK907, Q_BK908, Q_HB, Q_BK917, Q_GW917, Q_GE917, Q_NB906_917, Q_NB917_906, Q_NB907_917, Q_NB917_907, Q_NB908_917, Q_NB917_908, Q_BK917_e11, Q_X10_⟩ hb_ hon hoff
              refine ⟨_, rfl, fun K hK => ?_⟩
              have e21 : a.tmps[21]? = some (.agg #[.int .i64 a0_0, .int .i64 a0_1, .int .i64 a0_2, .int .i64 a0_3, .int .i64 a0_4, .int .i64 a0_5]) := by rw [ha]; exact putSel_on (e := (5, 21, .agg #[.int .i64 a0_0, .int .i64 a0_1, .int .i64 a0_2, .int .i64 a0_3, .int .i64 a0_4, .int .i64 a0_5])) 3 rfl rfl (hon 5 (by kernel_rfl)) rfl
              have e23 : a.tmps[23]? = some (.agg #[.int .i64 a1_4, .int .i64 a1_5]) := by rw [ha]; exact putSel_on (e := (7, 23, .agg #[.int .i64 a1_4, .int .i64 a1_5])) 4 rfl rfl (hon 7 (by kernel_rfl)) rfl
              replace ha := Aside0.mk ha
              have BK906 := Aside0.mk Q_BK906
              have BK907 := Aside0.mk Q_BK907
              have BK908 := Aside0.mk Q_BK908
              have HB := Aside0.mk Q_HB
              refine goes_ Try.func66 (by kernel_rfl) rfl #[.agg #[.int .i64 a0_0, .int .i64 a0_1, .int .i64 a0_2, .int .i64 a0_3, .int .i64 a0_4, .int .i64 a0_5], .agg #[.int .i64 a1_4, .int .i64 a1_5]] (by rfl) rfl rfl (by first | (simp only [List.map_toArray, List.map_cons, List.map_nil, Act.eval, Array.getD_eq_getD_getElem?, Option.getD_some, e21, e23]; done) | (simp only [List.map_toArray, List.map_cons, List.map_nil, Act.eval, Array.getD_eq_getD_getElem?, Option.getD_some, e21, e23]; rfl)) ?_
              with_reducible refine (torchonref06_apply.calls a0_0 a0_1 a0_2 a0_3 a0_4 a0_5 a1_4 a1_5 t915 t916 _ A27.out).mono ?_
              rintro e w33 ⟨rfl, hb⟩
              refine ⟨_, rfl, ?_⟩
              have n0_ := bb BK906 hb
              have n1_ := bb BK907 hb
              have n2_ := bb BK908 hb
              have n3_ := bst HB hb
              have z_BK917 := fun (h0_ : b 10 = true) (h1_ : b 11 = false) => (show w33.heap[gb917]? = some (.cells #[.int .i64 0, .int .i64 0, .int .i64 0, .int .i64 0, .int .i64 0, .int .i64 0] 55 (0, 0)) from by first | exact (blk_below (g := gb917) (o := .cells #[.int .i64 0, .int .i64 0, .int .i64 0, .int .i64 0, .int .i64 0, .int .i64 0] 55 (0, 0)) (by (with_reducible repeat (first | refine blk_drewN ?_ _ | refine blk_drew ?_ | refine blk_alloc ?_ _)); exact (Q_BK917 h0_ h1_)) hb))
              clear BK906
              clear BK907
              clear BK908
              clear HB
              have BK906 := n0_
              have BK907 := n1_
              have BK908 := n2_
              have HB := n3_
              clear n0_ n1_ n2_ n3_
              (try clear hb)
              (try clear hb2)
              (try clear hk)
              (try clear hi)
              refine hK.out _ _ ⟨gb917, m10_, (by rw [ha.out]; exact putSel_upk 5 hb_ rfl rfl rfl), (pk BK906), (pk BK907), (pk BK908), (bnow HB), z_BK917, Q_GW917, Q_GE917, Q_NB906_917, Q_NB917_906, Q_NB907_917, Q_NB917_907, Q_NB908_917, Q_NB917_908, fun h0_ => absurd ((hoff 11 (by kernel_rfl)).symm.trans h0_) (by decide), Q_X10_⟩
            refine steps_cons ?_ ?_
            · rintro b a w' ⟨gb917, m10_, ha, Q_BK906, Q_BK907, Q_BK908, Q_HB, Q_BK917, Q_GW917, Q_GE917, Q_NB906_917, Q_NB917_906, Q_NB907_917, Q_NB917_907, Q_NB908_917, Q_NB917_908, Q_BK917_e11, Q_X10_⟩ hb_ hon hoff
              refine ⟨_, rfl, fun K hK => ?_⟩
              have e20 : a.tmps[20]? = some (.agg #[.int .i64 t911, .int .i64 t912, .int .i64 t913, .int .i64 t914]) := by rw [ha]; exact putSel_on (e := (4, 20, .agg #[.int .i64 t911, .int .i64 t912, .int .i64 t913, .int .i64 t914])) 2 rfl rfl (hon 4 (by kernel_rfl)) rfl
              have e24 : a.tmps[24]? = some (.agg #[.int .i64 t915, .int .i64 t916]) := by rw [ha]; exact putSel_on (e := (8, 24, .agg #[.int .i64 t915, .int .i64 t916])) 5 rfl rfl (hon 8 (by kernel_rfl)) rfl
              replace ha := Aside0.mk ha
              have BK906 := Aside0.mk Q_BK906
              have BK907 := Aside0.mk Q_BK907
              have BK908 := Aside0.mk Q_BK908
              have HB := Aside0.mk Q_HB
              refine value_ (w1 := w') (v := .agg #[.int .i64 t911, .int .i64 t912, .int .i64 t913, .int .i64 t914, .int .i64 t915, .int .i64 t916]) (by rfl) rfl ?_ ?_
              · go_simp
                (try simp only [i64_w])
                try rfl
              refine hK.out _ _ ⟨gb917, m10_, (by rw [ha.out]; exact putSel_upk 6 hb_ rfl rfl rfl), Q_BK906, Q_BK907, Q_BK908, Q_HB, Q_BK917, Q_GW917, Q_GE917, Q_NB906_917, Q_NB917_906, Q_NB907_917, Q_NB917_907, Q_NB908_917, Q_NB917_908, fun h0_ => absurd ((hoff 11 (by kernel_rfl)).symm.trans h0_) (by decide), Q_X10_⟩
            refine steps_cons ?_ ?_
            · rintro b a w' ⟨gb917, m10_, ha, Q_BK906, Q_BK907, Q_BK908, Q_HB, Q_BK917, Q_GW917, Q_GE917, Q_NB906_917, Q_NB917_906, Q_NB907_917, Q_NB917_907, Q_NB908_917, Q_NB917_908, Q_BK917_e11, Q_X10_⟩ hb_ hon hoff
              refine ⟨_, rfl, fun K hK => ?_⟩
              replace ha := Aside0.mk ha
              have BK906 := Aside0.mk Q_BK906
              have BK907 := Aside0.mk Q_BK907
              have BK908 := Aside0.mk Q_BK908
              have HB := Aside0.mk Q_HB
              refine box_step ?hg (N := 6) ?hd (cs := #[.int .i64 0, .int .i64 0, .int .i64 0, .int .i64 0, .int .i64 0, .int .i64 0]) (t := 55) ?hr ?_; (case hd => rfl); (case hg => rfl); (case hr => first | (go_simp; done) | (go_simp; rfl))
              intro gb917 hg w31 hbox hb
              have BK917 := Aside0.mk (hbox)
              have GW917 := gw hg HB
              have GE917 := gw hg HB
              have NB906_917 := nlt hg BK906
              have NB917_906 := ngt hg BK906
              have NB907_917 := nlt hg BK907
              have NB917_907 := ngt hg BK907
              have NB908_917 := nlt hg BK908
              have NB917_908 := ngt hg BK908
              replace BK906 := bb BK906 hb
              replace BK907 := bb BK907 hb
              replace BK908 := bb BK908 hb
              replace HB := bst HB hb
              clear hb hg
              refine hK.out _ _ ⟨gb917, (.pointer (some ⟨gb917, 0, none⟩)), (by rw [ha.out]; exact putSel_upk 7 hb_ rfl rfl rfl), (pk BK906), (pk BK907), (pk BK908), (bnow HB), fun _ _ => (pk BK917), fun _ => GW917.out, fun _ => GE917.out, fun _ => NB906_917.out, fun _ => NB917_906.out, fun _ => NB907_917.out, fun _ => NB917_907.out, fun _ => NB908_917.out, fun _ => NB917_908.out, fun h0_ => absurd ((hoff 11 (by kernel_rfl)).symm.trans h0_) (by decide), fun _ => rfl⟩
            refine steps_cons ?_ ?_
            · rintro b a w' ⟨gb917, m10_, ha, Q_BK906, Q_BK907, Q_BK908, Q_HB, Q_BK917, Q_GW917, Q_GE917, Q_NB906_917, Q_NB917_906, Q_NB907_917, Q_NB917_907, Q_NB908_917, Q_NB917_908, Q_BK917_e11, Q_X10_⟩ hb_ hon hoff
              refine ⟨_, rfl, fun K hK => ?_⟩
              have e6 : a.tmps[6]? = some (m10_) := by rw [ha]; exact putSel_on (e := (10, 6, m10_)) 7 rfl rfl (hon 10 (by kernel_rfl)) rfl
              rw [Q_X10_ (hon 10 (by kernel_rfl))] at e6
              have e25 : a.tmps[25]? = some (.agg #[.int .i64 t911, .int .i64 t912, .int .i64 t913, .int .i64 t914, .int .i64 t915, .int .i64 t916]) := by rw [ha]; exact putSel_on (e := (9, 25, .agg #[.int .i64 t911, .int .i64 t912, .int .i64 t913, .int .i64 t914, .int .i64 t915, .int .i64 t916])) 6 rfl rfl (hon 9 (by kernel_rfl)) rfl
              replace ha := Aside0.mk ha
              have BK906 := Aside0.mk Q_BK906
              have BK907 := Aside0.mk Q_BK907
              have BK908 := Aside0.mk Q_BK908
              have HB := Aside0.mk Q_HB
              have BK917 := Aside0.mk (Q_BK917 (hon 10 (by kernel_rfl)) hb_)
              have GW917 := Aside0.mk (Q_GW917 (hon 10 (by kernel_rfl)))
              have GE917 := Aside0.mk (Q_GE917 (hon 10 (by kernel_rfl)))
              have NB906_917 := Aside0.mk (Q_NB906_917 (hon 10 (by kernel_rfl)))
              have NB917_906 := Aside0.mk (Q_NB917_906 (hon 10 (by kernel_rfl)))
              have NB907_917 := Aside0.mk (Q_NB907_917 (hon 10 (by kernel_rfl)))
              have NB917_907 := Aside0.mk (Q_NB917_907 (hon 10 (by kernel_rfl)))
              have NB908_917 := Aside0.mk (Q_NB908_917 (hon 10 (by kernel_rfl)))
              have NB917_908 := Aside0.mk (Q_NB917_908 (hon 10 (by kernel_rfl)))
              have hs35 : w'.cell? ⟨gb917, 0, none⟩ = some (.int .i64 0) := (blk_cell BK917.out 0).trans rfl
              have hfs35 := blk_frozen BK917.out 0
              have hns35_0 := NB906_917.out
              have hns35_1 := NB907_917.out
              have hns35_2 := NB908_917.out
              have hms35_0 := NB917_906.out
              have hms35_1 := NB917_907.out
              have hms35_2 := NB917_908.out
              have hs36 : w'.cell? ⟨gb917, 1, none⟩ = some (.int .i64 0) := (blk_cell BK917.out 1).trans rfl
              have hfs36 := blk_frozen BK917.out 1
              have hns36_0 := NB906_917.out
              have hns36_1 := NB907_917.out
              have hns36_2 := NB908_917.out
              have hms36_0 := NB917_906.out
              have hms36_1 := NB917_907.out
              have hms36_2 := NB917_908.out
              have hs37 : w'.cell? ⟨gb917, 2, none⟩ = some (.int .i64 0) := (blk_cell BK917.out 2).trans rfl
              have hfs37 := blk_frozen BK917.out 2
              have hns37_0 := NB906_917.out
              have hns37_1 := NB907_917.out
              have hns37_2 := NB908_917.out
              have hms37_0 := NB917_906.out
              have hms37_1 := NB917_907.out
              have hms37_2 := NB917_908.out
              have hs38 : w'.cell? ⟨gb917, 3, none⟩ = some (.int .i64 0) := (blk_cell BK917.out 3).trans rfl
              have hfs38 := blk_frozen BK917.out 3
              have hns38_0 := NB906_917.out
              have hns38_1 := NB907_917.out
              have hns38_2 := NB908_917.out
              have hms38_0 := NB917_906.out
              have hms38_1 := NB917_907.out
              have hms38_2 := NB917_908.out
              have hs39 : w'.cell? ⟨gb917, 4, none⟩ = some (.int .i64 0) := (blk_cell BK917.out 4).trans rfl
              have hfs39 := blk_frozen BK917.out 4
              have hns39_0 := NB906_917.out
              have hns39_1 := NB907_917.out
              have hns39_2 := NB908_917.out
              have hms39_0 := NB917_906.out
              have hms39_1 := NB917_907.out
              have hms39_2 := NB917_908.out
              have hs40 : w'.cell? ⟨gb917, 5, none⟩ = some (.int .i64 0) := (blk_cell BK917.out 5).trans rfl
              have hfs40 := blk_frozen BK917.out 5
              have hns40_0 := NB906_917.out
              have hns40_1 := NB907_917.out
              have hns40_2 := NB908_917.out
              have hms40_0 := NB917_906.out
              have hms40_1 := NB917_907.out
              have hms40_2 := NB917_908.out
              refine skip_ (w1 := ?_) (by rfl) rfl ?_ ?_
              rotate_left
              · go_simp
                rfl
              refine hK.out _ _ ⟨gb917, m10_, (by rw [ha.out]; exact putSel_none (v := undef) rfl), (by (with_reducible repeat (first | refine blk_drewN ?_ _ | refine blk_drew ?_ | refine blk_alloc ?_ _)); refine blk_far ?_ NB906_917.out _; (with_reducible repeat (first | refine blk_drewN ?_ _ | refine blk_drew ?_ | refine blk_alloc ?_ _)); refine blk_far ?_ NB906_917.out _; (with_reducible repeat (first | refine blk_drewN ?_ _ | refine blk_drew ?_ | refine blk_alloc ?_ _)); refine blk_far ?_ NB906_917.out _; (with_reducible repeat (first | refine blk_drewN ?_ _ | refine blk_drew ?_ | refine blk_alloc ?_ _)); refine blk_far ?_ NB906_917.out _; (with_reducible repeat (first | refine blk_drewN ?_ _ | refine blk_drew ?_ | refine blk_alloc ?_ _)); refine blk_far ?_ NB906_917.out _; (with_reducible repeat (first | refine blk_drewN ?_ _ | refine blk_drew ?_ | refine blk_alloc ?_ _)); refine blk_far ?_ NB906_917.out _; (with_reducible repeat (first | refine blk_drewN ?_ _ | refine blk_drew ?_ | refine blk_alloc ?_ _)); exact BK906.out), (by (with_reducible repeat (first | refine blk_drewN ?_ _ | refine blk_drew ?_ | refine blk_alloc ?_ _)); refine blk_far ?_ NB907_917.out _; (with_reducible repeat (first | refine blk_drewN ?_ _ | refine blk_drew ?_ | refine blk_alloc ?_ _)); refine blk_far ?_ NB907_917.out _; (with_reducible repeat (first | refine blk_drewN ?_ _ | refine blk_drew ?_ | refine blk_alloc ?_ _)); refine blk_far ?_ NB907_917.out _; (with_reducible repeat (first | refine blk_drewN ?_ _ | refine blk_drew ?_ | refine blk_alloc ?_ _)); refine blk_far ?_ NB907_917.out _; (with_reducible repeat (first | refine blk_drewN ?_ _ | refine blk_drew ?_ | refine blk_alloc ?_ _)); refine blk_far ?_ NB907_917.out _; (with_reducible repeat (first | refine blk_drewN ?_ _ | refine blk_drew ?_ | refine blk_alloc ?_ _)); refine blk_far ?_ NB907_917.out _; (with_reducible repeat (first | refine blk_drewN ?_ _ | refine blk_drew ?_ | refine blk_alloc ?_ _)); exact BK907.out), (by (with_reducible repeat (first | refine blk_drewN ?_ _ | refine blk_drew ?_ | refine blk_alloc ?_ _)); refine blk_far ?_ NB908_917.out _; (with_reducible repeat (first | refine blk_drewN ?_ _ | refine blk_drew ?_ | refine blk_alloc ?_ _)); refine blk_far ?_ NB908_917.out _; (with_reducible repeat (first | refine blk_drewN ?_ _ | refine blk_drew ?_ | refine blk_alloc ?_ _)); refine blk_far ?_ NB908_917.out _; (with_reducible repeat (first | refine blk_drewN ?_ _ | refine blk_drew ?_ | refine blk_alloc ?_ _)); refine blk_far ?_ NB908_917.out _; (with_reducible repeat (first | refine blk_drewN ?_ _ | refine blk_drew ?_ | refine blk_alloc ?_ _)); refine blk_far ?_ NB908_917.out _; (with_reducible repeat (first | refine blk_drewN ?_ _ | refine blk_drew ?_ | refine blk_alloc ?_ _)); refine blk_far ?_ NB908_917.out _; (with_reducible repeat (first | refine blk_drewN ?_ _ | refine blk_drew ?_ | refine blk_alloc ?_ _)); exact BK908.out), (bnow HB), fun _ h1_ => absurd ((up_self b 11).symm.trans h1_) (by decide), fun _ => GW917.out, fun _ => GE917.out, fun _ => NB906_917.out, fun _ => NB917_906.out, fun _ => NB907_917.out, fun _ => NB917_907.out, fun _ => NB908_917.out, fun _ => NB917_908.out, fun _ => (by (with_reducible repeat (first | refine blk_drewN ?_ _ | refine blk_drew ?_ | refine blk_alloc ?_ _)); refine blk_put (cs := #[.int .i64 t911, .int .i64 t912, .int .i64 t913, .int .i64 t914, .int .i64 t915, .int .i64 0]) ?_ 5 _ rfl; (with_reducible repeat (first | refine blk_drewN ?_ _ | refine blk_drew ?_ | refine blk_alloc ?_ _)); refine blk_put (cs := #[.int .i64 t911, .int .i64 t912, .int .i64 t913, .int .i64 t914, .int .i64 0, .int .i64 0]) ?_ 4 _ rfl; (with_reducible repeat (first | refine blk_drewN ?_ _ | refine blk_drew ?_ | refine blk_alloc ?_ _)); refine blk_put (cs := #[.int .i64 t911, .int .i64 t912, .int .i64 t913, .int .i64 0, .int .i64 0, .int .i64 0]) ?_ 3 _ rfl; (with_reducible repeat (first | refine blk_drewN ?_ _ | refine blk_drew ?_ | refine blk_alloc ?_ _)); refine blk_put (cs := #[.int .i64 t911, .int .i64 t912, .int .i64 0, .int .i64 0, .int .i64 0, .int .i64 0]) ?_ 2 _ rfl; (with_reducible repeat (first | refine blk_drewN ?_ _ | refine blk_drew ?_ | refine blk_alloc ?_ _)); refine blk_put (cs := #[.int .i64 t911, .int .i64 0, .int .i64 0, .int .i64 0, .int .i64 0, .int .i64 0]) ?_ 1 _ rfl; (with_reducible repeat (first | refine blk_drewN ?_ _ | refine blk_drew ?_ | refine blk_alloc ?_ _)); refine blk_put (cs := #[.int .i64 0, .int .i64 0, .int .i64 0, .int .i64 0, .int .i64 0, .int .i64 0]) ?_ 0 _ rfl; (with_reducible repeat (first | refine blk_drewN ?_ _ | refine blk_drew ?_ | refine blk_alloc ?_ _)); exact BK917.out), Q_X10_⟩
            exact steps_nil
          rintro b a w40 hall ⟨gb917, m10_, ha, Q_BK906, Q_BK907, Q_BK908, Q_HB, Q_BK917, Q_GW917, Q_GE917, Q_NB906_917, Q_NB917_906, Q_NB907_917, Q_NB917_907, Q_NB908_917, Q_NB917_908, Q_BK917_e11, Q_X10_⟩
          clear BK906 BK907 BK908 HB
          have hb1_ := hall 1 (by kernel_rfl)
          have hb3_ := hall 3 (by kernel_rfl)
          have hb4_ := hall 4 (by kernel_rfl)
          have hb5_ := hall 5 (by kernel_rfl)
          have hb7_ := hall 7 (by kernel_rfl)
          have hb8_ := hall 8 (by kernel_rfl)
          have hb9_ := hall 9 (by kernel_rfl)
          have hb10_ := hall 10 (by kernel_rfl)
          have hb11_ := hall 11 (by kernel_rfl)
          subst ha
          obtain rfl := Q_X10_ hb10_
          simp only [putSel, hb1_, hb3_, hb4_, hb5_, hb7_, hb8_, hb9_, hb10_, hb11_, if_true, Act.put, List.setIfInBounds_toArray, List.set_cons_zero, List.set_cons_succ]
          have BK906 := Aside0.mk Q_BK906
          clear Q_BK906
          have BK907 := Aside0.mk Q_BK907
          clear Q_BK907
          have BK908 := Aside0.mk Q_BK908
          clear Q_BK908
          have HB := Aside0.mk Q_HB
          clear Q_HB
          clear Q_BK917
          have GW917 := Aside0.mk (Q_GW917 hb10_)
          clear Q_GW917
          have GE917 := Aside0.mk (Q_GE917 hb10_)
          clear Q_GE917
          have NB906_917 := Aside0.mk (Q_NB906_917 hb10_)
          clear Q_NB906_917
          have NB917_906 := Aside0.mk (Q_NB917_906 hb10_)
          clear Q_NB917_906
          have NB907_917 := Aside0.mk (Q_NB907_917 hb10_)
          clear Q_NB907_917
          have NB917_907 := Aside0.mk (Q_NB917_907 hb10_)
          clear Q_NB917_907
          have NB908_917 := Aside0.mk (Q_NB908_917 hb10_)
          clear Q_NB908_917
          have NB917_908 := Aside0.mk (Q_NB917_908 hb10_)
          clear Q_NB917_908
          have BK917 := Aside0.mk (Q_BK917_e11 hb11_)
          clear Q_BK917_e11
          clear hall hb1_ hb3_ hb4_ hb5_ hb7_ hb8_ hb9_ hb10_ hb11_
          have hnb41 := NB917_906.out
          have hnc41 := NB906_917.out
          have hnb42 := NB917_907.out
          have hnc42 := NB907_917.out
          have hnb43 := NB917_908.out
          have hnc43 := NB908_917.out
          have ⟨hcz44_0, hcz44_1, hcz44_2, hcz44_3, hcz44_4, hcz44_5, hfz44_0, hfz44_1, hfz44_2, hfz44_3, hfz44_4, hfz44_5⟩ := cf6 BK917
          try go_wp2_with (first | ((with_reducible refine gate_callee (f := 64) rfl ?_); refine gl 27 Try.func64 (torchonref06_move.calls t911 t912 t913 t914 t915 t916 true _ A28.out) ?_; rintro e w45 ⟨rfl, hb⟩; refine ⟨_, rfl, ?_⟩; replace BK906 := bb BK906 hb; replace BK907 := bb BK907 hb; replace BK908 := bb BK908 hb; replace BK917 := bb BK917 hb; replace HB := bst HB hb; clear hb; have ⟨hcz46_0, hcz46_1, hcz46_2, hcz46_3, hcz46_4, hcz46_5, hfz46_0, hfz46_1, hfz46_2, hfz46_3, hfz46_4, hfz46_5⟩ := cf6 BK917; have hnb47 := NB908_906.out; have hnc47 := NB906_908.out; have hnb48 := NB908_907.out; have hnc48 := NB907_908.out; have ⟨hcz49_0, hcz49_1, hcz49_2, hcz49_3, hcz49_4, hcz49_5, hfz49_0, hfz49_1, hfz49_2, hfz49_3, hfz49_4, hfz49_5⟩ := cf6 BK908) | ((with_reducible refine gate_store (t := 55) (p := 4) rfl ?_); refine sx 55 4 (((((((w45.setCell ⟨gb908, 0, none⟩ (.int .i64 t911)).setCell ⟨gb908, 1, none⟩ (.int .i64 t912)).setCell ⟨gb908, 2, none⟩ (.int .i64 t913)).setCell ⟨gb908, 3, none⟩ (.int .i64 t914)).setCell ⟨gb908, 4, none⟩ (.int .i64 t915)).setCell ⟨gb908, 5, none⟩ (.int .i64 t916))) fun w50 hw => ?_; replace BK906 := fw hw BK906; replace BK907 := fw hw BK907; replace BK908 := pw6 hw BK908; replace BK917 := fw hw BK917; replace HB := bw hw HB; clear hw))
          refine bodyPost_ret (results_ct rfl _ _ gb908 55 #[.int .i64 t911, .int .i64 t912, .int .i64 t913, .int .i64 t914, .int .i64 t915, .int .i64 t916] (0, 0) _ rfl (pk BK908) Try.underlying55 rfl (by kernel_rfl)) rfl ?_
          exact rt HB
        · replace c29 := Bool.eq_false_iff.mpr c29
          subst c29
          have H1 : (some (0, 0, 0, 0, 0, 0, 7)) = some (r1, r2, r3, r4, r5, r6, r7) := by rw [if_neg (show ¬ (false = true) by decide)] at H; exact H
          clear H
          have H := H1
          clear H1
          simp only [Option.some.injEq, Prod.mk.injEq] at H
          obtain ⟨rfl, rfl, rfl, rfl, rfl, rfl, rfl⟩ := H
          try go_wp2
          replace BK906 := bd BK906
          replace BK907 := bd BK907
          replace BK908 := bd BK908
          replace HB := bdn HB
          refine start_ (n := 12) (S := fun w' => True) (ds := []) #[false, false, false, false, false, false, false, false, false, false, false, false] (by kernel_rfl) rfl rfl trivial (fun hHeld => ?_); refine with_tabW torchonref06_Compose.tab3 torchonref06_Compose.bits3 (fun HT_ HW_ => ?_)
          generalize wc.drew = w51 at BK906 BK907 BK908 HB hHeld ⊢
          refine pz 0 16 HT_ ?_
          refine pz 2 18 HT_ ?_
          refine pz 6 22 HT_ ?_
          refine inv_at [1, 3, 4, 5, 7, 8, 9, 10, 11] (fun a0_ b a w' => ∃ (gb917 : Nat) (m10_ : Value), a = putSel a0_ b [(1, 17, .agg #[.int .i64 a0_0, .int .i64 a0_1, .int .i64 a0_2, .int .i64 a0_3]), (3, 19, .agg #[.int .i64 a1_0, .int .i64 a1_1, .int .i64 a1_2, .int .i64 a1_3]), (4, 20, .agg #[.int .i64 t911, .int .i64 t912, .int .i64 t913, .int .i64 t914]), (5, 21, .agg #[.int .i64 a0_0, .int .i64 a0_1, .int .i64 a0_2, .int .i64 a0_3, .int .i64 a0_4, .int .i64 a0_5]), (7, 23, .agg #[.int .i64 a1_4, .int .i64 a1_5]), (8, 24, .agg #[.int .i64 t915, .int .i64 t916]), (9, 25, .agg #[.int .i64 t911, .int .i64 t912, .int .i64 t913, .int .i64 t914, .int .i64 t915, .int .i64 t916]), (10, 6, m10_)] ∧ (w'.heap[gb906]? = some (.cells #[.int .i64 a0_0, .int .i64 a0_1, .int .i64 a0_2, .int .i64 a0_3, .int .i64 a0_4, .int .i64 a0_5] 55 (0, 0))) ∧ (w'.heap[gb907]? = some (.cells #[.int .i64 a1_0, .int .i64 a1_1, .int .i64 a1_2, .int .i64 a1_3, .int .i64 a1_4, .int .i64 a1_5] 55 (0, 0))) ∧ (w'.heap[gb908]? = some (.cells #[.int .i64 0, .int .i64 0, .int .i64 0, .int .i64 0, .int .i64 0, .int .i64 0] 55 (0, 0))) ∧ (Below w.heap.size w w') ∧ (b 10 = true → b 11 = false → w'.heap[gb917]? = some (.cells #[.int .i64 0, .int .i64 0, .int .i64 0, .int .i64 0, .int .i64 0, .int .i64 0] 55 (0, 0))) ∧ (b 10 = true → w.heap.size ≤ gb917) ∧ (b 10 = true → w.heap.size ≤ gb917) ∧ (b 10 = true → gb906 ≠ gb917) ∧ (b 10 = true → gb917 ≠ gb906) ∧ (b 10 = true → gb907 ≠ gb917) ∧ (b 10 = true → gb917 ≠ gb907) ∧ (b 10 = true → gb908 ≠ gb917) ∧ (b 10 = true → gb917 ≠ gb908) ∧ (b 11 = true → w'.heap[gb917]? = some (.cells #[.int .i64 t911, .int .i64 t912, .int .i64 t913, .int .i64 t914, .int .i64 t915, .int .i64 t916] 55 (0, 0))) ∧ (b 10 = true → (m10_ : Value) = .pointer (some ⟨gb917, 0, none⟩))) HT_.out HW_.out (by kernel_rfl) (by kernel_rfl) ?_ ?_ ?_
          · exact ⟨0, .bool false, by simp only [putSel, Bool.false_eq_true, if_false], BK906.out, BK907.out, BK908.out, HB.out, fun h_ => absurd h_ (by decide), fun h_ => absurd h_ (by decide), fun h_ => absurd h_ (by decide), fun h_ => absurd h_ (by decide), fun h_ => absurd h_ (by decide), fun h_ => absurd h_ (by decide), fun h_ => absurd h_ (by decide), fun h_ => absurd h_ (by decide), fun h_ => absurd h_ (by decide), fun h_ => absurd h_ (by decide), fun h_ => absurd h_ (by decide)⟩
          · skip
            clear BK906 BK907 BK908 HB
            refine steps_cons ?_ ?_
            · rintro b a w' ⟨gb917, m10_, ha, Q_BK906, Q_BK907, Q_BK908, Q_HB, Q_BK917, Q_GW917, Q_GE917, Q_NB906_917, Q_NB917_906, Q_NB907_917, Q_NB917_907, Q_NB908_917, Q_NB917_908, Q_BK917_e11, Q_X10_⟩ hb_ hon hoff
              refine ⟨_, rfl, fun K hK => ?_⟩
              have e16 : a.tmps[16]? = some (.pointer (some ⟨gb906, 0, none⟩)) := by rw [ha]; exact (putSel_off rfl).trans rfl
              replace ha := Aside0.mk ha
              have BK906 := Aside0.mk Q_BK906
              have BK907 := Aside0.mk Q_BK907
              have BK908 := Aside0.mk Q_BK908
              have HB := Aside0.mk Q_HB
              have hc0_ : w'.cell? ⟨gb906, 0, none⟩ = some (.int .i64 a0_0) := (blk_cell BK906.out 0).trans rfl
              have hc1_ : w'.cell? ⟨gb906, 1, none⟩ = some (.int .i64 a0_1) := (blk_cell BK906.out 1).trans rfl
              have hc2_ : w'.cell? ⟨gb906, 2, none⟩ = some (.int .i64 a0_2) := (blk_cell BK906.out 2).trans rfl
              have hc3_ : w'.cell? ⟨gb906, 3, none⟩ = some (.int .i64 a0_3) := (blk_cell BK906.out 3).trans rfl
              have hc4_ : w'.cell? ⟨gb906, 4, none⟩ = some (.int .i64 a0_4) := (blk_cell BK906.out 4).trans rfl
              have hc5_ : w'.cell? ⟨gb906, 5, none⟩ = some (.int .i64 a0_5) := (blk_cell BK906.out 5).trans rfl
              refine value_ (w1 := w') (v := .agg #[.int .i64 a0_0, .int .i64 a0_1, .int .i64 a0_2, .int .i64 a0_3]) (by rfl) rfl ?_ ?_
              · go_simp
                (try simp only [i64_w])
                try rfl
              refine hK.out _ _ ⟨gb917, m10_, (by rw [ha.out]; exact putSel_upk 0 hb_ rfl rfl rfl), Q_BK906, Q_BK907, Q_BK908, Q_HB, Q_BK917, Q_GW917, Q_GE917, Q_NB906_917, Q_NB917_906, Q_NB907_917, Q_NB917_907, Q_NB908_917, Q_NB917_908, fun h0_ => absurd ((hoff 11 (by kernel_rfl)).symm.trans h0_) (by decide), Q_X10_⟩
            refine steps_cons ?_ ?_
            · rintro b a w' ⟨gb917, m10_, ha, Q_BK906, Q_BK907, Q_BK908, Q_HB, Q_BK917, Q_GW917, Q_GE917, Q_NB906_917, Q_NB917_906, Q_NB907_917, Q_NB917_907, Q_NB908_917, Q_NB917_908, Q_BK917_e11, Q_X10_⟩ hb_ hon hoff
              refine ⟨_, rfl, fun K hK => ?_⟩
              have e18 : a.tmps[18]? = some (.pointer (some ⟨gb907, 0, none⟩)) := by rw [ha]; exact (putSel_off rfl).trans rfl
              replace ha := Aside0.mk ha
              have BK906 := Aside0.mk Q_BK906
              have BK907 := Aside0.mk Q_BK907
              have BK908 := Aside0.mk Q_BK908
              have HB := Aside0.mk Q_HB
              have hc0_ : w'.cell? ⟨gb907, 0, none⟩ = some (.int .i64 a1_0) := (blk_cell BK907.out 0).trans rfl
              have hc1_ : w'.cell? ⟨gb907, 1, none⟩ = some (.int .i64 a1_1) := (blk_cell BK907.out 1).trans rfl
              have hc2_ : w'.cell? ⟨gb907, 2, none⟩ = some (.int .i64 a1_2) := (blk_cell BK907.out 2).trans rfl
              have hc3_ : w'.cell? ⟨gb907, 3, none⟩ = some (.int .i64 a1_3) := (blk_cell BK907.out 3).trans rfl
              have hc4_ : w'.cell? ⟨gb907, 4, none⟩ = some (.int .i64 a1_4) := (blk_cell BK907.out 4).trans rfl
              have hc5_ : w'.cell? ⟨gb907, 5, none⟩ = some (.int .i64 a1_5) := (blk_cell BK907.out 5).trans rfl
              refine value_ (w1 := w') (v := .agg #[.int .i64 a1_0, .int .i64 a1_1, .int .i64 a1_2, .int .i64 a1_3]) (by rfl) rfl ?_ ?_
              · go_simp
                (try simp only [i64_w])
                try rfl
              refine hK.out _ _ ⟨gb917, m10_, (by rw [ha.out]; exact putSel_upk 1 hb_ rfl rfl rfl), Q_BK906, Q_BK907, Q_BK908, Q_HB, Q_BK917, Q_GW917, Q_GE917, Q_NB906_917, Q_NB917_906, Q_NB907_917, Q_NB917_907, Q_NB908_917, Q_NB917_908, fun h0_ => absurd ((hoff 11 (by kernel_rfl)).symm.trans h0_) (by decide), Q_X10_⟩
            refine steps_cons ?_ ?_
            · rintro b a w' ⟨gb917, m10_, ha, Q_BK906, Q_BK907, Q_BK908, Q_HB, Q_BK917, Q_GW917, Q_GE917, Q_NB906_917, Q_NB917_906, Q_NB907_917, Q_NB917_907, Q_NB908_917, Q_NB917_908, Q_BK917_e11, Q_X10_⟩ hb_ hon hoff
              refine ⟨_, rfl, fun K hK => ?_⟩
              have e17 : a.tmps[17]? = some (.agg #[.int .i64 a0_0, .int .i64 a0_1, .int .i64 a0_2, .int .i64 a0_3]) := by rw [ha]; exact putSel_on (e := (1, 17, .agg #[.int .i64 a0_0, .int .i64 a0_1, .int .i64 a0_2, .int .i64 a0_3])) 0 rfl rfl (hon 1 (by kernel_rfl)) rfl
              have e19 : a.tmps[19]? = some (.agg #[.int .i64 a1_0, .int .i64 a1_1, .int .i64 a1_2, .int .i64 a1_3]) := by rw [ha]; exact putSel_on (e := (3, 19, .agg #[.int .i64 a1_0, .int .i64 a1_1, .int .i64 a1_2, .int .i64 a1_3])) 1 rfl rfl (hon 3 (by kernel_rfl)) rfl
              replace ha := Aside0.mk ha
              have BK906 := Aside0.mk Q_BK906
              have BK907 := Aside0.mk Q_BK907
              have BK908 := Aside0.mk Q_BK908
              have HB := Aside0.mk Q_HB
              refine goes_ Try.func37 (by kernel_rfl) rfl #[.agg #[.int .i64 a0_0, .int .i64 a0_1, .int .i64 a0_2, .int .i64 a0_3], .agg #[.int .i64 a1_0, .int .i64 a1_1, .int .i64 a1_2, .int .i64 a1_3]] (by rfl) rfl rfl (by first | (simp only [List.map_toArray, List.map_cons, List.map_nil, Act.eval, Array.getD_eq_getD_getElem?, Option.getD_some, e17, e19]; done) | (simp only [List.map_toArray, List.map_cons, List.map_nil, Act.eval, Array.getD_eq_getD_getElem?, Option.getD_some, e17, e19]; rfl)) ?_
              with_reducible refine (torchonref06_Times.calls a0_0 a0_1 a0_2 a0_3 a1_0 a1_1 a1_2 a1_3 t911 t912 t913 t914 _ A26.out).mono ?_
              rintro e w52 ⟨rfl, hb⟩
              refine ⟨_, rfl, ?_⟩
              have n0_ := bb BK906 hb
              have n1_ := bb BK907 hb
              have n2_ := bb BK908 hb
              have n3_ := bst HB hb
              have z_BK917 := fun (h0_ : b 10 = true) (h1_ : b 11 = false) => (show w52.heap[gb917]? = some (.cells #[.int .i64 0, .int .i64 0, .int .i64 0, .int .i64 0, .int .i64 0, .int .i64 0] 55 (0, 0)) from by first | exact (blk_below (g := gb917) (o := .cells #[.int .i64 0, .int .i64 0, .int .i64 0, .int .i64 0, .int .i64 0, .int .i64 0] 55 (0, 0)) (by (with_reducible repeat (first | refine blk_drewN ?_ _ | refine blk_drew ?_ | refine blk_alloc ?_ _)); exact (Q_BK917 h0_ h1_)) hb))
              clear BK906
              clear BK907
              clear BK908
              clear HB
              have BK906 := n0_
              have BK907 := n1_
              have BK908 := n2_
              have HB := n3_
              clear n0_ n1_ n2_ n3_
              (try clear hb)
              (try clear hb2)
              (try clear hk)
              (try clear hi)
              refine hK.out _ _ ⟨gb917, m10_, (by rw [ha.out]; exact putSel_upk 2 hb_ rfl rfl rfl), (pk BK906), (pk BK907), (pk BK908), (bnow HB), z_BK917, Q_GW917, Q_GE917, Q_NB906_917, Q_NB917_906, Q_NB907_917, Q_NB917_907, Q_NB908_917, Q_NB917_908, fun h0_ => absurd ((hoff 11 (by kernel_rfl)).symm.trans h0_) (by decide), Q_X10_⟩
            refine steps_cons ?_ ?_
            · rintro b a w' ⟨gb917, m10_, ha, Q_BK906, Q_BK907, Q_BK908, Q_HB, Q_BK917, Q_GW917, Q_GE917, Q_NB906_917, Q_NB917_906, Q_NB907_917, Q_NB917_907, Q_NB908_917, Q_NB917_908, Q_BK917_e11, Q_X10_⟩ hb_ hon hoff
              refine ⟨_, rfl, fun K hK => ?_⟩
              have e2 : a.tmps[2]? = some (.pointer (some ⟨gb906, 0, none⟩)) := by rw [ha]; exact (putSel_off rfl).trans rfl
              replace ha := Aside0.mk ha
              have BK906 := Aside0.mk Q_BK906
              have BK907 := Aside0.mk Q_BK907
              have BK908 := Aside0.mk Q_BK908
              have HB := Aside0.mk Q_HB
              have hc0_ : w'.cell? ⟨gb906, 0, none⟩ = some (.int .i64 a0_0) := (blk_cell BK906.out 0).trans rfl
              have hc1_ : w'.cell? ⟨gb906, 1, none⟩ = some (.int .i64 a0_1) := (blk_cell BK906.out 1).trans rfl
              have hc2_ : w'.cell? ⟨gb906, 2, none⟩ = some (.int .i64 a0_2) := (blk_cell BK906.out 2).trans rfl
              have hc3_ : w'.cell? ⟨gb906, 3, none⟩ = some (.int .i64 a0_3) := (blk_cell BK906.out 3).trans rfl
              have hc4_ : w'.cell? ⟨gb906, 4, none⟩ = some (.int .i64 a0_4) := (blk_cell BK906.out 4).trans rfl
              have hc5_ : w'.cell? ⟨gb906, 5, none⟩ = some (.int .i64 a0_5) := (blk_cell BK906.out 5).trans rfl
              refine value_ (w1 := w') (v := .agg #[.int .i64 a0_0, .int .i64 a0_1, .int .i64 a0_2, .int .i64 a0_3, .int .i64 a0_4, .int .i64 a0_5]) (by rfl) rfl ?_ ?_
              · go_simp
                (try simp only [i64_w])
                try rfl
              refine hK.out _ _ ⟨gb917, m10_, (by rw [ha.out]; exact putSel_upk 3 hb_ rfl rfl rfl), Q_BK906, Q_BK907, Q_BK908, Q_HB, Q_BK917, Q_GW917, Q_GE917, Q_NB906_917, Q_NB917_906, Q_NB907_917, Q_NB917_907, Q_NB908_917, Q_NB917_908, fun h0_ => absurd ((hoff 11 (by kernel_rfl)).symm.trans h0_) (by decide), Q_X10_⟩
            refine steps_cons ?_ ?_
            · rintro b a w' ⟨gb917, m10_, ha, Q_BK906, Q_BK907, Q_BK908, Q_HB, Q_BK917, Q_GW917, Q_GE917, Q_NB906_917, Q_NB917_906, Q_NB907_917, Q_NB917_907, Q_NB908_917, Q_NB917_908, Q_BK917_e11, Q_X10_⟩ hb_ hon hoff
              refine ⟨_, rfl, fun K hK => ?_⟩
              have e22 : a.tmps[22]? = some (.pointer (some ⟨gb907, 4, none⟩)) := by rw [ha]; exact (putSel_off rfl).trans rfl
              replace ha := Aside0.mk ha
              have BK906 := Aside0.mk Q_BK906
              have BK907 := Aside0.mk Q_BK907
              have BK908 := Aside0.mk Q_BK908
              have HB := Aside0.mk Q_HB
              have hc0_ : w'.cell? ⟨gb907, 0, none⟩ = some (.int .i64 a1_0) := (blk_cell BK907.out 0).trans rfl
              have hc1_ : w'.cell? ⟨gb907, 1, none⟩ = some (.int .i64 a1_1) := (blk_cell BK907.out 1).trans rfl
              have hc2_ : w'.cell? ⟨gb907, 2, none⟩ = some (.int .i64 a1_2) := (blk_cell BK907.out 2).trans rfl
              have hc3_ : w'.cell? ⟨gb907, 3, none⟩ = some (.int .i64 a1_3) := (blk_cell BK907.out 3).trans rfl
              have hc4_ : w'.cell? ⟨gb907, 4, none⟩ = some (.int .i64 a1_4) := (blk_cell BK907.out 4).trans rfl
              have hc5_ : w'.cell? ⟨gb907, 5, none⟩ = some (.int .i64 a1_5) := (blk_cell BK907.out 5).trans rfl
              refine value_ (w1 := w') (v := .agg #[.int .i64 a1_4, .int .i64 a1_5]) (by rfl) rfl ?_ ?_
              · go_simp
                (try simp only [i64_w])
                try rfl
              refine hK.out _ _ ⟨gb917, m10_, (by rw [ha.out]; exact putSel_upk 4 hb_ rfl rfl rfl), Q_BK906, Q_BK907, Q_BK908, Q_HB, Q_BK917, Q_GW917, Q_GE917, Q_NB906_917, Q_NB917_906, Q_NB907_917, Q_NB917_907, Q_NB908_917, Q_NB917_908, fun h0_ => absurd ((hoff 11 (by kernel_rfl)).symm.trans h0_) (by decide), Q_X10_⟩
            refine steps_cons ?_ ?_
            · rintro b a w' ⟨gb917, m10_, ha, Q_BK906, Q_BK907, Q_BK908, Q_HB, Q_BK917, Q_GW917, Q_GE917, Q_NB906_917, Q_NB917_906, Q_NB907_917, Q_NB917_907, Q_NB908_917, Q_NB917_908, Q_BK917_e11, Q_X10_⟩ hb_ hon hoff
              refine ⟨_, rfl, fun K hK => ?_⟩
              have e21 : a.tmps[21]? = some (.agg #[.int .i64 a0_0, .int .i64 a0_1, .int .i64 a0_2, .int .i64 a0_3, .int .i64 a0_4, .int .i64 a0_5]) := by rw [ha]; exact putSel_on (e := (5, 21, .agg #[.int .i64 a0_0, .int .i64 a0_1, .int .i64 a0_2, .int .i64 a0_3, .int .i64 a0_4, .int .i64 a0_5])) 3 rfl rfl (hon 5 (by kernel_rfl)) rfl
              have e23 : a.tmps[23]? = some (.agg #[.int .i64 a1_4, .int .i64 a1_5]) := by rw [ha]; exact putSel_on (e := (7, 23, .agg #[.int .i64 a1_4, .int .i64 a1_5])) 4 rfl rfl (hon 7 (by kernel_rfl)) rfl
              replace ha := Aside0.mk ha
              have BK906 := Aside0.mk Q_BK906
              have BK907 := Aside0.mk Q_BK907
              have BK908 := Aside0.mk Q_BK908
              have HB := Aside0.mk Q_HB
              refine goes_ Try.func66 (by kernel_rfl) rfl #[.agg #[.int .i64 a0_0, .int .i64 a0_1, .int .i64 a0_2, .int .i64 a0_3, .int .i64 a0_4, .int .i64 a0_5], .agg #[.int .i64 a1_4, .int .i64 a1_5]] (by rfl) rfl rfl (by first | (simp only [List.map_toArray, List.map_cons, List.map_nil, Act.eval, Array.getD_eq_getD_getElem?, Option.getD_some, e21, e23]; done) | (simp only [List.map_toArray, List.map_cons, List.map_nil, Act.eval, Array.getD_eq_getD_getElem?, Option.getD_some, e21, e23]; rfl)) ?_
              with_reducible refine (torchonref06_apply.calls a0_0 a0_1 a0_2 a0_3 a0_4 a0_5 a1_4 a1_5 t915 t916 _ A27.out).mono ?_
              rintro e w54 ⟨rfl, hb⟩
              refine ⟨_, rfl, ?_⟩
              have n0_ := bb BK906 hb
              have n1_ := bb BK907 hb
              have n2_ := bb BK908 hb
              have n3_ := bst HB hb
              have z_BK917 := fun (h0_ : b 10 = true) (h1_ : b 11 = false) => (show w54.heap[gb917]? = some (.cells #[.int .i64 0, .int .i64 0, .int .i64 0, .int .i64 0, .int .i64 0, .int .i64 0] 55 (0, 0)) from by first | exact (blk_below (g := gb917) (o := .cells #[.int .i64 0, .int .i64 0, .int .i64 0, .int .i64 0, .int .i64 0, .int .i64 0] 55 (0, 0)) (by (with_reducible repeat (first | refine blk_drewN ?_ _ | refine blk_drew ?_ | refine blk_alloc ?_ _)); exact (Q_BK917 h0_ h1_)) hb))
              clear BK906
              clear BK907
              clear BK908
              clear HB
              have BK906 := n0_
              have BK907 := n1_
              have BK908 := n2_
              have HB := n3_
              clear n0_ n1_ n2_ n3_
              (try clear hb)
              (try clear hb2)
              (try clear hk)
              (try clear hi)
              refine hK.out _ _ ⟨gb917, m10_, (by rw [ha.out]; exact putSel_upk 5 hb_ rfl rfl rfl), (pk BK906), (pk BK907), (pk BK908), (bnow HB), z_BK917, Q_GW917, Q_GE917, Q_NB906_917, Q_NB917_906, Q_NB907_917, Q_NB917_907, Q_NB908_917, Q_NB917_908, fun h0_ => absurd ((hoff 11 (by kernel_rfl)).symm.trans h0_) (by decide), Q_X10_⟩
            refine steps_cons ?_ ?_
            · rintro b a w' ⟨gb917, m10_, ha, Q_BK906, Q_BK907, Q_BK908, Q_HB, Q_BK917, Q_GW917, Q_GE917, Q_NB906_917, Q_NB917_906, Q_NB907_917, Q_NB917_907, Q_NB908_917, Q_NB917_908, Q_BK917_e11, Q_X10_⟩ hb_ hon hoff
              refine ⟨_, rfl, fun K hK => ?_⟩
              have e20 : a.tmps[20]? = some (.agg #[.int .i64 t911, .int .i64 t912, .int .i64 t913, .int .i64 t914]) := by rw [ha]; exact putSel_on (e := (4, 20, .agg #[.int .i64 t911, .int .i64 t912, .int .i64 t913, .int .i64 t914])) 2 rfl rfl (hon 4 (by kernel_rfl)) rfl
              have e24 : a.tmps[24]? = some (.agg #[.int .i64 t915, .int .i64 t916]) := by rw [ha]; exact putSel_on (e := (8, 24, .agg #[.int .i64 t915, .int .i64 t916])) 5 rfl rfl (hon 8 (by kernel_rfl)) rfl
              replace ha := Aside0.mk ha
              have BK906 := Aside0.mk Q_BK906
              have BK907 := Aside0.mk Q_BK907
              have BK908 := Aside0.mk Q_BK908
              have HB := Aside0.mk Q_HB
              refine value_ (w1 := w') (v := .agg #[.int .i64 t911, .int .i64 t912, .int .i64 t913, .int .i64 t914, .int .i64 t915, .int .i64 t916]) (by rfl) rfl ?_ ?_
              · go_simp
                (try simp only [i64_w])
                try rfl
              refine hK.out _ _ ⟨gb917, m10_, (by rw [ha.out]; exact putSel_upk 6 hb_ rfl rfl rfl), Q_BK906, Q_BK907, Q_BK908, Q_HB, Q_BK917, Q_GW917, Q_GE917, Q_NB906_917, Q_NB917_906, Q_NB907_917, Q_NB917_907, Q_NB908_917, Q_NB917_908, fun h0_ => absurd ((hoff 11 (by kernel_rfl)).symm.trans h0_) (by decide), Q_X10_⟩
            refine steps_cons ?_ ?_
            · rintro b a w' ⟨gb917, m10_, ha, Q_BK906, Q_BK907, Q_BK908, Q_HB, Q_BK917, Q_GW917, Q_GE917, Q_NB906_917, Q_NB917_906, Q_NB907_917, Q_NB917_907, Q_NB908_917, Q_NB917_908, Q_BK917_e11, Q_X10_⟩ hb_ hon hoff
              refine ⟨_, rfl, fun K hK => ?_⟩
              replace ha := Aside0.mk ha
              have BK906 := Aside0.mk Q_BK906
              have BK907 := Aside0.mk Q_BK907
              have BK908 := Aside0.mk Q_BK908
              have HB := Aside0.mk Q_HB
              refine box_step ?hg (N := 6) ?hd (cs := #[.int .i64 0, .int .i64 0, .int .i64 0, .int .i64 0, .int .i64 0, .int .i64 0]) (t := 55) ?hr ?_; (case hd => rfl); (case hg => rfl); (case hr => first | (go_simp; done) | (go_simp; rfl))
              intro gb917 hg w52 hbox hb
              have BK917 := Aside0.mk (hbox)
              have GW917 := gw hg HB
              have GE917 := gw hg HB
              have NB906_917 := nlt hg BK906
              have NB917_906 := ngt hg BK906
              have NB907_917 := nlt hg BK907
              have NB917_907 := ngt hg BK907
              have NB908_917 := nlt hg BK908
              have NB917_908 := ngt hg BK908
              replace BK906 := bb BK906 hb
              replace BK907 := bb BK907 hb
              replace BK908 := bb BK908 hb
              replace HB := bst HB hb
              clear hb hg
              refine hK.out _ _ ⟨gb917, (.pointer (some ⟨gb917, 0, none⟩)), (by rw [ha.out]; exact putSel_upk 7 hb_ rfl rfl rfl), (pk BK906), (pk BK907), (pk BK908), (bnow HB), fun _ _ => (pk BK917), fun _ => GW917.out, fun _ => GE917.out, fun _ => NB906_917.out, fun _ => NB917_906.out, fun _ => NB907_917.out, fun _ => NB917_907.out, fun _ => NB908_917.out, fun _ => NB917_908.out, fun h0_ => absurd ((hoff 11 (by kernel_rfl)).symm.trans h0_) (by decide), fun _ => rfl⟩
            refine steps_cons ?_ ?_
            · rintro b a w' ⟨gb917, m10_, ha, Q_BK906, Q_BK907, Q_BK908, Q_HB, Q_BK917, Q_GW917, Q_GE917, Q_NB906_917, Q_NB917_906, Q_NB907_917, Q_NB917_907, Q_NB908_917, Q_NB917_908, Q_BK917_e11, Q_X10_⟩ hb_ hon hoff
              refine ⟨_, rfl, fun K hK => ?_⟩
              have e6 : a.tmps[6]? = some (m10_) := by rw [ha]; exact putSel_on (e := (10, 6, m10_)) 7 rfl rfl (hon 10 (by kernel_rfl)) rfl
              rw [Q_X10_ (hon 10 (by kernel_rfl))] at e6
              have e25 : a.tmps[25]? = some (.agg #[.int .i64 t911, .int .i64 t912, .int .i64 t913, .int .i64 t914, .int .i64 t915, .int .i64 t916]) := by rw [ha]; exact putSel_on (e := (9, 25, .agg #[.int .i64 t911, .int .i64 t912, .int .i64 t913, .int .i64 t914, .int .i64 t915, .int .i64 t916])) 6 rfl rfl (hon 9 (by kernel_rfl)) rfl
              replace ha := Aside0.mk ha
              have BK906 := Aside0.mk Q_BK906
              have BK907 := Aside0.mk Q_BK907
              have BK908 := Aside0.mk Q_BK908
              have HB := Aside0.mk Q_HB
              have BK917 := Aside0.mk (Q_BK917 (hon 10 (by kernel_rfl)) hb_)
              have GW917 := Aside0.mk (Q_GW917 (hon 10 (by kernel_rfl)))
              have GE917 := Aside0.mk (Q_GE917 (hon 10 (by kernel_rfl)))
              have NB906_917 := Aside0.mk (Q_NB906_917 (hon 10 (by kernel_rfl)))
              have NB917_906 := Aside0.mk (Q_NB917_906 (hon 10 (by kernel_rfl)))
              have NB907_917 := Aside0.mk (Q_NB907_917 (hon 10 (by kernel_rfl)))
              have NB917_907 := Aside0.mk (Q_NB917_907 (hon 10 (by kernel_rfl)))
              have NB908_917 := Aside0.mk (Q_NB908_917 (hon 10 (by kernel_rfl)))
              have NB917_908 := Aside0.mk (Q_NB917_908 (hon 10 (by kernel_rfl)))
              have hs56 : w'.cell? ⟨gb917, 0, none⟩ = some (.int .i64 0) := (blk_cell BK917.out 0).trans rfl
              have hfs56 := blk_frozen BK917.out 0
              have hns56_0 := NB906_917.out
              have hns56_1 := NB907_917.out
              have hns56_2 := NB908_917.out
              have hms56_0 := NB917_906.out
              have hms56_1 := NB917_907.out
              have hms56_2 := NB917_908.out
              have hs57 : w'.cell? ⟨gb917, 1, none⟩ = some (.int .i64 0) := (blk_cell BK917.out 1).trans rfl
              have hfs57 := blk_frozen BK917.out 1
              have hns57_0 := NB906_917.out
              have hns57_1 := NB907_917.out
              have hns57_2 := NB908_917.out
              have hms57_0 := NB917_906.out
              have hms57_1 := NB917_907.out
              have hms57_2 := NB917_908.out
              have hs58 : w'.cell? ⟨gb917, 2, none⟩ = some (.int .i64 0) := (blk_cell BK917.out 2).trans rfl
              have hfs58 := blk_frozen BK917.out 2
              have hns58_0 := NB906_917.out
              have hns58_1 := NB907_917.out
              have hns58_2 := NB908_917.out
              have hms58_0 := NB917_906.out
              have hms58_1 := NB917_907.out
              have hms58_2 := NB917_908.out
              have hs59 : w'.cell? ⟨gb917, 3, none⟩ = some (.int .i64 0) := (blk_cell BK917.out 3).trans rfl
              have hfs59 := blk_frozen BK917.out 3
              have hns59_0 := NB906_917.out
              have hns59_1 := NB907_917.out
              have hns59_2 := NB908_917.out
              have hms59_0 := NB917_906.out
              have hms59_1 := NB917_907.out
              have hms59_2 := NB917_908.out
              have hs60 : w'.cell? ⟨gb917, 4, none⟩ = some (.int .i64 0) := (blk_cell BK917.out 4).trans rfl
              have hfs60 := blk_frozen BK917.out 4
              have hns60_0 := NB906_917.out
              have hns60_1 := NB907_917.out
              have hns60_2 := NB908_917.out
              have hms60_0 := NB917_906.out
              have hms60_1 := NB917_907.out
              have hms60_2 := NB917_908.out
              have hs61 : w'.cell? ⟨gb917, 5, none⟩ = some (.int .i64 0) := (blk_cell BK917.out 5).trans rfl
              have hfs61 := blk_frozen BK917.out 5
              have hns61_0 := NB906_917.out
              have hns61_1 := NB907_917.out
              have hns61_2 := NB908_917.out
              have hms61_0 := NB917_906.out
              have hms61_1 := NB917_907.out
              have hms61_2 := NB917_908.out
              refine skip_ (w1 := ?_) (by rfl) rfl ?_ ?_
              rotate_left
              · go_simp
                rfl
              refine hK.out _ _ ⟨gb917, m10_, (by rw [ha.out]; exact putSel_none (v := undef) rfl), (by (with_reducible repeat (first | refine blk_drewN ?_ _ | refine blk_drew ?_ | refine blk_alloc ?_ _)); refine blk_far ?_ NB906_917.out _; (with_reducible repeat (first | refine blk_drewN ?_ _ | refine blk_drew ?_ | refine blk_alloc ?_ _)); refine blk_far ?_ NB906_917.out _; (with_reducible repeat (first | refine blk_drewN ?_ _ | refine blk_drew ?_ | refine blk_alloc ?_ _)); refine blk_far ?_ NB906_917.out _; (with_reducible repeat (first | refine blk_drewN ?_ _ | refine blk_drew ?_ | refine blk_alloc ?_ _)); refine blk_far ?_ NB906_917.out _; (with_reducible repeat (first | refine blk_drewN ?_ _ | refine blk_drew ?_ | refine blk_alloc ?_ _)); refine blk_far ?_ NB906_917.out _; (with_reducible repeat (first | refine blk_drewN ?_ _ | refine blk_drew ?_ | refine blk_alloc ?_ _)); refine blk_far ?_ NB906_917.out _; (with_reducible repeat (first | refine blk_drewN ?_ _ | refine blk_drew ?_ | refine blk_alloc ?_ _)); exact BK906.out), (by (with_reducible repeat (first | refine blk_drewN ?_ _ | refine blk_drew ?_ | refine blk_alloc ?_ _)); refine blk_far ?_ NB907_917.out _; (with_reducible repeat (first | refine blk_drewN ?_ _ | refine blk_drew ?_ | refine blk_alloc ?_ _)); refine blk_far ?_ NB907_917.out _; (with_reducible repeat (first | refine blk_drewN ?_ _ | refine blk_drew ?_ | refine blk_alloc ?_ _)); refine blk_far ?_ NB907_917.out _; (with_reducible repeat (first | refine blk_drewN ?_ _ | refine blk_drew ?_ | refine blk_alloc ?_ _)); refine blk_far ?_ NB907_917.out _; (with_reducible repeat (first | refine blk_drewN ?_ _ | refine blk_drew ?_ | refine blk_alloc ?_ _)); refine blk_far ?_ NB907_917.out _; (with_reducible repeat (first | refine blk_drewN ?_ _ | refine blk_drew ?_ | refine blk_alloc ?_ _)); refine blk_far ?_ NB907_917.out _; (with_reducible repeat (first | refine blk_drewN ?_ _ | refine blk_drew ?_ | refine blk_alloc ?_ _)); exact BK907.out), (by (with_reducible repeat (first | refine blk_drewN ?_ _ | refine blk_drew ?_ | refine blk_alloc ?_ _)); refine blk_far ?_ NB908_917.out _; (with_reducible repeat (first | refine blk_drewN ?_ _ | refine blk_drew ?_ | refine blk_alloc ?_ _)); refine blk_far ?_ NB908_917.out _; (with_reducible repeat (first | refine blk_drewN ?_ _ | refine blk_drew ?_ | refine blk_alloc ?_ _)); refine blk_far ?_ NB908_917.out _; (with_reducible repeat (first | refine blk_drewN ?_ _ | refine blk_drew ?_ | refine blk_alloc ?_ _)); refine blk_far ?_ NB908_917.out _; (with_reducible repeat (first | refine blk_drewN ?_ _ | refine blk_drew ?_ | refine blk_alloc ?_ _)); refine blk_far ?_ NB908_917.out _; (with_reducible repeat (first | refine blk_drewN ?_ _ | refine blk_drew ?_ | refine blk_alloc ?_ _)); refine blk_far ?_ NB908_917.out _; (with_reducible repeat (first | refine blk_drewN ?_ _ | refine blk_drew ?_ | refine blk_alloc ?_ _)); exact BK908.out), (bnow HB), fun _ h1_ => absurd ((up_self b 11).symm.trans h1_) (by decide), fun _ => GW917.out, fun _ => GE917.out, fun _ => NB906_917.out, fun _ => NB917_906.out, fun _ => NB907_917.out, fun _ => NB917_907.out, fun _ => NB908_917.out, fun _ => NB917_908.out, fun _ => (by (with_reducible repeat (first | refine blk_drewN ?_ _ | refine blk_drew ?_ | refine blk_alloc ?_ _)); refine blk_put (cs := #[.int .i64 t911, .int .i64 t912, .int .i64 t913, .int .i64 t914, .int .i64 t915, .int .i64 0]) ?_ 5 _ rfl; (with_reducible repeat (first | refine blk_drewN ?_ _ | refine blk_drew ?_ | refine blk_alloc ?_ _)); refine blk_put (cs := #[.int .i64 t911, .int .i64 t912, .int .i64 t913, .int .i64 t914, .int .i64 0, .int .i64 0]) ?_ 4 _ rfl; (with_reducible repeat (first | refine blk_drewN ?_ _ | refine blk_drew ?_ | refine blk_alloc ?_ _)); refine blk_put (cs := #[.int .i64 t911, .int .i64 t912, .int .i64 t913, .int .i64 0, .int .i64 0, .int .i64 0]) ?_ 3 _ rfl; (with_reducible repeat (first | refine blk_drewN ?_ _ | refine blk_drew ?_ | refine blk_alloc ?_ _)); refine blk_put (cs := #[.int .i64 t911, .int .i64 t912, .int .i64 0, .int .i64 0, .int .i64 0, .int .i64 0]) ?_ 2 _ rfl; (with_reducible repeat (first | refine blk_drewN ?_ _ | refine blk_drew ?_ | refine blk_alloc ?_ _)); refine blk_put (cs := #[.int .i64 t911, .int .i64 0, .int .i64 0, .int .i64 0, .int .i64 0, .int .i64 0]) ?_ 1 _ rfl; (with_reducible repeat (first | refine blk_drewN ?_ _ | refine blk_drew ?_ | refine blk_alloc ?_ _)); refine blk_put (cs := #[.int .i64 0, .int .i64 0, .int .i64 0, .int .i64 0, .int .i64 0, .int .i64 0]) ?_ 0 _ rfl; (with_reducible repeat (first | refine blk_drewN ?_ _ | refine blk_drew ?_ | refine blk_alloc ?_ _)); exact BK917.out), Q_X10_⟩
            exact steps_nil
          rintro b a w61 hall ⟨gb917, m10_, ha, Q_BK906, Q_BK907, Q_BK908, Q_HB, Q_BK917, Q_GW917, Q_GE917, Q_NB906_917, Q_NB917_906, Q_NB907_917, Q_NB917_907, Q_NB908_917, Q_NB917_908, Q_BK917_e11, Q_X10_⟩
          clear BK906 BK907 BK908 HB
          have hb1_ := hall 1 (by kernel_rfl)
          have hb3_ := hall 3 (by kernel_rfl)
          have hb4_ := hall 4 (by kernel_rfl)
          have hb5_ := hall 5 (by kernel_rfl)
          have hb7_ := hall 7 (by kernel_rfl)
          have hb8_ := hall 8 (by kernel_rfl)
          have hb9_ := hall 9 (by kernel_rfl)
          have hb10_ := hall 10 (by kernel_rfl)
          have hb11_ := hall 11 (by kernel_rfl)
          subst ha
          obtain rfl := Q_X10_ hb10_
          simp only [putSel, hb1_, hb3_, hb4_, hb5_, hb7_, hb8_, hb9_, hb10_, hb11_, if_true, Act.put, List.setIfInBounds_toArray, List.set_cons_zero, List.set_cons_succ]
          have BK906 := Aside0.mk Q_BK906
          clear Q_BK906
          have BK907 := Aside0.mk Q_BK907
          clear Q_BK907
          have BK908 := Aside0.mk Q_BK908
          clear Q_BK908
          have HB := Aside0.mk Q_HB
          clear Q_HB
          clear Q_BK917
          have GW917 := Aside0.mk (Q_GW917 hb10_)
          clear Q_GW917
          have GE917 := Aside0.mk (Q_GE917 hb10_)
          clear Q_GE917
          have NB906_917 := Aside0.mk (Q_NB906_917 hb10_)
          clear Q_NB906_917
          have NB917_906 := Aside0.mk (Q_NB917_906 hb10_)
          clear Q_NB917_906
          have NB907_917 := Aside0.mk (Q_NB907_917 hb10_)
          clear Q_NB907_917
          have NB917_907 := Aside0.mk (Q_NB917_907 hb10_)
          clear Q_NB917_907
          have NB908_917 := Aside0.mk (Q_NB908_917 hb10_)
          clear Q_NB908_917
          have NB917_908 := Aside0.mk (Q_NB917_908 hb10_)
          clear Q_NB917_908
          have BK917 := Aside0.mk (Q_BK917_e11 hb11_)
          clear Q_BK917_e11
          clear hall hb1_ hb3_ hb4_ hb5_ hb7_ hb8_ hb9_ hb10_ hb11_
          have hnb62 := NB917_906.out
          have hnc62 := NB906_917.out
          have hnb63 := NB917_907.out
          have hnc63 := NB907_917.out
          have hnb64 := NB917_908.out
          have hnc64 := NB908_917.out
          have ⟨hcz65_0, hcz65_1, hcz65_2, hcz65_3, hcz65_4, hcz65_5, hfz65_0, hfz65_1, hfz65_2, hfz65_3, hfz65_4, hfz65_5⟩ := cf6 BK917
          try go_wp2_with (first | ((with_reducible refine gate_callee (f := 64) rfl ?_); refine gl 27 Try.func64 (torchonref06_move.calls t911 t912 t913 t914 t915 t916 false _ A28.out) ?_; rintro e w66 ⟨rfl, hb⟩; refine ⟨_, rfl, ?_⟩; replace BK906 := bb BK906 hb; replace BK907 := bb BK907 hb; replace BK908 := bb BK908 hb; replace BK917 := bb BK917 hb; replace HB := bst HB hb; clear hb; have hnb67 := NB908_906.out; have hnc67 := NB906_908.out; have hnb68 := NB908_907.out; have hnc68 := NB907_908.out; have ⟨hcz69_0, hcz69_1, hcz69_2, hcz69_3, hcz69_4, hcz69_5, hfz69_0, hfz69_1, hfz69_2, hfz69_3, hfz69_4, hfz69_5⟩ := cf6 BK908) | ((with_reducible refine gate_store (t := 55) (p := 4) rfl ?_); refine sx 55 4 (((((((w66.setCell ⟨gb908, 0, none⟩ (.int .i64 0)).setCell ⟨gb908, 1, none⟩ (.int .i64 0)).setCell ⟨gb908, 2, none⟩ (.int .i64 0)).setCell ⟨gb908, 3, none⟩ (.int .i64 0)).setCell ⟨gb908, 4, none⟩ (.int .i64 0)).setCell ⟨gb908, 5, none⟩ (.int .i64 0))) fun w70 hw => ?_; replace BK906 := fw hw BK906; replace BK907 := fw hw BK907; replace BK908 := pw6 hw BK908; replace BK917 := fw hw BK917; replace HB := bw hw HB; clear hw))
          refine bodyPost_ret (results_ct rfl _ _ gb908 55 #[.int .i64 0, .int .i64 0, .int .i64 0, .int .i64 0, .int .i64 0, .int .i64 0] (0, 0) _ rfl (pk BK908) Try.underlying55 rfl (by kernel_rfl)) rfl ?_
          exact rt HB
end
section
/-! ### grids_Invert: function 31 -/
def grids_Invert.j0 : Nat → Bool → Int → Int → Int → Int → Int → Int → Option (Int × Int × Int × Int × Int × Int × Int)
  | 0, _, _, _, _, _, _, _ => none
  | k + 1, x19, x920000, x920001, x920002, x920003, x920004, x920005 => if x19 = true then (some (0, 0, 0, 0, 0, 0, 6)) else ((grids_inverse.f x920000 x920001 x920002 x920003).bind fun bt923 => ((grids_image.f bt923.1 bt923.2.1 bt923.2.2.1 bt923.2.2.2 0 0 x920004 x920005).bind fun bt928 => ((some (wrap64 (-bt928.1))).bind fun z931 => ((some (wrap64 (-bt928.2))).bind fun z932 => ((grids_valid.f k bt923.1 bt923.2.1 bt923.2.2.1 bt923.2.2.2 z931 z932).bind fun bt933 => (some (bt933.1, bt933.2.1, bt933.2.2.1, bt933.2.2.2.1, bt933.2.2.2.2.1, bt933.2.2.2.2.2.1, bt933.2.2.2.2.2.2)))))))
def grids_Invert.f (k : Nat) (a0_0 : Int) (a0_1 : Int) (a0_2 : Int) (a0_3 : Int) (a0_4 : Int) (a0_5 : Int) : Option (Int × Int × Int × Int × Int × Int × Int) := (grids_move.f k a0_0 a0_1 a0_2 a0_3 a0_4 a0_5).bind fun t921 => (if t921 = true then ((grids_det.f a0_0 a0_1 a0_2 a0_3).bind fun t922 => (if t922 = 1 then (grids_Invert.j0 k false a0_0 a0_1 a0_2 a0_3 a0_4 a0_5) else (grids_Invert.j0 k (t922 != (-1)) a0_0 a0_1 a0_2 a0_3 a0_4 a0_5))) else (some (0, 0, 0, 0, 0, 0, 2)))
theorem grids_Invert.mono_l : ∀ k, (∀ y0 y1 y2 y3 y4 y5 y6, LeO (grids_Invert.j0 k y0 y1 y2 y3 y4 y5 y6) (grids_Invert.j0 (k + 1) y0 y1 y2 y3 y4 y5 y6))
  | 0 => fun _ _ _ _ _ _ _ r h => by simp [grids_Invert.j0] at h
  | k + 1 => by
    have ih0 := grids_Invert.mono_l k
    · intro y0 y1 y2 y3 y4 y5 y6
      unfold grids_Invert.j0
      repeat' first
      | (with_reducible exact ih0 _ _ _ _ _ _ _)
      | (with_reducible exact grids_move.mono _ _ _ _ _ _ _)
      | (with_reducible exact grids_valid.mono _ _ _ _ _ _ _)
      | (with_reducible exact LeO.refl _)
      | (with_reducible exact LeO.none _)
      | (with_reducible refine LeO.ite ?_ ?_)
      | (with_reducible refine LeO.bind ?_ (fun _ => ?_))
      | exact ih0 _ _ _ _ _ _ _
      | exact grids_move.mono _ _ _ _ _ _ _
      | exact grids_valid.mono _ _ _ _ _ _ _
      | exact LeO.none _
      | refine LeO.ite ?_ ?_
      | refine LeO.bind ?_ (fun _ => ?_)
theorem grids_Invert.mono : ∀ a0 a1 a2 a3 a4 a5 k, LeO (grids_Invert.f k a0 a1 a2 a3 a4 a5) (grids_Invert.f (k + 1) a0 a1 a2 a3 a4 a5) := by
  intro a0 a1 a2 a3 a4 a5 k
  have ih0 := grids_Invert.mono_l k
  unfold grids_Invert.f
  repeat' first
      | (with_reducible exact ih0 _ _ _ _ _ _ _)
      | (with_reducible exact grids_move.mono _ _ _ _ _ _ _)
      | (with_reducible exact grids_valid.mono _ _ _ _ _ _ _)
      | (with_reducible exact LeO.refl _)
      | (with_reducible exact LeO.none _)
      | (with_reducible refine LeO.ite ?_ ?_)
      | (with_reducible refine LeO.bind ?_ (fun _ => ?_))
      | exact ih0 _ _ _ _ _ _ _
      | exact grids_move.mono _ _ _ _ _ _ _
      | exact grids_valid.mono _ _ _ _ _ _ _
      | exact LeO.none _
      | refine LeO.ite ?_ ?_
      | refine LeO.bind ?_ (fun _ => ?_)
set_option maxHeartbeats 8000000 in
set_option maxRecDepth 100000 in
theorem grids_Invert.calls (k : Nat) (a0_0 : Int) (a0_1 : Int) (a0_2 : Int) (a0_3 : Int) (a0_4 : Int) (a0_5 : Int) (r1 : Int) (r2 : Int) (r3 : Int) (r4 : Int) (r5 : Int) (r6 : Int) (r7 : Int) (w : World) (h : grids_Invert.f k a0_0 a0_1 a0_2 a0_3 a0_4 a0_5 = some (r1, r2, r3, r4, r5, r6, r7)) :
    Calls Try.prog 31 #[.agg #[.int .i64 a0_0, .int .i64 a0_1, .int .i64 a0_2, .int .i64 a0_3, .int .i64 a0_4, .int .i64 a0_5]] w fun e w' => e = .returned (.tuple #[.agg #[.int .i64 r1, .int .i64 r2, .int .i64 r3, .int .i64 r4, .int .i64 r5, .int .i64 r6], .int .i64 r7]) ∧ Below w.heap.size w w' := by
  have hu55 := Try.underlying55
  have hu25 := Try.underlying25
  have hu37 := Try.underlying37
  have HB := Aside0.mk (Below.refl w.heap.size w)
  have H : ((grids_move.f k a0_0 a0_1 a0_2 a0_3 a0_4 a0_5).bind fun t921 => (if t921 = true then ((grids_det.f a0_0 a0_1 a0_2 a0_3).bind fun t922 => (if t922 = 1 then (grids_Invert.j0 k false a0_0 a0_1 a0_2 a0_3 a0_4 a0_5) else (grids_Invert.j0 k (t922 != (-1)) a0_0 a0_1 a0_2 a0_3 a0_4 a0_5))) else (some (0, 0, 0, 0, 0, 0, 2)))) = some (r1, r2, r3, r4, r5, r6, r7) := h
  clear h
  obtain ⟨t921, A2, H⟩ := ob H
  by_cases c3 : t921 = true
  · subst c3
    have H1 : ((grids_det.f a0_0 a0_1 a0_2 a0_3).bind fun t922 => (if t922 = 1 then (grids_Invert.j0 k false a0_0 a0_1 a0_2 a0_3 a0_4 a0_5) else (grids_Invert.j0 k (t922 != (-1)) a0_0 a0_1 a0_2 a0_3 a0_4 a0_5))) = some (r1, r2, r3, r4, r5, r6, r7) := by rw [if_pos rfl] at H; exact H
    clear H
    have H := H1
    clear H1
    obtain ⟨t922, A4, H⟩ := ob H
    have HC5 := Aside0.mk H
    clear H
    go_enter Try.func31, Try.ntmps31
    go_upto_region 4 with (first | ((with_reducible refine gate_dst (N := 1) rfl ?_); refine bx 1 #[.int .i64 a0_0, .int .i64 a0_1, .int .i64 a0_2, .int .i64 a0_3, .int .i64 a0_4, .int .i64 a0_5] 55 fun gb919 hg w6 BK919 hb => ?_; have GW919 := gw hg HB; have GE919 := gw hg HB; replace HB := bst HB hb; clear hb hg) | ((with_reducible refine gate_dst (N := 2) rfl ?_); refine bx 2 #[.int .i64 0, .int .i64 0, .int .i64 0, .int .i64 0, .int .i64 0, .int .i64 0] 55 fun gb920 hg w7 BK920 hb => ?_; have GW920 := gw hg HB; have GE920 := gw hg HB; have NB919_920 := nlt hg BK919; have NB920_919 := ngt hg BK919; replace BK919 := bb BK919 hb; replace HB := bst HB hb; clear hb hg; have hnb8 := NB919_920.out; have hnc8 := NB920_919.out; have ⟨hcz9_0, hcz9_1, hcz9_2, hcz9_3, hcz9_4, hcz9_5, hfz9_0, hfz9_1, hfz9_2, hfz9_3, hfz9_4, hfz9_5⟩ := cf6 BK919) | ((with_reducible refine gate_callee (f := 62) rfl ?_); refine gl 8 Try.func62 (grids_move.calls k a0_0 a0_1 a0_2 a0_3 a0_4 a0_5 true _ A2.out) ?_; rintro e w10 ⟨rfl, hb⟩; refine ⟨_, rfl, ?_⟩; replace BK919 := bb BK919 hb; replace BK920 := bb BK920 hb; replace HB := bst HB hb; clear hb; have ⟨hcz11_0, hcz11_1, hcz11_2, hcz11_3, hcz11_4, hcz11_5, hfz11_0, hfz11_1, hfz11_2, hfz11_3, hfz11_4, hfz11_5⟩ := cf6 BK919) | ((with_reducible refine gate_callee (f := 68) rfl ?_); refine gl 13 Try.func68 (grids_det.calls a0_0 a0_1 a0_2 a0_3 t922 _ A4.out) ?_; rintro e w12 ⟨rfl, hb⟩; refine ⟨_, rfl, ?_⟩; replace BK919 := bb BK919 hb; replace BK920 := bb BK920 hb; replace HB := bst HB hb; clear hb))
    (try simp only [Act.put, List.setIfInBounds_toArray, List.set_cons_zero, List.set_cons_succ])
    go_cut [19] (fun v19 wc => ∃ (kq : Nat) (x19_4 : Bool), v19 = .bool x19_4 ∧ Aside0 (grids_Invert.j0 kq x19_4 a0_0 a0_1 a0_2 a0_3 a0_4 a0_5 = some (r1, r2, r3, r4, r5, r6, r7)) ∧ Aside0 (kq ≤ k) ∧ Aside0 (wc.heap[gb919]? = some (.cells #[.int .i64 a0_0, .int .i64 a0_1, .int .i64 a0_2, .int .i64 a0_3, .int .i64 a0_4, .int .i64 a0_5] 55 (0, 0))) ∧ Aside0 (wc.heap[gb920]? = some (.cells #[.int .i64 0, .int .i64 0, .int .i64 0, .int .i64 0, .int .i64 0, .int .i64 0] 55 (0, 0))) ∧ Aside0 (Below w.heap.size w wc))
    case first =>
      have H := HC5.out
      clear HC5
      by_cases c13 : t922 = 1
      · rw [if_pos c13] at H
        have c13b0 : (t922 == 1) = true := beq_iff_eq.mpr c13
        have c13b1 : (t922 != 1) = false := bne_eq_false_iff_eq.mpr c13
        clear c13
        (first | rw [c13b0] | (simp only [i64_w, i32_w]; rw [c13b0]) | skip)
        have H' := Aside0.mk H
        clear H
        go_wp2
        go_meet
        case rel => exact ⟨_, (false), (by first | rfl | (simp; done) | (simp [*]; done)), H', ⟨by first | omega | exact Nat.le_refl _⟩, ⟨pk BK919⟩, ⟨pk BK920⟩, ⟨bnow HB⟩⟩
      · rw [if_neg c13] at H
        have c13b0 : (t922 == 1) = false := beq_eq_false_iff_ne.mpr c13
        have c13b1 : (t922 != 1) = true := bne_iff_ne.mpr c13
        (first | rw [c13b0] | (simp only [i64_w, i32_w]; rw [c13b0]) | skip)
        have H' := Aside0.mk H
        clear H
        go_wp2
        go_meet
        case rel => exact ⟨_, ((t922 != (-1))), (by first | rfl | (simp; done) | (simp [*]; done)), H', ⟨by first | omega | exact Nat.le_refl _⟩, ⟨pk BK919⟩, ⟨pk BK920⟩, ⟨bnow HB⟩⟩
    case rest =>
      clear HC5
      try clear c1; try clear p2; try clear c3; try clear c6; try clear c8; try clear c13; try clear c13b0; try clear c13b1; try clear hcz11_0; try clear hcz11_1; try clear hcz11_2; try clear hcz11_3; try clear hcz11_4; try clear hcz11_5; try clear hcz9_0; try clear hcz9_1; try clear hcz9_2; try clear hcz9_3; try clear hcz9_4; try clear hcz9_5; try clear hfz11_0; try clear hfz11_1; try clear hfz11_2; try clear hfz11_3; try clear hfz11_4; try clear hfz11_5; try clear hfz9_0; try clear hfz9_1; try clear hfz9_2; try clear hfz9_3; try clear hfz9_4; try clear hfz9_5
      obtain ⟨kq, x19_4, rfl, HA, HJ4, BK919, BK920, HB⟩ := hcut
      cases kq with
      | zero => exact absurd HA.out (by simp [grids_Invert.j0])
      | succ kj4 =>
        have H := HA.out
        clear HA
        simp only [grids_Invert.j0] at H
        by_cases c14 : x19_4 = true
        · subst c14
          have H1 : (some (0, 0, 0, 0, 0, 0, 6)) = some (r1, r2, r3, r4, r5, r6, r7) := by rw [if_pos rfl] at H; exact H
          clear H
          have H := H1
          clear H1
          simp only [Option.some.injEq, Prod.mk.injEq] at H
          obtain ⟨rfl, rfl, rfl, rfl, rfl, rfl, rfl⟩ := H
          have hnb15 := NB920_919.out
          have hnc15 := NB919_920.out
          have ⟨hcz16_0, hcz16_1, hcz16_2, hcz16_3, hcz16_4, hcz16_5, hfz16_0, hfz16_1, hfz16_2, hfz16_3, hfz16_4, hfz16_5⟩ := cf6 BK920
          go_wp2_with (first | ((with_reducible refine gate_store (t := 55) (p := 2) rfl ?_); refine sx 55 2 (((((((wc.setCell ⟨gb920, 0, none⟩ (.int .i64 0)).setCell ⟨gb920, 1, none⟩ (.int .i64 0)).setCell ⟨gb920, 2, none⟩ (.int .i64 0)).setCell ⟨gb920, 3, none⟩ (.int .i64 0)).setCell ⟨gb920, 4, none⟩ (.int .i64 0)).setCell ⟨gb920, 5, none⟩ (.int .i64 0))) fun w17 hw => ?_; replace BK919 := fw hw BK919; replace BK920 := pw6 hw BK920; replace HB := bw hw HB; clear hw))
          refine bodyPost_ret (results_ct rfl _ _ gb920 55 #[.int .i64 0, .int .i64 0, .int .i64 0, .int .i64 0, .int .i64 0, .int .i64 0] (0, 0) _ rfl (pk BK920) Try.underlying55 rfl (by kernel_rfl)) rfl ?_
          exact rt HB
        · replace c14 := Bool.eq_false_iff.mpr c14
          subst c14
          have H1 : ((grids_inverse.f a0_0 a0_1 a0_2 a0_3).bind fun bt923 => ((grids_image.f bt923.1 bt923.2.1 bt923.2.2.1 bt923.2.2.2 0 0 a0_4 a0_5).bind fun bt928 => ((some (wrap64 (-bt928.1))).bind fun z931 => ((some (wrap64 (-bt928.2))).bind fun z932 => ((grids_valid.f kj4 bt923.1 bt923.2.1 bt923.2.2.1 bt923.2.2.2 z931 z932).bind fun bt933 => (some (bt933.1, bt933.2.1, bt933.2.2.1, bt933.2.2.2.1, bt933.2.2.2.2.1, bt933.2.2.2.2.2.1, bt933.2.2.2.2.2.2))))))) = some (r1, r2, r3, r4, r5, r6, r7) := by rw [if_neg (show ¬ (false = true) by decide)] at H; exact H
          clear H
          have H := H1
          clear H1
          obtain ⟨⟨t923, t924, t925, t926⟩, A18, H⟩ := ob H
          obtain ⟨⟨t928, t929⟩, A19, H⟩ := ob H
          obtain ⟨z931, E200, H⟩ := oc H
          have E20w : (IntKind.i64.wrap (-t928)) = z931 := (i64_w _).trans E200
          obtain ⟨z932, E210, H⟩ := oc H
          have E21w : (IntKind.i64.wrap (-t929)) = z932 := (i64_w _).trans E210
          obtain ⟨⟨t933, t934, t935, t936, t937, t938, t939⟩, A22, H⟩ := ob H
          simp only [Option.some.injEq, Prod.mk.injEq] at H
          obtain ⟨rfl, rfl, rfl, rfl, rfl, rfl, rfl⟩ := H
          have hnb23 := NB919_920.out
          have hnc23 := NB920_919.out
          have ⟨hcz24_0, hcz24_1, hcz24_2, hcz24_3, hcz24_4, hcz24_5, hfz24_0, hfz24_1, hfz24_2, hfz24_3, hfz24_4, hfz24_5⟩ := cf6 BK919
          go_wp2_with (first | ((with_reducible refine gate_callee (f := 57) rfl ?_); refine gl 23 Try.func57 (grids_inverse.calls a0_0 a0_1 a0_2 a0_3 t923 t924 t925 t926 _ A18.out) ?_; rintro e w25 ⟨rfl, hb⟩; refine ⟨_, rfl, ?_⟩; replace BK919 := bb BK919 hb; replace BK920 := bb BK920 hb; replace HB := bst HB hb; clear hb) | ((with_reducible refine gate_dst (N := 5) rfl ?_); refine bx 5 #[.int .i64 0, .int .i64 0, .int .i64 0, .int .i64 0, .int .i64 0, .int .i64 0] 55 fun gb927 hg w26 BK927 hb => ?_; have GW927 := gw hg HB; have GE927 := gw hg HB; have NB919_927 := nlt hg BK919; have NB927_919 := ngt hg BK919; have NB920_927 := nlt hg BK920; have NB927_920 := ngt hg BK920; replace BK919 := bb BK919 hb; replace BK920 := bb BK920 hb; replace HB := bst HB hb; clear hb hg; have hnb27 := NB927_919.out; have hnc27 := NB919_927.out; have hnb28 := NB927_920.out; have hnc28 := NB920_927.out; have ⟨hcz29_0, hcz29_1, hcz29_2, hcz29_3, hcz29_4, hcz29_5, hfz29_0, hfz29_1, hfz29_2, hfz29_3, hfz29_4, hfz29_5⟩ := cf6 BK927) | ((with_reducible refine gate_store (t := 55) (p := 5) rfl ?_); refine sx 55 5 (((((((w26.setCell ⟨gb927, 0, none⟩ (.int .i64 t923)).setCell ⟨gb927, 1, none⟩ (.int .i64 t924)).setCell ⟨gb927, 2, none⟩ (.int .i64 t925)).setCell ⟨gb927, 3, none⟩ (.int .i64 t926)).setCell ⟨gb927, 4, none⟩ (.int .i64 0)).setCell ⟨gb927, 5, none⟩ (.int .i64 0))) fun w30 hw => ?_; replace BK919 := fw hw BK919; replace BK920 := fw hw BK920; replace BK927 := pw6 hw BK927; replace HB := bw hw HB; clear hw; have ⟨hcz31_0, hcz31_1, hcz31_2, hcz31_3, hcz31_4, hcz31_5, hfz31_0, hfz31_1, hfz31_2, hfz31_3, hfz31_4, hfz31_5⟩ := cf6 BK927; have ⟨hcz32_0, hcz32_1, hcz32_2, hcz32_3, hcz32_4, hcz32_5, hfz32_0, hfz32_1, hfz32_2, hfz32_3, hfz32_4, hfz32_5⟩ := cf6 BK919) | ((with_reducible refine gate_callee (f := 63) rfl ?_); refine gl 28 Try.func63 (grids_image.calls t923 t924 t925 t926 0 0 a0_4 a0_5 t928 t929 _ A19.out) ?_; rintro e w33 ⟨rfl, hb⟩; refine ⟨_, rfl, ?_⟩; replace BK919 := bb BK919 hb; replace BK920 := bb BK920 hb; replace BK927 := bb BK927 hb; replace HB := bst HB hb; clear hb) | ((with_reducible refine gate_dst (N := 6) rfl ?_); refine bx 6 #[.int .i64 0, .int .i64 0] 37 fun gb930 hg w34 BK930 hb => ?_; have GW930 := gw hg HB; have GE930 := gw hg HB; have NB919_930 := nlt hg BK919; have NB930_919 := ngt hg BK919; have NB920_930 := nlt hg BK920; have NB930_920 := ngt hg BK920; have NB927_930 := nlt hg BK927; have NB930_927 := ngt hg BK927; replace BK919 := bb BK919 hb; replace BK920 := bb BK920 hb; replace BK927 := bb BK927 hb; replace HB := bst HB hb; clear hb hg; have hnb35 := NB930_919.out; have hnc35 := NB919_930.out; have hnb36 := NB930_920.out; have hnc36 := NB920_930.out; have hnb37 := NB930_927.out; have hnc37 := NB927_930.out; have ⟨hcz38_0, hcz38_1, hfz38_0, hfz38_1⟩ := cf2 BK930; have ⟨hcz39_0, hcz39_1, hcz39_2, hcz39_3, hcz39_4, hcz39_5, hfz39_0, hfz39_1, hfz39_2, hfz39_3, hfz39_4, hfz39_5⟩ := cf6 BK927) | ((with_reducible refine gate_store (t := 37) (p := 36) rfl ?_); refine sx 37 36 (((((w34.setCell ⟨gb930, 0, none⟩ (.int .i64 t928)).setCell ⟨gb930, 1, none⟩ (.int .i64 t929)).setCell ⟨gb927, 4, none⟩ (.int .i64 z931)).setCell ⟨gb927, 5, none⟩ (.int .i64 z932))) fun w40 hw => ?_; have n0_ := fw hw BK919; have n1_ := fw hw BK920; have n2_ : Aside0 (w40.heap[gb927]? = some (.cells #[.int .i64 t923, .int .i64 t924, .int .i64 t925, .int .i64 t926, .int .i64 z931, .int .i64 z932] 55 (0, 0))) := ⟨(by rw [hw]; exact (by (with_reducible repeat (first | refine blk_drewN ?_ _ | refine blk_drew ?_ | refine blk_alloc ?_ _)); refine blk_put (cs := #[.int .i64 t923, .int .i64 t924, .int .i64 t925, .int .i64 t926, .int .i64 z931, .int .i64 0]) ?_ 5 _ rfl; (with_reducible repeat (first | refine blk_drewN ?_ _ | refine blk_drew ?_ | refine blk_alloc ?_ _)); refine blk_put (cs := #[.int .i64 t923, .int .i64 t924, .int .i64 t925, .int .i64 t926, .int .i64 0, .int .i64 0]) ?_ 4 _ rfl; (with_reducible repeat (first | refine blk_drewN ?_ _ | refine blk_drew ?_ | refine blk_alloc ?_ _)); refine blk_far ?_ NB927_930.out _; (with_reducible repeat (first | refine blk_drewN ?_ _ | refine blk_drew ?_ | refine blk_alloc ?_ _)); refine blk_far ?_ NB927_930.out _; (with_reducible repeat (first | refine blk_drewN ?_ _ | refine blk_drew ?_ | refine blk_alloc ?_ _)); exact BK927.out))⟩; have n3_ : Aside0 (w40.heap[gb930]? = some (.cells #[.int .i64 t928, .int .i64 t929] 37 (0, 0))) := ⟨(by rw [hw]; exact (by (with_reducible repeat (first | refine blk_drewN ?_ _ | refine blk_drew ?_ | refine blk_alloc ?_ _)); refine blk_far ?_ NB930_927.out _; (with_reducible repeat (first | refine blk_drewN ?_ _ | refine blk_drew ?_ | refine blk_alloc ?_ _)); refine blk_far ?_ NB930_927.out _; (with_reducible repeat (first | refine blk_drewN ?_ _ | refine blk_drew ?_ | refine blk_alloc ?_ _)); refine blk_put (cs := #[.int .i64 t928, .int .i64 0]) ?_ 1 _ rfl; (with_reducible repeat (first | refine blk_drewN ?_ _ | refine blk_drew ?_ | refine blk_alloc ?_ _)); refine blk_put (cs := #[.int .i64 0, .int .i64 0]) ?_ 0 _ rfl; (with_reducible repeat (first | refine blk_drewN ?_ _ | refine blk_drew ?_ | refine blk_alloc ?_ _)); exact BK930.out))⟩; have n4_ := bw hw HB; clear hw; clear BK919; clear BK920; clear BK927; clear BK930; clear HB; have BK919 := n0_; have BK920 := n1_; have BK927 := n2_; have BK930 := n3_; have HB := n4_; clear n0_ n1_ n2_ n3_ n4_; have ⟨hcz41_0, hcz41_1, hcz41_2, hcz41_3, hcz41_4, hcz41_5, hfz41_0, hfz41_1, hfz41_2, hfz41_3, hfz41_4, hfz41_5⟩ := cf6 BK927) | ((with_reducible refine gate_callee (f := 67) rfl ?_); refine gl 38 Try.func67 (grids_valid.calls kj4 t923 t924 t925 t926 z931 z932 t933 t934 t935 t936 t937 t938 t939 _ A22.out) ?_; rintro e w42 ⟨rfl, hb⟩; refine ⟨_, rfl, ?_⟩; replace BK919 := bb BK919 hb; replace BK920 := bb BK920 hb; replace BK927 := bb BK927 hb; replace BK930 := bb BK930 hb; replace HB := bst HB hb; clear hb; have ⟨hcz43_0, hcz43_1, hcz43_2, hcz43_3, hcz43_4, hcz43_5, hfz43_0, hfz43_1, hfz43_2, hfz43_3, hfz43_4, hfz43_5⟩ := cf6 BK920) | ((with_reducible refine gate_store (t := 55) (p := 2) rfl ?_); refine sx 55 2 (((((((w42.setCell ⟨gb920, 0, none⟩ (.int .i64 t933)).setCell ⟨gb920, 1, none⟩ (.int .i64 t934)).setCell ⟨gb920, 2, none⟩ (.int .i64 t935)).setCell ⟨gb920, 3, none⟩ (.int .i64 t936)).setCell ⟨gb920, 4, none⟩ (.int .i64 t937)).setCell ⟨gb920, 5, none⟩ (.int .i64 t938))) fun w44 hw => ?_; replace BK919 := fw hw BK919; replace BK920 := pw6 hw BK920; replace BK927 := fw hw BK927; replace BK930 := fw hw BK930; replace HB := bw hw HB; clear hw))
          refine bodyPost_ret (results_ct rfl _ _ gb920 55 #[.int .i64 t933, .int .i64 t934, .int .i64 t935, .int .i64 t936, .int .i64 t937, .int .i64 t938] (0, 0) _ rfl (pk BK920) Try.underlying55 rfl (by kernel_rfl)) rfl ?_
          exact rt HB
  · replace c3 := Bool.eq_false_iff.mpr c3
    subst c3
    have H1 : (some (0, 0, 0, 0, 0, 0, 2)) = some (r1, r2, r3, r4, r5, r6, r7) := by rw [if_neg (show ¬ (false = true) by decide)] at H; exact H
    clear H
    have H := H1
    clear H1
    simp only [Option.some.injEq, Prod.mk.injEq] at H
    obtain ⟨rfl, rfl, rfl, rfl, rfl, rfl, rfl⟩ := H
    go_enter Try.func31, Try.ntmps31
    go_wp2_with (first | ((with_reducible refine gate_dst (N := 1) rfl ?_); refine bx 1 #[.int .i64 a0_0, .int .i64 a0_1, .int .i64 a0_2, .int .i64 a0_3, .int .i64 a0_4, .int .i64 a0_5] 55 fun gb919 hg w45 BK919 hb => ?_; have GW919 := gw hg HB; have GE919 := gw hg HB; replace HB := bst HB hb; clear hb hg) | ((with_reducible refine gate_dst (N := 2) rfl ?_); refine bx 2 #[.int .i64 0, .int .i64 0, .int .i64 0, .int .i64 0, .int .i64 0, .int .i64 0] 55 fun gb920 hg w46 BK920 hb => ?_; have GW920 := gw hg HB; have GE920 := gw hg HB; have NB919_920 := nlt hg BK919; have NB920_919 := ngt hg BK919; replace BK919 := bb BK919 hb; replace HB := bst HB hb; clear hb hg; have hnb47 := NB919_920.out; have hnc47 := NB920_919.out; have ⟨hcz48_0, hcz48_1, hcz48_2, hcz48_3, hcz48_4, hcz48_5, hfz48_0, hfz48_1, hfz48_2, hfz48_3, hfz48_4, hfz48_5⟩ := cf6 BK919) | ((with_reducible refine gate_callee (f := 62) rfl ?_); refine gl 8 Try.func62 (grids_move.calls k a0_0 a0_1 a0_2 a0_3 a0_4 a0_5 false _ A2.out) ?_; rintro e w49 ⟨rfl, hb⟩; refine ⟨_, rfl, ?_⟩; replace BK919 := bb BK919 hb; replace BK920 := bb BK920 hb; replace HB := bst HB hb; clear hb; have ⟨hcz50_0, hcz50_1, hcz50_2, hcz50_3, hcz50_4, hcz50_5, hfz50_0, hfz50_1, hfz50_2, hfz50_3, hfz50_4, hfz50_5⟩ := cf6 BK920) | ((with_reducible refine gate_store (t := 55) (p := 2) rfl ?_); refine sx 55 2 (((((((w49.setCell ⟨gb920, 0, none⟩ (.int .i64 0)).setCell ⟨gb920, 1, none⟩ (.int .i64 0)).setCell ⟨gb920, 2, none⟩ (.int .i64 0)).setCell ⟨gb920, 3, none⟩ (.int .i64 0)).setCell ⟨gb920, 4, none⟩ (.int .i64 0)).setCell ⟨gb920, 5, none⟩ (.int .i64 0))) fun w51 hw => ?_; replace BK919 := fw hw BK919; replace BK920 := pw6 hw BK920; replace HB := bw hw HB; clear hw))
    refine bodyPost_ret (results_ct rfl _ _ gb920 55 #[.int .i64 0, .int .i64 0, .int .i64 0, .int .i64 0, .int .i64 0, .int .i64 0] (0, 0) _ rfl (pk BK920) Try.underlying55 rfl (by kernel_rfl)) rfl ?_
    exact rt HB
end
section
/-! ### torchonref06_Invert: function 32 -/
def torchonref06_Invert.j0 : Nat → Int → Bool → Int → Int → Int → Int → Int → Int → Option (Int × Int × Int × Int × Int × Int × Int)
  | 0, _, _, _, _, _, _, _, _ => none
  | k + 1, x4, x31, x941000, x941001, x941002, x941003, x941004, x941005 => if x31 = true then (some (0, 0, 0, 0, 0, 0, 6)) else ((some (wrap64 (x4 * x941003))).bind fun z946 => ((some (wrap64 (-x4))).bind fun z947 => ((some (wrap64 (z947 * x941001))).bind fun z948 => ((some (wrap64 (z947 * x941002))).bind fun z949 => ((some (wrap64 (x4 * x941000))).bind fun z950 => ((torchonref06_image.f z946 z948 z949 z950 x941004 x941005).bind fun bt952 => ((some (wrap64 (-bt952.1))).bind fun z955 => ((some (wrap64 (-bt952.2))).bind fun z956 => ((torchonref06_move.f z946 z948 z949 z950 z955 z956).bind fun t957 => (if t957 = true then (some (z946, z948, z949, z950, z955, z956, 0)) else (some (0, 0, 0, 0, 0, 0, 7))))))))))))
def torchonref06_Invert.f (k : Nat) (a0_0 : Int) (a0_1 : Int) (a0_2 : Int) (a0_3 : Int) (a0_4 : Int) (a0_5 : Int) : Option (Int × Int × Int × Int × Int × Int × Int) := (torchonref06_move.f a0_0 a0_1 a0_2 a0_3 a0_4 a0_5).bind fun t942 => (if t942 = true then ((some (wrap64 (a0_0 * a0_3))).bind fun z943 => ((some (wrap64 (a0_1 * a0_2))).bind fun z944 => ((some (wrap64 (z943 - z944))).bind fun z945 => (if z945 = 1 then (torchonref06_Invert.j0 k z945 false a0_0 a0_1 a0_2 a0_3 a0_4 a0_5) else (torchonref06_Invert.j0 k z945 (z945 != (-1)) a0_0 a0_1 a0_2 a0_3 a0_4 a0_5))))) else (some (0, 0, 0, 0, 0, 0, 2)))
theorem torchonref06_Invert.mono_l : ∀ k, (∀ y0 y1 y2 y3 y4 y5 y6 y7, LeO (torchonref06_Invert.j0 k y0 y1 y2 y3 y4 y5 y6 y7) (torchonref06_Invert.j0 (k + 1) y0 y1 y2 y3 y4 y5 y6 y7))
  | 0 => fun _ _ _ _ _ _ _ _ r h => by simp [torchonref06_Invert.j0] at h
  | k + 1 => by
    have ih0 := torchonref06_Invert.mono_l k
    · intro y0 y1 y2 y3 y4 y5 y6 y7
      unfold torchonref06_Invert.j0
      repeat' first
      | (with_reducible exact ih0 _ _ _ _ _ _ _ _)
      | (with_reducible exact LeO.refl _)
      | (with_reducible exact LeO.none _)
      | (with_reducible refine LeO.ite ?_ ?_)
      | (with_reducible refine LeO.bind ?_ (fun _ => ?_))
      | exact ih0 _ _ _ _ _ _ _ _
      | exact LeO.none _
      | refine LeO.ite ?_ ?_
      | refine LeO.bind ?_ (fun _ => ?_)
theorem torchonref06_Invert.mono : ∀ a0 a1 a2 a3 a4 a5 k, LeO (torchonref06_Invert.f k a0 a1 a2 a3 a4 a5) (torchonref06_Invert.f (k + 1) a0 a1 a2 a3 a4 a5) := by
  intro a0 a1 a2 a3 a4 a5 k
  have ih0 := torchonref06_Invert.mono_l k
  unfold torchonref06_Invert.f
  repeat' first
      | (with_reducible exact ih0 _ _ _ _ _ _ _ _)
      | (with_reducible exact LeO.refl _)
      | (with_reducible exact LeO.none _)
      | (with_reducible refine LeO.ite ?_ ?_)
      | (with_reducible refine LeO.bind ?_ (fun _ => ?_))
      | exact ih0 _ _ _ _ _ _ _ _
      | exact LeO.none _
      | refine LeO.ite ?_ ?_
      | refine LeO.bind ?_ (fun _ => ?_)
set_option maxHeartbeats 8000000 in
set_option maxRecDepth 100000 in
theorem torchonref06_Invert.calls (k : Nat) (a0_0 : Int) (a0_1 : Int) (a0_2 : Int) (a0_3 : Int) (a0_4 : Int) (a0_5 : Int) (r1 : Int) (r2 : Int) (r3 : Int) (r4 : Int) (r5 : Int) (r6 : Int) (r7 : Int) (w : World) (h : torchonref06_Invert.f k a0_0 a0_1 a0_2 a0_3 a0_4 a0_5 = some (r1, r2, r3, r4, r5, r6, r7)) :
    Calls Try.prog 32 #[.agg #[.int .i64 a0_0, .int .i64 a0_1, .int .i64 a0_2, .int .i64 a0_3, .int .i64 a0_4, .int .i64 a0_5]] w fun e w' => e = .returned (.tuple #[.agg #[.int .i64 r1, .int .i64 r2, .int .i64 r3, .int .i64 r4, .int .i64 r5, .int .i64 r6], .int .i64 r7]) ∧ Below w.heap.size w w' := by
  have hu55 := Try.underlying55
  have hu25 := Try.underlying25
  have hu37 := Try.underlying37
  have HB := Aside0.mk (Below.refl w.heap.size w)
  have H : ((torchonref06_move.f a0_0 a0_1 a0_2 a0_3 a0_4 a0_5).bind fun t942 => (if t942 = true then ((some (wrap64 (a0_0 * a0_3))).bind fun z943 => ((some (wrap64 (a0_1 * a0_2))).bind fun z944 => ((some (wrap64 (z943 - z944))).bind fun z945 => (if z945 = 1 then (torchonref06_Invert.j0 k z945 false a0_0 a0_1 a0_2 a0_3 a0_4 a0_5) else (torchonref06_Invert.j0 k z945 (z945 != (-1)) a0_0 a0_1 a0_2 a0_3 a0_4 a0_5))))) else (some (0, 0, 0, 0, 0, 0, 2)))) = some (r1, r2, r3, r4, r5, r6, r7) := h
  clear h
  obtain ⟨t942, A2, H⟩ := ob H
  by_cases c3 : t942 = true
  · subst c3
    have H1 : ((some (wrap64 (a0_0 * a0_3))).bind fun z943 => ((some (wrap64 (a0_1 * a0_2))).bind fun z944 => ((some (wrap64 (z943 - z944))).bind fun z945 => (if z945 = 1 then (torchonref06_Invert.j0 k z945 false a0_0 a0_1 a0_2 a0_3 a0_4 a0_5) else (torchonref06_Invert.j0 k z945 (z945 != (-1)) a0_0 a0_1 a0_2 a0_3 a0_4 a0_5))))) = some (r1, r2, r3, r4, r5, r6, r7) := by rw [if_pos rfl] at H; exact H
    clear H
    have H := H1
    clear H1
    obtain ⟨z943, E40, H⟩ := oc H
    have E4w : (IntKind.i64.wrap (a0_0 * a0_3)) = z943 := (i64_w _).trans E40
    obtain ⟨z944, E50, H⟩ := oc H
    have E5w : (IntKind.i64.wrap (a0_1 * a0_2)) = z944 := (i64_w _).trans E50
    obtain ⟨z945, E60, H⟩ := oc H
    have E6w : (IntKind.i64.wrap (z943 - z944)) = z945 := (i64_w _).trans E60
    have HC7 := Aside0.mk H
    clear H
    go_enter Try.func32, Try.ntmps32
    go_upto_region 4 with (first | ((with_reducible refine gate_dst (N := 1) rfl ?_); refine bx 1 #[.int .i64 a0_0, .int .i64 a0_1, .int .i64 a0_2, .int .i64 a0_3, .int .i64 a0_4, .int .i64 a0_5] 55 fun gb940 hg w8 BK940 hb => ?_; have GW940 := gw hg HB; have GE940 := gw hg HB; replace HB := bst HB hb; clear hb hg) | ((with_reducible refine gate_dst (N := 2) rfl ?_); refine bx 2 #[.int .i64 0, .int .i64 0, .int .i64 0, .int .i64 0, .int .i64 0, .int .i64 0] 55 fun gb941 hg w9 BK941 hb => ?_; have GW941 := gw hg HB; have GE941 := gw hg HB; have NB940_941 := nlt hg BK940; have NB941_940 := ngt hg BK940; replace BK940 := bb BK940 hb; replace HB := bst HB hb; clear hb hg; have hnb10 := NB940_941.out; have hnc10 := NB941_940.out; have ⟨hcz11_0, hcz11_1, hcz11_2, hcz11_3, hcz11_4, hcz11_5, hfz11_0, hfz11_1, hfz11_2, hfz11_3, hfz11_4, hfz11_5⟩ := cf6 BK940) | ((with_reducible refine gate_callee (f := 64) rfl ?_); refine gl 8 Try.func64 (torchonref06_move.calls a0_0 a0_1 a0_2 a0_3 a0_4 a0_5 true _ A2.out) ?_; rintro e w12 ⟨rfl, hb⟩; refine ⟨_, rfl, ?_⟩; replace BK940 := bb BK940 hb; replace BK941 := bb BK941 hb; replace HB := bst HB hb; clear hb; have ⟨hcz13_0, hcz13_1, hcz13_2, hcz13_3, hcz13_4, hcz13_5, hfz13_0, hfz13_1, hfz13_2, hfz13_3, hfz13_4, hfz13_5⟩ := cf6 BK940))
    (try simp only [Act.put, List.setIfInBounds_toArray, List.set_cons_zero, List.set_cons_succ])
    go_cut [31] (fun v31 wc => ∃ (kq : Nat) (x31_6 : Bool), v31 = .bool x31_6 ∧ Aside0 (torchonref06_Invert.j0 kq z945 x31_6 a0_0 a0_1 a0_2 a0_3 a0_4 a0_5 = some (r1, r2, r3, r4, r5, r6, r7)) ∧ Aside0 (kq ≤ k) ∧ Aside0 (wc.heap[gb940]? = some (.cells #[.int .i64 a0_0, .int .i64 a0_1, .int .i64 a0_2, .int .i64 a0_3, .int .i64 a0_4, .int .i64 a0_5] 55 (0, 0))) ∧ Aside0 (wc.heap[gb941]? = some (.cells #[.int .i64 0, .int .i64 0, .int .i64 0, .int .i64 0, .int .i64 0, .int .i64 0] 55 (0, 0))) ∧ Aside0 (Below w.heap.size w wc))
    case first =>
      have H := HC7.out
      clear HC7
      by_cases c14 : z945 = 1
      · rw [if_pos c14] at H
        have c14b0 : (z945 == 1) = true := beq_iff_eq.mpr c14
        have c14b1 : (z945 != 1) = false := bne_eq_false_iff_eq.mpr c14
        clear c14
        (first | rw [c14b0] | (simp only [i64_w, i32_w]; rw [c14b0]) | skip)
        have H' := Aside0.mk H
        clear H
        go_wp2
        go_meet
        case rel => exact ⟨_, (false), (by first | rfl | (simp; done) | (simp [*]; done)), H', ⟨by first | omega | exact Nat.le_refl _⟩, ⟨pk BK940⟩, ⟨pk BK941⟩, ⟨bnow HB⟩⟩
      · rw [if_neg c14] at H
        have c14b0 : (z945 == 1) = false := beq_eq_false_iff_ne.mpr c14
        have c14b1 : (z945 != 1) = true := bne_iff_ne.mpr c14
        (first | rw [c14b0] | (simp only [i64_w, i32_w]; rw [c14b0]) | skip)
        have H' := Aside0.mk H
        clear H
        go_wp2
        go_meet
        case rel => exact ⟨_, ((z945 != (-1))), (by first | rfl | (simp; done) | (simp [*]; done)), H', ⟨by first | omega | exact Nat.le_refl _⟩, ⟨pk BK940⟩, ⟨pk BK941⟩, ⟨bnow HB⟩⟩
    case rest =>
      clear HC7
      try clear c1; try clear p2; try clear c3; try clear c6; try clear p6; try clear c10; try clear c14; try clear c14b0; try clear c14b1; try clear hcz11_0; try clear hcz11_1; try clear hcz11_2; try clear hcz11_3; try clear hcz11_4; try clear hcz11_5; try clear hcz13_0; try clear hcz13_1; try clear hcz13_2; try clear hcz13_3; try clear hcz13_4; try clear hcz13_5; try clear hfz11_0; try clear hfz11_1; try clear hfz11_2; try clear hfz11_3; try clear hfz11_4; try clear hfz11_5; try clear hfz13_0; try clear hfz13_1; try clear hfz13_2; try clear hfz13_3; try clear hfz13_4; try clear hfz13_5
      obtain ⟨kq, x31_6, rfl, HA, HJ6, BK940, BK941, HB⟩ := hcut
      cases kq with
      | zero => exact absurd HA.out (by simp [torchonref06_Invert.j0])
      | succ kj6 =>
        have H := HA.out
        clear HA
        simp only [torchonref06_Invert.j0] at H
        by_cases c15 : x31_6 = true
        · subst c15
          have H1 : (some (0, 0, 0, 0, 0, 0, 6)) = some (r1, r2, r3, r4, r5, r6, r7) := by rw [if_pos rfl] at H; exact H
          clear H
          have H := H1
          clear H1
          simp only [Option.some.injEq, Prod.mk.injEq] at H
          obtain ⟨rfl, rfl, rfl, rfl, rfl, rfl, rfl⟩ := H
          have hnb16 := NB941_940.out
          have hnc16 := NB940_941.out
          have ⟨hcz17_0, hcz17_1, hcz17_2, hcz17_3, hcz17_4, hcz17_5, hfz17_0, hfz17_1, hfz17_2, hfz17_3, hfz17_4, hfz17_5⟩ := cf6 BK941
          go_wp2_with (first | ((with_reducible refine gate_store (t := 55) (p := 2) rfl ?_); refine sx 55 2 (((((((wc.setCell ⟨gb941, 0, none⟩ (.int .i64 0)).setCell ⟨gb941, 1, none⟩ (.int .i64 0)).setCell ⟨gb941, 2, none⟩ (.int .i64 0)).setCell ⟨gb941, 3, none⟩ (.int .i64 0)).setCell ⟨gb941, 4, none⟩ (.int .i64 0)).setCell ⟨gb941, 5, none⟩ (.int .i64 0))) fun w18 hw => ?_; replace BK940 := fw hw BK940; replace BK941 := pw6 hw BK941; replace HB := bw hw HB; clear hw))
          refine bodyPost_ret (results_ct rfl _ _ gb941 55 #[.int .i64 0, .int .i64 0, .int .i64 0, .int .i64 0, .int .i64 0, .int .i64 0] (0, 0) _ rfl (pk BK941) Try.underlying55 rfl (by kernel_rfl)) rfl ?_
          exact rt HB
        · replace c15 := Bool.eq_false_iff.mpr c15
          subst c15
          have H1 : ((some (wrap64 (z945 * a0_3))).bind fun z946 => ((some (wrap64 (-z945))).bind fun z947 => ((some (wrap64 (z947 * a0_1))).bind fun z948 => ((some (wrap64 (z947 * a0_2))).bind fun z949 => ((some (wrap64 (z945 * a0_0))).bind fun z950 => ((torchonref06_image.f z946 z948 z949 z950 a0_4 a0_5).bind fun bt952 => ((some (wrap64 (-bt952.1))).bind fun z955 => ((some (wrap64 (-bt952.2))).bind fun z956 => ((torchonref06_move.f z946 z948 z949 z950 z955 z956).bind fun t957 => (if t957 = true then (some (z946, z948, z949, z950, z955, z956, 0)) else (some (0, 0, 0, 0, 0, 0, 7)))))))))))) = some (r1, r2, r3, r4, r5, r6, r7) := by rw [if_neg (show ¬ (false = true) by decide)] at H; exact H
          clear H
          have H := H1
          clear H1
          obtain ⟨z946, E190, H⟩ := oc H
          have E19w : (IntKind.i64.wrap (z945 * a0_3)) = z946 := (i64_w _).trans E190
          obtain ⟨z947, E200, H⟩ := oc H
          have E20w : (IntKind.i64.wrap (-z945)) = z947 := (i64_w _).trans E200
          obtain ⟨z948, E210, H⟩ := oc H
          have E21w : (IntKind.i64.wrap (z947 * a0_1)) = z948 := (i64_w _).trans E210
          obtain ⟨z949, E220, H⟩ := oc H
          have E22w : (IntKind.i64.wrap (z947 * a0_2)) = z949 := (i64_w _).trans E220
          obtain ⟨z950, E230, H⟩ := oc H
          have E23w : (IntKind.i64.wrap (z945 * a0_0)) = z950 := (i64_w _).trans E230
          obtain ⟨⟨t952, t953⟩, A24, H⟩ := ob H
          obtain ⟨z955, E250, H⟩ := oc H
          have E25w : (IntKind.i64.wrap (-t952)) = z955 := (i64_w _).trans E250
          obtain ⟨z956, E260, H⟩ := oc H
          have E26w : (IntKind.i64.wrap (-t953)) = z956 := (i64_w _).trans E260
          obtain ⟨t957, A27, H⟩ := ob H
          by_cases c28 : t957 = true
          · subst c28
            have H1 : (some (z946, z948, z949, z950, z955, z956, 0)) = some (r1, r2, r3, r4, r5, r6, r7) := by rw [if_pos rfl] at H; exact H
            clear H
            have H := H1
            clear H1
            simp only [Option.some.injEq, Prod.mk.injEq] at H
            obtain ⟨rfl, rfl, rfl, rfl, rfl, rfl, rfl⟩ := H
            have hnb29 := NB940_941.out
            have hnc29 := NB941_940.out
            have ⟨hcz30_0, hcz30_1, hcz30_2, hcz30_3, hcz30_4, hcz30_5, hfz30_0, hfz30_1, hfz30_2, hfz30_3, hfz30_4, hfz30_5⟩ := cf6 BK940
            go_wp2_with (first | ((with_reducible refine gate_dst (N := 5) rfl ?_); refine bx 5 #[.int .i64 0, .int .i64 0, .int .i64 0, .int .i64 0, .int .i64 0, .int .i64 0] 55 fun gb951 hg w31 BK951 hb => ?_; have GW951 := gw hg HB; have GE951 := gw hg HB; have NB940_951 := nlt hg BK940; have NB951_940 := ngt hg BK940; have NB941_951 := nlt hg BK941; have NB951_941 := ngt hg BK941; replace BK940 := bb BK940 hb; replace BK941 := bb BK941 hb; replace HB := bst HB hb; clear hb hg; have hnb32 := NB951_940.out; have hnc32 := NB940_951.out; have hnb33 := NB951_941.out; have hnc33 := NB941_951.out; have ⟨hcz34_0, hcz34_1, hcz34_2, hcz34_3, hcz34_4, hcz34_5, hfz34_0, hfz34_1, hfz34_2, hfz34_3, hfz34_4, hfz34_5⟩ := cf6 BK951) | ((with_reducible refine gate_store (t := 55) (p := 5) rfl ?_); refine sx 55 5 (((((((w31.setCell ⟨gb951, 0, none⟩ (.int .i64 z946)).setCell ⟨gb951, 1, none⟩ (.int .i64 z948)).setCell ⟨gb951, 2, none⟩ (.int .i64 z949)).setCell ⟨gb951, 3, none⟩ (.int .i64 z950)).setCell ⟨gb951, 4, none⟩ (.int .i64 0)).setCell ⟨gb951, 5, none⟩ (.int .i64 0))) fun w35 hw => ?_; replace BK940 := fw hw BK940; replace BK941 := fw hw BK941; replace BK951 := pw6 hw BK951; replace HB := bw hw HB; clear hw; have ⟨hcz36_0, hcz36_1, hcz36_2, hcz36_3, hcz36_4, hcz36_5, hfz36_0, hfz36_1, hfz36_2, hfz36_3, hfz36_4, hfz36_5⟩ := cf6 BK951; have ⟨hcz37_0, hcz37_1, hcz37_2, hcz37_3, hcz37_4, hcz37_5, hfz37_0, hfz37_1, hfz37_2, hfz37_3, hfz37_4, hfz37_5⟩ := cf6 BK940) | ((with_reducible refine gate_callee (f := 69) rfl ?_); refine gl 61 Try.func69 (torchonref06_image.calls z946 z948 z949 z950 a0_4 a0_5 t952 t953 _ A24.out) ?_; rintro e w38 ⟨rfl, hb⟩; refine ⟨_, rfl, ?_⟩; replace BK940 := bb BK940 hb; replace BK941 := bb BK941 hb; replace BK951 := bb BK951 hb; replace HB := bst HB hb; clear hb) | ((with_reducible refine gate_dst (N := 6) rfl ?_); refine bx 6 #[.int .i64 0, .int .i64 0] 37 fun gb954 hg w39 BK954 hb => ?_; have GW954 := gw hg HB; have GE954 := gw hg HB; have NB940_954 := nlt hg BK940; have NB954_940 := ngt hg BK940; have NB941_954 := nlt hg BK941; have NB954_941 := ngt hg BK941; have NB951_954 := nlt hg BK951; have NB954_951 := ngt hg BK951; replace BK940 := bb BK940 hb; replace BK941 := bb BK941 hb; replace BK951 := bb BK951 hb; replace HB := bst HB hb; clear hb hg; have hnb40 := NB954_940.out; have hnc40 := NB940_954.out; have hnb41 := NB954_941.out; have hnc41 := NB941_954.out; have hnb42 := NB954_951.out; have hnc42 := NB951_954.out; have ⟨hcz43_0, hcz43_1, hfz43_0, hfz43_1⟩ := cf2 BK954; have ⟨hcz44_0, hcz44_1, hcz44_2, hcz44_3, hcz44_4, hcz44_5, hfz44_0, hfz44_1, hfz44_2, hfz44_3, hfz44_4, hfz44_5⟩ := cf6 BK951) | ((with_reducible refine gate_store (t := 37) (p := 69) rfl ?_); refine sx 37 69 (((((w39.setCell ⟨gb954, 0, none⟩ (.int .i64 t952)).setCell ⟨gb954, 1, none⟩ (.int .i64 t953)).setCell ⟨gb951, 4, none⟩ (.int .i64 z955)).setCell ⟨gb951, 5, none⟩ (.int .i64 z956))) fun w45 hw => ?_; have n0_ := fw hw BK940; have n1_ := fw hw BK941; have n2_ : Aside0 (w45.heap[gb951]? = some (.cells #[.int .i64 z946, .int .i64 z948, .int .i64 z949, .int .i64 z950, .int .i64 z955, .int .i64 z956] 55 (0, 0))) := ⟨(by rw [hw]; exact (by (with_reducible repeat (first | refine blk_drewN ?_ _ | refine blk_drew ?_ | refine blk_alloc ?_ _)); refine blk_put (cs := #[.int .i64 z946, .int .i64 z948, .int .i64 z949, .int .i64 z950, .int .i64 z955, .int .i64 0]) ?_ 5 _ rfl; (with_reducible repeat (first | refine blk_drewN ?_ _ | refine blk_drew ?_ | refine blk_alloc ?_ _)); refine blk_put (cs := #[.int .i64 z946, .int .i64 z948, .int .i64 z949, .int .i64 z950, .int .i64 0, .int .i64 0]) ?_ 4 _ rfl; (with_reducible repeat (first | refine blk_drewN ?_ _ | refine blk_drew ?_ | refine blk_alloc ?_ _)); refine blk_far ?_ NB951_954.out _; (with_reducible repeat (first | refine blk_drewN ?_ _ | refine blk_drew ?_ | refine blk_alloc ?_ _)); refine blk_far ?_ NB951_954.out _; (with_reducible repeat (first | refine blk_drewN ?_ _ | refine blk_drew ?_ | refine blk_alloc ?_ _)); exact BK951.out))⟩; have n3_ : Aside0 (w45.heap[gb954]? = some (.cells #[.int .i64 t952, .int .i64 t953] 37 (0, 0))) := ⟨(by rw [hw]; exact (by (with_reducible repeat (first | refine blk_drewN ?_ _ | refine blk_drew ?_ | refine blk_alloc ?_ _)); refine blk_far ?_ NB954_951.out _; (with_reducible repeat (first | refine blk_drewN ?_ _ | refine blk_drew ?_ | refine blk_alloc ?_ _)); refine blk_far ?_ NB954_951.out _; (with_reducible repeat (first | refine blk_drewN ?_ _ | refine blk_drew ?_ | refine blk_alloc ?_ _)); refine blk_put (cs := #[.int .i64 t952, .int .i64 0]) ?_ 1 _ rfl; (with_reducible repeat (first | refine blk_drewN ?_ _ | refine blk_drew ?_ | refine blk_alloc ?_ _)); refine blk_put (cs := #[.int .i64 0, .int .i64 0]) ?_ 0 _ rfl; (with_reducible repeat (first | refine blk_drewN ?_ _ | refine blk_drew ?_ | refine blk_alloc ?_ _)); exact BK954.out))⟩; have n4_ := bw hw HB; clear hw; clear BK940; clear BK941; clear BK951; clear BK954; clear HB; have BK940 := n0_; have BK941 := n1_; have BK951 := n2_; have BK954 := n3_; have HB := n4_; clear n0_ n1_ n2_ n3_ n4_; have ⟨hcz46_0, hcz46_1, hcz46_2, hcz46_3, hcz46_4, hcz46_5, hfz46_0, hfz46_1, hfz46_2, hfz46_3, hfz46_4, hfz46_5⟩ := cf6 BK951) | ((with_reducible refine gate_callee (f := 64) rfl ?_); refine gl 71 Try.func64 (torchonref06_move.calls z946 z948 z949 z950 z955 z956 true _ A27.out) ?_; rintro e w47 ⟨rfl, hb⟩; refine ⟨_, rfl, ?_⟩; replace BK940 := bb BK940 hb; replace BK941 := bb BK941 hb; replace BK951 := bb BK951 hb; replace BK954 := bb BK954 hb; replace HB := bst HB hb; clear hb; have ⟨hcz48_0, hcz48_1, hcz48_2, hcz48_3, hcz48_4, hcz48_5, hfz48_0, hfz48_1, hfz48_2, hfz48_3, hfz48_4, hfz48_5⟩ := cf6 BK951; have ⟨hcz49_0, hcz49_1, hcz49_2, hcz49_3, hcz49_4, hcz49_5, hfz49_0, hfz49_1, hfz49_2, hfz49_3, hfz49_4, hfz49_5⟩ := cf6 BK941) | ((with_reducible refine gate_store (t := 55) (p := 2) rfl ?_); refine sx 55 2 (((((((w47.setCell ⟨gb941, 0, none⟩ (.int .i64 z946)).setCell ⟨gb941, 1, none⟩ (.int .i64 z948)).setCell ⟨gb941, 2, none⟩ (.int .i64 z949)).setCell ⟨gb941, 3, none⟩ (.int .i64 z950)).setCell ⟨gb941, 4, none⟩ (.int .i64 z955)).setCell ⟨gb941, 5, none⟩ (.int .i64 z956))) fun w50 hw => ?_; replace BK940 := fw hw BK940; replace BK941 := pw6 hw BK941; replace BK951 := fw hw BK951; replace BK954 := fw hw BK954; replace HB := bw hw HB; clear hw))
            refine bodyPost_ret (results_ct rfl _ _ gb941 55 #[.int .i64 z946, .int .i64 z948, .int .i64 z949, .int .i64 z950, .int .i64 z955, .int .i64 z956] (0, 0) _ rfl (pk BK941) Try.underlying55 rfl (by kernel_rfl)) rfl ?_
            exact rt HB
          · replace c28 := Bool.eq_false_iff.mpr c28
            subst c28
            have H1 : (some (0, 0, 0, 0, 0, 0, 7)) = some (r1, r2, r3, r4, r5, r6, r7) := by rw [if_neg (show ¬ (false = true) by decide)] at H; exact H
            clear H
            have H := H1
            clear H1
            simp only [Option.some.injEq, Prod.mk.injEq] at H
            obtain ⟨rfl, rfl, rfl, rfl, rfl, rfl, rfl⟩ := H
            have hnb51 := NB940_941.out
            have hnc51 := NB941_940.out
            have ⟨hcz52_0, hcz52_1, hcz52_2, hcz52_3, hcz52_4, hcz52_5, hfz52_0, hfz52_1, hfz52_2, hfz52_3, hfz52_4, hfz52_5⟩ := cf6 BK940
            go_wp2_with (first | ((with_reducible refine gate_dst (N := 5) rfl ?_); refine bx 5 #[.int .i64 0, .int .i64 0, .int .i64 0, .int .i64 0, .int .i64 0, .int .i64 0] 55 fun gb951 hg w53 BK951 hb => ?_; have GW951 := gw hg HB; have GE951 := gw hg HB; have NB940_951 := nlt hg BK940; have NB951_940 := ngt hg BK940; have NB941_951 := nlt hg BK941; have NB951_941 := ngt hg BK941; replace BK940 := bb BK940 hb; replace BK941 := bb BK941 hb; replace HB := bst HB hb; clear hb hg; have hnb54 := NB951_940.out; have hnc54 := NB940_951.out; have hnb55 := NB951_941.out; have hnc55 := NB941_951.out; have ⟨hcz56_0, hcz56_1, hcz56_2, hcz56_3, hcz56_4, hcz56_5, hfz56_0, hfz56_1, hfz56_2, hfz56_3, hfz56_4, hfz56_5⟩ := cf6 BK951) | ((with_reducible refine gate_store (t := 55) (p := 5) rfl ?_); refine sx 55 5 (((((((w53.setCell ⟨gb951, 0, none⟩ (.int .i64 z946)).setCell ⟨gb951, 1, none⟩ (.int .i64 z948)).setCell ⟨gb951, 2, none⟩ (.int .i64 z949)).setCell ⟨gb951, 3, none⟩ (.int .i64 z950)).setCell ⟨gb951, 4, none⟩ (.int .i64 0)).setCell ⟨gb951, 5, none⟩ (.int .i64 0))) fun w57 hw => ?_; replace BK940 := fw hw BK940; replace BK941 := fw hw BK941; replace BK951 := pw6 hw BK951; replace HB := bw hw HB; clear hw; have ⟨hcz58_0, hcz58_1, hcz58_2, hcz58_3, hcz58_4, hcz58_5, hfz58_0, hfz58_1, hfz58_2, hfz58_3, hfz58_4, hfz58_5⟩ := cf6 BK951; have ⟨hcz59_0, hcz59_1, hcz59_2, hcz59_3, hcz59_4, hcz59_5, hfz59_0, hfz59_1, hfz59_2, hfz59_3, hfz59_4, hfz59_5⟩ := cf6 BK940) | ((with_reducible refine gate_callee (f := 69) rfl ?_); refine gl 61 Try.func69 (torchonref06_image.calls z946 z948 z949 z950 a0_4 a0_5 t952 t953 _ A24.out) ?_; rintro e w60 ⟨rfl, hb⟩; refine ⟨_, rfl, ?_⟩; replace BK940 := bb BK940 hb; replace BK941 := bb BK941 hb; replace BK951 := bb BK951 hb; replace HB := bst HB hb; clear hb) | ((with_reducible refine gate_dst (N := 6) rfl ?_); refine bx 6 #[.int .i64 0, .int .i64 0] 37 fun gb954 hg w61 BK954 hb => ?_; have GW954 := gw hg HB; have GE954 := gw hg HB; have NB940_954 := nlt hg BK940; have NB954_940 := ngt hg BK940; have NB941_954 := nlt hg BK941; have NB954_941 := ngt hg BK941; have NB951_954 := nlt hg BK951; have NB954_951 := ngt hg BK951; replace BK940 := bb BK940 hb; replace BK941 := bb BK941 hb; replace BK951 := bb BK951 hb; replace HB := bst HB hb; clear hb hg; have hnb62 := NB954_940.out; have hnc62 := NB940_954.out; have hnb63 := NB954_941.out; have hnc63 := NB941_954.out; have hnb64 := NB954_951.out; have hnc64 := NB951_954.out; have ⟨hcz65_0, hcz65_1, hfz65_0, hfz65_1⟩ := cf2 BK954; have ⟨hcz66_0, hcz66_1, hcz66_2, hcz66_3, hcz66_4, hcz66_5, hfz66_0, hfz66_1, hfz66_2, hfz66_3, hfz66_4, hfz66_5⟩ := cf6 BK951) | ((with_reducible refine gate_store (t := 37) (p := 69) rfl ?_); refine sx 37 69 (((((w61.setCell ⟨gb954, 0, none⟩ (.int .i64 t952)).setCell ⟨gb954, 1, none⟩ (.int .i64 t953)).setCell ⟨gb951, 4, none⟩ (.int .i64 z955)).setCell ⟨gb951, 5, none⟩ (.int .i64 z956))) fun w67 hw => ?_; have n0_ := fw hw BK940; have n1_ := fw hw BK941; have n2_ : Aside0 (w67.heap[gb951]? = some (.cells #[.int .i64 z946, .int .i64 z948, .int .i64 z949, .int .i64 z950, .int .i64 z955, .int .i64 z956] 55 (0, 0))) := ⟨(by rw [hw]; exact (by (with_reducible repeat (first | refine blk_drewN ?_ _ | refine blk_drew ?_ | refine blk_alloc ?_ _)); refine blk_put (cs := #[.int .i64 z946, .int .i64 z948, .int .i64 z949, .int .i64 z950, .int .i64 z955, .int .i64 0]) ?_ 5 _ rfl; (with_reducible repeat (first | refine blk_drewN ?_ _ | refine blk_drew ?_ | refine blk_alloc ?_ _)); refine blk_put (cs := #[.int .i64 z946, .int .i64 z948, .int .i64 z949, .int .i64 z950, .int .i64 0, .int .i64 0]) ?_ 4 _ rfl; (with_reducible repeat (first | refine blk_drewN ?_ _ | refine blk_drew ?_ | refine blk_alloc ?_ _)); refine blk_far ?_ NB951_954.out _; (with_reducible repeat (first | refine blk_drewN ?_ _ | refine blk_drew ?_ | refine blk_alloc ?_ _)); refine blk_far ?_ NB951_954.out _; (with_reducible repeat (first | refine blk_drewN ?_ _ | refine blk_drew ?_ | refine blk_alloc ?_ _)); exact BK951.out))⟩; have n3_ : Aside0 (w67.heap[gb954]? = some (.cells #[.int .i64 t952, .int .i64 t953] 37 (0, 0))) := ⟨(by rw [hw]; exact (by (with_reducible repeat (first | refine blk_drewN ?_ _ | refine blk_drew ?_ | refine blk_alloc ?_ _)); refine blk_far ?_ NB954_951.out _; (with_reducible repeat (first | refine blk_drewN ?_ _ | refine blk_drew ?_ | refine blk_alloc ?_ _)); refine blk_far ?_ NB954_951.out _; (with_reducible repeat (first | refine blk_drewN ?_ _ | refine blk_drew ?_ | refine blk_alloc ?_ _)); refine blk_put (cs := #[.int .i64 t952, .int .i64 0]) ?_ 1 _ rfl; (with_reducible repeat (first | refine blk_drewN ?_ _ | refine blk_drew ?_ | refine blk_alloc ?_ _)); refine blk_put (cs := #[.int .i64 0, .int .i64 0]) ?_ 0 _ rfl; (with_reducible repeat (first | refine blk_drewN ?_ _ | refine blk_drew ?_ | refine blk_alloc ?_ _)); exact BK954.out))⟩; have n4_ := bw hw HB; clear hw; clear BK940; clear BK941; clear BK951; clear BK954; clear HB; have BK940 := n0_; have BK941 := n1_; have BK951 := n2_; have BK954 := n3_; have HB := n4_; clear n0_ n1_ n2_ n3_ n4_; have ⟨hcz68_0, hcz68_1, hcz68_2, hcz68_3, hcz68_4, hcz68_5, hfz68_0, hfz68_1, hfz68_2, hfz68_3, hfz68_4, hfz68_5⟩ := cf6 BK951) | ((with_reducible refine gate_callee (f := 64) rfl ?_); refine gl 71 Try.func64 (torchonref06_move.calls z946 z948 z949 z950 z955 z956 false _ A27.out) ?_; rintro e w69 ⟨rfl, hb⟩; refine ⟨_, rfl, ?_⟩; replace BK940 := bb BK940 hb; replace BK941 := bb BK941 hb; replace BK951 := bb BK951 hb; replace BK954 := bb BK954 hb; replace HB := bst HB hb; clear hb; have ⟨hcz70_0, hcz70_1, hcz70_2, hcz70_3, hcz70_4, hcz70_5, hfz70_0, hfz70_1, hfz70_2, hfz70_3, hfz70_4, hfz70_5⟩ := cf6 BK941) | ((with_reducible refine gate_store (t := 55) (p := 2) rfl ?_); refine sx 55 2 (((((((w69.setCell ⟨gb941, 0, none⟩ (.int .i64 0)).setCell ⟨gb941, 1, none⟩ (.int .i64 0)).setCell ⟨gb941, 2, none⟩ (.int .i64 0)).setCell ⟨gb941, 3, none⟩ (.int .i64 0)).setCell ⟨gb941, 4, none⟩ (.int .i64 0)).setCell ⟨gb941, 5, none⟩ (.int .i64 0))) fun w71 hw => ?_; replace BK940 := fw hw BK940; replace BK941 := pw6 hw BK941; replace BK951 := fw hw BK951; replace BK954 := fw hw BK954; replace HB := bw hw HB; clear hw))
            refine bodyPost_ret (results_ct rfl _ _ gb941 55 #[.int .i64 0, .int .i64 0, .int .i64 0, .int .i64 0, .int .i64 0, .int .i64 0] (0, 0) _ rfl (pk BK941) Try.underlying55 rfl (by kernel_rfl)) rfl ?_
            exact rt HB
  · replace c3 := Bool.eq_false_iff.mpr c3
    subst c3
    have H1 : (some (0, 0, 0, 0, 0, 0, 2)) = some (r1, r2, r3, r4, r5, r6, r7) := by rw [if_neg (show ¬ (false = true) by decide)] at H; exact H
    clear H
    have H := H1
    clear H1
    simp only [Option.some.injEq, Prod.mk.injEq] at H
    obtain ⟨rfl, rfl, rfl, rfl, rfl, rfl, rfl⟩ := H
    go_enter Try.func32, Try.ntmps32
    go_wp2_with (first | ((with_reducible refine gate_dst (N := 1) rfl ?_); refine bx 1 #[.int .i64 a0_0, .int .i64 a0_1, .int .i64 a0_2, .int .i64 a0_3, .int .i64 a0_4, .int .i64 a0_5] 55 fun gb940 hg w72 BK940 hb => ?_; have GW940 := gw hg HB; have GE940 := gw hg HB; replace HB := bst HB hb; clear hb hg) | ((with_reducible refine gate_dst (N := 2) rfl ?_); refine bx 2 #[.int .i64 0, .int .i64 0, .int .i64 0, .int .i64 0, .int .i64 0, .int .i64 0] 55 fun gb941 hg w73 BK941 hb => ?_; have GW941 := gw hg HB; have GE941 := gw hg HB; have NB940_941 := nlt hg BK940; have NB941_940 := ngt hg BK940; replace BK940 := bb BK940 hb; replace HB := bst HB hb; clear hb hg; have hnb74 := NB940_941.out; have hnc74 := NB941_940.out; have ⟨hcz75_0, hcz75_1, hcz75_2, hcz75_3, hcz75_4, hcz75_5, hfz75_0, hfz75_1, hfz75_2, hfz75_3, hfz75_4, hfz75_5⟩ := cf6 BK940) | ((with_reducible refine gate_callee (f := 64) rfl ?_); refine gl 8 Try.func64 (torchonref06_move.calls a0_0 a0_1 a0_2 a0_3 a0_4 a0_5 false _ A2.out) ?_; rintro e w76 ⟨rfl, hb⟩; refine ⟨_, rfl, ?_⟩; replace BK940 := bb BK940 hb; replace BK941 := bb BK941 hb; replace HB := bst HB hb; clear hb; have ⟨hcz77_0, hcz77_1, hcz77_2, hcz77_3, hcz77_4, hcz77_5, hfz77_0, hfz77_1, hfz77_2, hfz77_3, hfz77_4, hfz77_5⟩ := cf6 BK941) | ((with_reducible refine gate_store (t := 55) (p := 2) rfl ?_); refine sx 55 2 (((((((w76.setCell ⟨gb941, 0, none⟩ (.int .i64 0)).setCell ⟨gb941, 1, none⟩ (.int .i64 0)).setCell ⟨gb941, 2, none⟩ (.int .i64 0)).setCell ⟨gb941, 3, none⟩ (.int .i64 0)).setCell ⟨gb941, 4, none⟩ (.int .i64 0)).setCell ⟨gb941, 5, none⟩ (.int .i64 0))) fun w78 hw => ?_; replace BK940 := fw hw BK940; replace BK941 := pw6 hw BK941; replace HB := bw hw HB; clear hw))
    refine bodyPost_ret (results_ct rfl _ _ gb941 55 #[.int .i64 0, .int .i64 0, .int .i64 0, .int .i64 0, .int .i64 0, .int .i64 0] (0, 0) _ rfl (pk BK941) Try.underlying55 rfl (by kernel_rfl)) rfl ?_
    exact rt HB
end
section
/-! ### torchonref06_small: function 70 -/
def torchonref06_small.f (a0_0 : Int) (a0_1 : Int) (a0_2 : Int) (a0_3 : Int) : Option (Bool) := (torchonref06_from.f a0_0 (-1000000) 1000000).bind fun t959 => (if t959 = true then ((torchonref06_from.f a0_1 (-1000000) 1000000).bind fun t960 => (if t960 = true then ((torchonref06_from.f a0_2 (-1000000) 1000000).bind fun t961 => (if t961 = true then ((torchonref06_from.f a0_3 (-1000000) 1000000).bind fun t962 => (some t962)) else (some false))) else (some false))) else (some false))
set_option maxHeartbeats 8000000 in
set_option maxRecDepth 100000 in
theorem torchonref06_small.calls (a0_0 : Int) (a0_1 : Int) (a0_2 : Int) (a0_3 : Int) (r : Bool) (w : World) (h : torchonref06_small.f a0_0 a0_1 a0_2 a0_3 = some r) :
    Calls Try.prog 70 #[.agg #[.int .i64 a0_0, .int .i64 a0_1, .int .i64 a0_2, .int .i64 a0_3]] w fun e w' => e = .returned (.bool r) ∧ Below w.heap.size w w' := by
  have hu25 := Try.underlying25
  have HB := Aside0.mk (Below.refl w.heap.size w)
  have H : ((torchonref06_from.f a0_0 (-1000000) 1000000).bind fun t959 => (if t959 = true then ((torchonref06_from.f a0_1 (-1000000) 1000000).bind fun t960 => (if t960 = true then ((torchonref06_from.f a0_2 (-1000000) 1000000).bind fun t961 => (if t961 = true then ((torchonref06_from.f a0_3 (-1000000) 1000000).bind fun t962 => (some t962)) else (some false))) else (some false))) else (some false))) = some r := h
  clear h
  obtain ⟨t959, A2, H⟩ := ob H
  by_cases c3 : t959 = true
  · subst c3
    have H1 : ((torchonref06_from.f a0_1 (-1000000) 1000000).bind fun t960 => (if t960 = true then ((torchonref06_from.f a0_2 (-1000000) 1000000).bind fun t961 => (if t961 = true then ((torchonref06_from.f a0_3 (-1000000) 1000000).bind fun t962 => (some t962)) else (some false))) else (some false))) = some r := by rw [if_pos rfl] at H; exact H
    clear H
    have H := H1
    clear H1
    obtain ⟨t960, A4, H⟩ := ob H
    by_cases c5 : t960 = true
    · subst c5
      have H1 : ((torchonref06_from.f a0_2 (-1000000) 1000000).bind fun t961 => (if t961 = true then ((torchonref06_from.f a0_3 (-1000000) 1000000).bind fun t962 => (some t962)) else (some false))) = some r := by rw [if_pos rfl] at H; exact H
      clear H
      have H := H1
      clear H1
      obtain ⟨t961, A6, H⟩ := ob H
      by_cases c7 : t961 = true
      · subst c7
        have H1 : ((torchonref06_from.f a0_3 (-1000000) 1000000).bind fun t962 => (some t962)) = some r := by rw [if_pos rfl] at H; exact H
        clear H
        have H := H1
        clear H1
        obtain ⟨t962, A8, H⟩ := ob H
        obtain rfl := Option.some.inj H
        go_enter Try.func70, Try.ntmps70
        go_wp2_with (first | ((with_reducible refine gate_dst (N := 1) rfl ?_); refine bx 1 #[.int .i64 a0_0, .int .i64 a0_1, .int .i64 a0_2, .int .i64 a0_3] 25 fun gb958 hg w9 BK958 hb => ?_; have GW958 := gw hg HB; have GE958 := gw hg HB; replace HB := bst HB hb; clear hb hg; have ⟨hcz10_0, hcz10_1, hcz10_2, hcz10_3, hfz10_0, hfz10_1, hfz10_2, hfz10_3⟩ := cf4 BK958) | ((with_reducible refine gate_callee (f := 47) rfl ?_); refine goesL_ (some 5) rfl rfl Try.func47 (by kernel_rfl) rfl #[.int .i64 a0_0, .int .i64 (-1000000), .int .i64 1000000] rfl am ?_; (with_reducible refine (torchonref06_from.calls a0_0 (-1000000) 1000000 true _ A2.out).mono ?_); rintro e w' ⟨rfl, ⟨nd, rfl⟩⟩; refine ⟨_, rfl, ?_⟩) | (go_at_call 47; (with_reducible refine (torchonref06_from.calls a0_1 (-1000000) 1000000 true _ A4.out).mono ?_); rintro e w' ⟨rfl, ⟨nd, rfl⟩⟩) | (go_at_call 47; (with_reducible refine (torchonref06_from.calls a0_2 (-1000000) 1000000 true _ A6.out).mono ?_); rintro e w' ⟨rfl, ⟨nd, rfl⟩⟩) | (go_at_call 47; (with_reducible refine (torchonref06_from.calls a0_3 (-1000000) 1000000 t962 _ A8.out).mono ?_); rintro e w' ⟨rfl, ⟨nd, rfl⟩⟩))
        go_ret
        exact rt HB
      · replace c7 := Bool.eq_false_iff.mpr c7
        subst c7
        have H1 : (some false) = some r := by rw [if_neg (show ¬ (false = true) by decide)] at H; exact H
        clear H
        have H := H1
        clear H1
        obtain rfl := Option.some.inj H
        go_enter Try.func70, Try.ntmps70
        go_wp2_with (first | ((with_reducible refine gate_dst (N := 1) rfl ?_); refine bx 1 #[.int .i64 a0_0, .int .i64 a0_1, .int .i64 a0_2, .int .i64 a0_3] 25 fun gb958 hg w11 BK958 hb => ?_; have GW958 := gw hg HB; have GE958 := gw hg HB; replace HB := bst HB hb; clear hb hg; have ⟨hcz12_0, hcz12_1, hcz12_2, hcz12_3, hfz12_0, hfz12_1, hfz12_2, hfz12_3⟩ := cf4 BK958) | ((with_reducible refine gate_callee (f := 47) rfl ?_); refine goesL_ (some 5) rfl rfl Try.func47 (by kernel_rfl) rfl #[.int .i64 a0_0, .int .i64 (-1000000), .int .i64 1000000] rfl am ?_; (with_reducible refine (torchonref06_from.calls a0_0 (-1000000) 1000000 true _ A2.out).mono ?_); rintro e w' ⟨rfl, ⟨nd, rfl⟩⟩; refine ⟨_, rfl, ?_⟩) | (go_at_call 47; (with_reducible refine (torchonref06_from.calls a0_1 (-1000000) 1000000 true _ A4.out).mono ?_); rintro e w' ⟨rfl, ⟨nd, rfl⟩⟩) | (go_at_call 47; (with_reducible refine (torchonref06_from.calls a0_2 (-1000000) 1000000 false _ A6.out).mono ?_); rintro e w' ⟨rfl, ⟨nd, rfl⟩⟩))
        go_ret
        exact rt HB
    · replace c5 := Bool.eq_false_iff.mpr c5
      subst c5
      have H1 : (some false) = some r := by rw [if_neg (show ¬ (false = true) by decide)] at H; exact H
      clear H
      have H := H1
      clear H1
      obtain rfl := Option.some.inj H
      go_enter Try.func70, Try.ntmps70
      go_wp2_with (first | ((with_reducible refine gate_dst (N := 1) rfl ?_); refine bx 1 #[.int .i64 a0_0, .int .i64 a0_1, .int .i64 a0_2, .int .i64 a0_3] 25 fun gb958 hg w13 BK958 hb => ?_; have GW958 := gw hg HB; have GE958 := gw hg HB; replace HB := bst HB hb; clear hb hg; have ⟨hcz14_0, hcz14_1, hcz14_2, hcz14_3, hfz14_0, hfz14_1, hfz14_2, hfz14_3⟩ := cf4 BK958) | ((with_reducible refine gate_callee (f := 47) rfl ?_); refine goesL_ (some 5) rfl rfl Try.func47 (by kernel_rfl) rfl #[.int .i64 a0_0, .int .i64 (-1000000), .int .i64 1000000] rfl am ?_; (with_reducible refine (torchonref06_from.calls a0_0 (-1000000) 1000000 true _ A2.out).mono ?_); rintro e w' ⟨rfl, ⟨nd, rfl⟩⟩; refine ⟨_, rfl, ?_⟩) | (go_at_call 47; (with_reducible refine (torchonref06_from.calls a0_1 (-1000000) 1000000 false _ A4.out).mono ?_); rintro e w' ⟨rfl, ⟨nd, rfl⟩⟩))
      go_ret
      exact rt HB
  · replace c3 := Bool.eq_false_iff.mpr c3
    subst c3
    have H1 : (some false) = some r := by rw [if_neg (show ¬ (false = true) by decide)] at H; exact H
    clear H
    have H := H1
    clear H1
    obtain rfl := Option.some.inj H
    go_enter Try.func70, Try.ntmps70
    go_wp2_with (first | ((with_reducible refine gate_dst (N := 1) rfl ?_); refine bx 1 #[.int .i64 a0_0, .int .i64 a0_1, .int .i64 a0_2, .int .i64 a0_3] 25 fun gb958 hg w15 BK958 hb => ?_; have GW958 := gw hg HB; have GE958 := gw hg HB; replace HB := bst HB hb; clear hb hg; have ⟨hcz16_0, hcz16_1, hcz16_2, hcz16_3, hfz16_0, hfz16_1, hfz16_2, hfz16_3⟩ := cf4 BK958) | ((with_reducible refine gate_callee (f := 47) rfl ?_); refine goesL_ (some 5) rfl rfl Try.func47 (by kernel_rfl) rfl #[.int .i64 a0_0, .int .i64 (-1000000), .int .i64 1000000] rfl am ?_; (with_reducible refine (torchonref06_from.calls a0_0 (-1000000) 1000000 false _ A2.out).mono ?_); rintro e w' ⟨rfl, ⟨nd, rfl⟩⟩; refine ⟨_, rfl, ?_⟩))
    go_ret
    exact rt HB
end
section
/-! ### torchonref06_Order: function 34 -/
mutual
def torchonref06_Order.l0 : Nat → Int → Int → Int → Int → Int → Int → Int → Int → Int → Option (Int × Int)
  | 0, _, _, _, _, _, _, _, _, _ => none
  | k + 1, x5, x964000, x964001, x964002, x964003, x966000, x966001, x966002, x966003 => if x5 ≤ 12 then ((torchonref06_small.f x966000 x966001 x966002 x966003).bind fun t966 => (torchonref06_Order.j1 k x5 t966 x964000 x964001 x964002 x964003 x966000 x966001 x966002 x966003)) else (torchonref06_Order.j1 k x5 false x964000 x964001 x964002 x964003 x966000 x966001 x966002 x966003)
def torchonref06_Order.j1 : Nat → Int → Bool → Int → Int → Int → Int → Int → Int → Int → Int → Option (Int × Int)
  | 0, _, _, _, _, _, _, _, _, _, _ => none
  | k + 1, x5, x15, x964000, x964001, x964002, x964003, x966000, x966001, x966002, x966003 => if x15 = true then (if x966000 = 1 then (if x966001 = 0 then (if x966002 = 0 then (torchonref06_Order.j2 k x5 (x966003 == 1) x964000 x964001 x964002 x964003 x966000 x966001 x966002 x966003) else (torchonref06_Order.j2 k x5 false x964000 x964001 x964002 x964003 x966000 x966001 x966002 x966003)) else (torchonref06_Order.j2 k x5 false x964000 x964001 x964002 x964003 x966000 x966001 x966002 x966003)) else (torchonref06_Order.j2 k x5 false x964000 x964001 x964002 x964003 x966000 x966001 x966002 x966003)) else (some (0, 0))
def torchonref06_Order.j2 : Nat → Int → Bool → Int → Int → Int → Int → Int → Int → Int → Int → Option (Int × Int)
  | 0, _, _, _, _, _, _, _, _, _, _ => none
  | k + 1, x5, x35, x964000, x964001, x964002, x964003, x966000, x966001, x966002, x966003 => if x35 = true then (some (x5, 0)) else ((torchonref06_Times.f x964000 x964001 x964002 x964003 x966000 x966001 x966002 x966003).bind fun bt967 => ((some (wrap64 (x5 + 1))).bind fun z971 => (torchonref06_Order.l0 k z971 x964000 x964001 x964002 x964003 bt967.1 bt967.2.1 bt967.2.2.1 bt967.2.2.2)))
end
def torchonref06_Order.f (k : Nat) (a0_0 : Int) (a0_1 : Int) (a0_2 : Int) (a0_3 : Int) : Option (Int × Int) := (torchonref06_Matrix.f a0_0 a0_1 a0_2 a0_3).bind fun t964 => (if t964 = true then (torchonref06_Order.l0 k 1 a0_0 a0_1 a0_2 a0_3 a0_0 a0_1 a0_2 a0_3) else (some (0, 2)))
theorem torchonref06_Order.mono_l : ∀ k, (∀ y0 y1 y2 y3 y4 y5 y6 y7 y8, LeO (torchonref06_Order.l0 k y0 y1 y2 y3 y4 y5 y6 y7 y8) (torchonref06_Order.l0 (k + 1) y0 y1 y2 y3 y4 y5 y6 y7 y8)) ∧ (∀ y0 y1 y2 y3 y4 y5 y6 y7 y8 y9, LeO (torchonref06_Order.j1 k y0 y1 y2 y3 y4 y5 y6 y7 y8 y9) (torchonref06_Order.j1 (k + 1) y0 y1 y2 y3 y4 y5 y6 y7 y8 y9)) ∧ (∀ y0 y1 y2 y3 y4 y5 y6 y7 y8 y9, LeO (torchonref06_Order.j2 k y0 y1 y2 y3 y4 y5 y6 y7 y8 y9) (torchonref06_Order.j2 (k + 1) y0 y1 y2 y3 y4 y5 y6 y7 y8 y9))
  | 0 => ⟨fun _ _ _ _ _ _ _ _ _ r h => by simp [torchonref06_Order.l0] at h, fun _ _ _ _ _ _ _ _ _ _ r h => by simp [torchonref06_Order.j1] at h, fun _ _ _ _ _ _ _ _ _ _ r h => by simp [torchonref06_Order.j2] at h⟩
  | k + 1 => by
    obtain ⟨ih0, ih1, ih2⟩ := torchonref06_Order.mono_l k
    refine ⟨?_, ?_, ?_⟩
    · intro y0 y1 y2 y3 y4 y5 y6 y7 y8
      unfold torchonref06_Order.l0
      repeat' first
      | (with_reducible exact ih0 _ _ _ _ _ _ _ _ _)
      | (with_reducible exact ih1 _ _ _ _ _ _ _ _ _ _)
      | (with_reducible exact ih2 _ _ _ _ _ _ _ _ _ _)
      | (with_reducible exact LeO.refl _)
      | (with_reducible exact LeO.none _)
      | (with_reducible refine LeO.ite ?_ ?_)
      | (with_reducible refine LeO.bind ?_ (fun _ => ?_))
      | exact ih0 _ _ _ _ _ _ _ _ _
      | exact ih1 _ _ _ _ _ _ _ _ _ _
      | exact ih2 _ _ _ _ _ _ _ _ _ _
      | exact LeO.none _
      | refine LeO.ite ?_ ?_
      | refine LeO.bind ?_ (fun _ => ?_)
    · intro y0 y1 y2 y3 y4 y5 y6 y7 y8 y9
      unfold torchonref06_Order.j1
      repeat' first
      | (with_reducible exact ih0 _ _ _ _ _ _ _ _ _)
      | (with_reducible exact ih1 _ _ _ _ _ _ _ _ _ _)
      | (with_reducible exact ih2 _ _ _ _ _ _ _ _ _ _)
      | (with_reducible exact LeO.refl _)
      | (with_reducible exact LeO.none _)
      | (with_reducible refine LeO.ite ?_ ?_)
      | (with_reducible refine LeO.bind ?_ (fun _ => ?_))
      | exact ih0 _ _ _ _ _ _ _ _ _
      | exact ih1 _ _ _ _ _ _ _ _ _ _
      | exact ih2 _ _ _ _ _ _ _ _ _ _
      | exact LeO.none _
      | refine LeO.ite ?_ ?_
      | refine LeO.bind ?_ (fun _ => ?_)
    · intro y0 y1 y2 y3 y4 y5 y6 y7 y8 y9
      unfold torchonref06_Order.j2
      repeat' first
      | (with_reducible exact ih0 _ _ _ _ _ _ _ _ _)
      | (with_reducible exact ih1 _ _ _ _ _ _ _ _ _ _)
      | (with_reducible exact ih2 _ _ _ _ _ _ _ _ _ _)
      | (with_reducible exact LeO.refl _)
      | (with_reducible exact LeO.none _)
      | (with_reducible refine LeO.ite ?_ ?_)
      | (with_reducible refine LeO.bind ?_ (fun _ => ?_))
      | exact ih0 _ _ _ _ _ _ _ _ _
      | exact ih1 _ _ _ _ _ _ _ _ _ _
      | exact ih2 _ _ _ _ _ _ _ _ _ _
      | exact LeO.none _
      | refine LeO.ite ?_ ?_
      | refine LeO.bind ?_ (fun _ => ?_)
theorem torchonref06_Order.mono : ∀ a0 a1 a2 a3 k, LeO (torchonref06_Order.f k a0 a1 a2 a3) (torchonref06_Order.f (k + 1) a0 a1 a2 a3) := by
  intro a0 a1 a2 a3 k
  obtain ⟨ih0, ih1, ih2⟩ := torchonref06_Order.mono_l k
  unfold torchonref06_Order.f
  repeat' first
      | (with_reducible exact ih0 _ _ _ _ _ _ _ _ _)
      | (with_reducible exact ih1 _ _ _ _ _ _ _ _ _ _)
      | (with_reducible exact ih2 _ _ _ _ _ _ _ _ _ _)
      | (with_reducible exact LeO.refl _)
      | (with_reducible exact LeO.none _)
      | (with_reducible refine LeO.ite ?_ ?_)
      | (with_reducible refine LeO.bind ?_ (fun _ => ?_))
      | exact ih0 _ _ _ _ _ _ _ _ _
      | exact ih1 _ _ _ _ _ _ _ _ _ _
      | exact ih2 _ _ _ _ _ _ _ _ _ _
      | exact LeO.none _
      | refine LeO.ite ?_ ?_
      | refine LeO.bind ?_ (fun _ => ?_)
set_option maxHeartbeats 8000000 in
set_option maxRecDepth 100000 in
theorem torchonref06_Order.calls (k : Nat) (a0_0 : Int) (a0_1 : Int) (a0_2 : Int) (a0_3 : Int) (r1 : Int) (r2 : Int) (w : World) (h : torchonref06_Order.f k a0_0 a0_1 a0_2 a0_3 = some (r1, r2)) :
    Calls Try.prog 34 #[.agg #[.int .i64 a0_0, .int .i64 a0_1, .int .i64 a0_2, .int .i64 a0_3]] w fun e w' => e = .returned (.tuple #[.int .i64 r1, .int .i64 r2]) ∧ Below w.heap.size w w' := by
  have hu25 := Try.underlying25
  have HB := Aside0.mk (Below.refl w.heap.size w)
  have H : ((torchonref06_Matrix.f a0_0 a0_1 a0_2 a0_3).bind fun t964 => (if t964 = true then (torchonref06_Order.l0 k 1 a0_0 a0_1 a0_2 a0_3 a0_0 a0_1 a0_2 a0_3) else (some (0, 2)))) = some (r1, r2) := h
  clear h
  obtain ⟨t964, A2, H⟩ := ob H
  by_cases c3 : t964 = true
  · subst c3
    have H1 : (torchonref06_Order.l0 k 1 a0_0 a0_1 a0_2 a0_3 a0_0 a0_1 a0_2 a0_3) = some (r1, r2) := by rw [if_pos rfl] at H; exact H
    clear H
    have H := H1
    clear H1
    have H' := Aside0.mk H
    clear H
    go_enter Try.func34, Try.ntmps34
    go_wp2_with (first | ((with_reducible refine gate_dst (N := 1) rfl ?_); refine bx 1 #[.int .i64 a0_0, .int .i64 a0_1, .int .i64 a0_2, .int .i64 a0_3] 25 fun gb963 hg w4 BK963 hb => ?_; have GW963 := gw hg HB; have GE963 := gw hg HB; replace HB := bst HB hb; clear hb hg; have ⟨hcz5_0, hcz5_1, hcz5_2, hcz5_3, hfz5_0, hfz5_1, hfz5_2, hfz5_3⟩ := cf4 BK963) | ((with_reducible refine gate_callee (f := 15) rfl ?_); refine gl 7 Try.func15 (torchonref06_Matrix.calls a0_0 a0_1 a0_2 a0_3 true _ A2.out) ?_; rintro e w6 ⟨rfl, hb⟩; refine ⟨_, rfl, ?_⟩; replace BK963 := bb BK963 hb; replace HB := bst HB hb; clear hb; have ⟨hcz7_0, hcz7_1, hcz7_2, hcz7_3, hfz7_0, hfz7_1, hfz7_2, hfz7_3⟩ := cf4 BK963) | ((with_reducible refine gate_dst (N := 4) rfl ?_); refine bx 4 #[.int .i64 0, .int .i64 0, .int .i64 0, .int .i64 0] 25 fun gb965 hg w8 BK965 hb => ?_; have GW965 := gw hg HB; have GE965 := gw hg HB; have NB963_965 := nlt hg BK963; have NB965_963 := ngt hg BK963; replace BK963 := bb BK963 hb; replace HB := bst HB hb; clear hb hg; have hnb9 := NB965_963.out; have hnc9 := NB963_965.out; have ⟨hcz10_0, hcz10_1, hcz10_2, hcz10_3, hfz10_0, hfz10_1, hfz10_2, hfz10_3⟩ := cf4 BK965) | ((with_reducible refine gate_store (t := 25) (p := 4) rfl ?_); refine sx 25 4 (((((w8.setCell ⟨gb965, 0, none⟩ (.int .i64 a0_0)).setCell ⟨gb965, 1, none⟩ (.int .i64 a0_1)).setCell ⟨gb965, 2, none⟩ (.int .i64 a0_2)).setCell ⟨gb965, 3, none⟩ (.int .i64 a0_3))) fun w11 hw => ?_; replace BK963 := fw hw BK963; replace BK965 := pw4 hw BK965; replace HB := bw hw HB; clear hw))
    (try simp only [Act.put, List.setIfInBounds_toArray, List.set_cons_zero, List.set_cons_succ])
    go_loopg [5] k (fun kq v5 w' => ∃ (x5_1 : Int) (x966000_1 : Int) (x966001_1 : Int) (x966002_1 : Int) (x966003_1 : Int), v5 = .int .i64 x5_1 ∧ Aside0 (torchonref06_Order.l0 kq x5_1 a0_0 a0_1 a0_2 a0_3 x966000_1 x966001_1 x966002_1 x966003_1 = some (r1, r2)) ∧ Aside0 (kq ≤ k) ∧ Aside0 (w'.heap[gb963]? = some (.cells #[.int .i64 a0_0, .int .i64 a0_1, .int .i64 a0_2, .int .i64 a0_3] 25 (0, 0))) ∧ Aside0 (w'.heap[gb965]? = some (.cells #[.int .i64 x966000_1, .int .i64 x966001_1, .int .i64 x966002_1, .int .i64 x966003_1] 25 (0, 0))) ∧ Aside0 (Below w.heap.size w w'))
    case atStart => exact ⟨(1), (a0_0), (a0_1), (a0_2), (a0_3), (by first | rfl | (simp; done) | (simp [*]; done)), H', ⟨Nat.le_refl _⟩, ⟨pk BK963⟩, ⟨pk BK965⟩, ⟨bnow HB⟩⟩
    case round =>
      clear H'
      try clear c1; try clear p2; try clear c3; try clear c9; try clear hcz10_0; try clear hcz10_1; try clear hcz10_2; try clear hcz10_3; try clear hcz5_0; try clear hcz5_1; try clear hcz5_2; try clear hcz5_3; try clear hcz7_0; try clear hcz7_1; try clear hcz7_2; try clear hcz7_3; try clear hfz10_0; try clear hfz10_1; try clear hfz10_2; try clear hfz10_3; try clear hfz5_0; try clear hfz5_1; try clear hfz5_2; try clear hfz5_3; try clear hfz7_0; try clear hfz7_1; try clear hfz7_2; try clear hfz7_3
      obtain ⟨x5_1, x966000_1, x966001_1, x966002_1, x966003_1, rfl, HA, HK1, BK963, BK965, HB⟩ := hrel
      cases gk with
      | zero => exact absurd HA.out (by simp [torchonref06_Order.l0])
      | succ k1 =>
        have H := HA.out
        clear HA
        simp only [torchonref06_Order.l0] at H
        have HC12 := Aside0.mk H
        clear H
        go_upto_region 5 with (fail)
        go_cut [15] (fun v15 wc => ∃ (kq : Nat) (x15_11 : Bool), v15 = .bool x15_11 ∧ Aside0 (torchonref06_Order.j1 kq x5_1 x15_11 a0_0 a0_1 a0_2 a0_3 x966000_1 x966001_1 x966002_1 x966003_1 = some (r1, r2)) ∧ Aside0 (kq ≤ k1) ∧ Aside0 (wc.heap[gb963]? = some (.cells #[.int .i64 a0_0, .int .i64 a0_1, .int .i64 a0_2, .int .i64 a0_3] 25 (0, 0))) ∧ Aside0 (wc.heap[gb965]? = some (.cells #[.int .i64 x966000_1, .int .i64 x966001_1, .int .i64 x966002_1, .int .i64 x966003_1] 25 (0, 0))) ∧ Aside0 (Below w.heap.size w wc))
        case first =>
          have H := HC12.out
          clear HC12
          by_cases c13 : x5_1 ≤ 12
          · rw [if_pos c13] at H
            have c13b0 : decide (x5_1 ≤ 12) = true := decide_eq_true c13
            clear c13
            (first | rw [c13b0] | (simp only [i64_w, i32_w]; rw [c13b0]) | skip)
            obtain ⟨t966, A14, H⟩ := ob H
            have H' := Aside0.mk H
            clear H
            have hnb15 := NB965_963.out
            have hnc15 := NB963_965.out
            have ⟨hcz16_0, hcz16_1, hcz16_2, hcz16_3, hfz16_0, hfz16_1, hfz16_2, hfz16_3⟩ := cf4 BK965
            go_wp2_with (first | (go_at_call 70; (with_reducible refine (torchonref06_small.calls x966000_1 x966001_1 x966002_1 x966003_1 t966 _ A14.out).mono ?_); rintro e w17 ⟨rfl, hb⟩; replace BK963 := bb BK963 hb; replace BK965 := bb BK965 hb; replace HB := bst HB hb; clear hb))
            go_meet
            case rel => exact ⟨_, (t966), (by first | rfl | (simp; done) | (simp [*]; done)), H', ⟨by have := HK1.out; first | omega | exact Nat.le_refl _⟩, ⟨pk BK963⟩, ⟨pk BK965⟩, ⟨bnow HB⟩⟩
          · rw [if_neg c13] at H
            have c13b0 : decide (x5_1 ≤ 12) = false := decide_eq_false c13
            clear c13
            (first | rw [c13b0] | (simp only [i64_w, i32_w]; rw [c13b0]) | skip)
            have H' := Aside0.mk H
            clear H
            go_wp2
            go_meet
            case rel => exact ⟨_, (false), (by first | rfl | (simp; done) | (simp [*]; done)), H', ⟨by have := HK1.out; first | omega | exact Nat.le_refl _⟩, ⟨pk BK963⟩, ⟨pk BK965⟩, ⟨bnow HB⟩⟩
        case rest =>
          clear HC12
          try clear c1; try clear p2; try clear c3; try clear c9; try clear c13; try clear c13b0; try clear c15; try clear hcz10_0; try clear hcz10_1; try clear hcz10_2; try clear hcz10_3; try clear hcz16_0; try clear hcz16_1; try clear hcz16_2; try clear hcz16_3; try clear hcz5_0; try clear hcz5_1; try clear hcz5_2; try clear hcz5_3; try clear hcz7_0; try clear hcz7_1; try clear hcz7_2; try clear hcz7_3; try clear hfz10_0; try clear hfz10_1; try clear hfz10_2; try clear hfz10_3; try clear hfz16_0; try clear hfz16_1; try clear hfz16_2; try clear hfz16_3; try clear hfz5_0; try clear hfz5_1; try clear hfz5_2; try clear hfz5_3; try clear hfz7_0; try clear hfz7_1; try clear hfz7_2; try clear hfz7_3; try clear p2
          obtain ⟨kq, x15_11, rfl, HA, HJ11, BK963, BK965, HB⟩ := hcut
          cases kq with
          | zero => exact absurd HA.out (by simp [torchonref06_Order.j1])
          | succ kj11 =>
            have H := HA.out
            clear HA
            simp only [torchonref06_Order.j1] at H
            by_cases c18 : x15_11 = true
            · subst c18
              have H1 : (if x966000_1 = 1 then (if x966001_1 = 0 then (if x966002_1 = 0 then (torchonref06_Order.j2 kj11 x5_1 (x966003_1 == 1) a0_0 a0_1 a0_2 a0_3 x966000_1 x966001_1 x966002_1 x966003_1) else (torchonref06_Order.j2 kj11 x5_1 false a0_0 a0_1 a0_2 a0_3 x966000_1 x966001_1 x966002_1 x966003_1)) else (torchonref06_Order.j2 kj11 x5_1 false a0_0 a0_1 a0_2 a0_3 x966000_1 x966001_1 x966002_1 x966003_1)) else (torchonref06_Order.j2 kj11 x5_1 false a0_0 a0_1 a0_2 a0_3 x966000_1 x966001_1 x966002_1 x966003_1)) = some (r1, r2) := by rw [if_pos rfl] at H; exact H
              clear H
              have H := H1
              clear H1
              have HC19 := Aside0.mk H
              clear H
              go_upto_region 7 with (fail)
              go_cut [35] (fun v35 wc => ∃ (kq : Nat) (x35_18 : Bool), v35 = .bool x35_18 ∧ Aside0 (torchonref06_Order.j2 kq x5_1 x35_18 a0_0 a0_1 a0_2 a0_3 x966000_1 x966001_1 x966002_1 x966003_1 = some (r1, r2)) ∧ Aside0 (kq ≤ kj11) ∧ Aside0 (wc.heap[gb963]? = some (.cells #[.int .i64 a0_0, .int .i64 a0_1, .int .i64 a0_2, .int .i64 a0_3] 25 (0, 0))) ∧ Aside0 (wc.heap[gb965]? = some (.cells #[.int .i64 x966000_1, .int .i64 x966001_1, .int .i64 x966002_1, .int .i64 x966003_1] 25 (0, 0))) ∧ Aside0 (Below w.heap.size w wc))
              case first =>
                have H := HC19.out
                clear HC19
                by_cases c20 : x966000_1 = 1
                · rw [if_pos c20] at H
                  have c20b0 : (x966000_1 == 1) = true := beq_iff_eq.mpr c20
                  have c20b1 : (x966000_1 != 1) = false := bne_eq_false_iff_eq.mpr c20
                  clear c20
                  (first | rw [c20b0] | (simp only [i64_w, i32_w]; rw [c20b0]) | skip)
                  by_cases c21 : x966001_1 = 0
                  · rw [if_pos c21] at H
                    have c21b0 : (x966001_1 == 0) = true := beq_iff_eq.mpr c21
                    have c21b1 : (x966001_1 != 0) = false := bne_eq_false_iff_eq.mpr c21
                    clear c21
                    by_cases c22 : x966002_1 = 0
                    · rw [if_pos c22] at H
                      have c22b0 : (x966002_1 == 0) = true := beq_iff_eq.mpr c22
                      have c22b1 : (x966002_1 != 0) = false := bne_eq_false_iff_eq.mpr c22
                      clear c22
                      have H' := Aside0.mk H
                      clear H
                      have hnb23 := NB965_963.out
                      have hnc23 := NB963_965.out
                      have ⟨hcz24_0, hcz24_1, hcz24_2, hcz24_3, hfz24_0, hfz24_1, hfz24_2, hfz24_3⟩ := cf4 BK965
                      go_wp2
                      go_meet
                      case rel => exact ⟨_, ((x966003_1 == 1)), (by first | rfl | (simp; done) | (simp [*]; done)), H', ⟨by have := HK1.out; have := HJ11.out; first | omega | exact Nat.le_refl _⟩, ⟨pk BK963⟩, ⟨pk BK965⟩, ⟨bnow HB⟩⟩
                    · rw [if_neg c22] at H
                      have c22b0 : (x966002_1 == 0) = false := beq_eq_false_iff_ne.mpr c22
                      have c22b1 : (x966002_1 != 0) = true := bne_iff_ne.mpr c22
                      have H' := Aside0.mk H
                      clear H
                      have hnb25 := NB965_963.out
                      have hnc25 := NB963_965.out
                      have ⟨hcz26_0, hcz26_1, hcz26_2, hcz26_3, hfz26_0, hfz26_1, hfz26_2, hfz26_3⟩ := cf4 BK965
                      go_wp2
                      go_meet
                      case rel => exact ⟨_, (false), (by first | rfl | (simp; done) | (simp [*]; done)), H', ⟨by have := HK1.out; have := HJ11.out; first | omega | exact Nat.le_refl _⟩, ⟨pk BK963⟩, ⟨pk BK965⟩, ⟨bnow HB⟩⟩
                  · rw [if_neg c21] at H
                    have c21b0 : (x966001_1 == 0) = false := beq_eq_false_iff_ne.mpr c21
                    have c21b1 : (x966001_1 != 0) = true := bne_iff_ne.mpr c21
                    have H' := Aside0.mk H
                    clear H
                    have hnb27 := NB965_963.out
                    have hnc27 := NB963_965.out
                    have ⟨hcz28_0, hcz28_1, hcz28_2, hcz28_3, hfz28_0, hfz28_1, hfz28_2, hfz28_3⟩ := cf4 BK965
                    go_wp2
                    go_meet
                    case rel => exact ⟨_, (false), (by first | rfl | (simp; done) | (simp [*]; done)), H', ⟨by have := HK1.out; have := HJ11.out; first | omega | exact Nat.le_refl _⟩, ⟨pk BK963⟩, ⟨pk BK965⟩, ⟨bnow HB⟩⟩
                · rw [if_neg c20] at H
                  have c20b0 : (x966000_1 == 1) = false := beq_eq_false_iff_ne.mpr c20
                  have c20b1 : (x966000_1 != 1) = true := bne_iff_ne.mpr c20
                  (first | rw [c20b0] | (simp only [i64_w, i32_w]; rw [c20b0]) | skip)
                  have H' := Aside0.mk H
                  clear H
                  have hnb29 := NB965_963.out
                  have hnc29 := NB963_965.out
                  have ⟨hcz30_0, hcz30_1, hcz30_2, hcz30_3, hfz30_0, hfz30_1, hfz30_2, hfz30_3⟩ := cf4 BK965
                  go_wp2
                  go_meet
                  case rel => exact ⟨_, (false), (by first | rfl | (simp; done) | (simp [*]; done)), H', ⟨by have := HK1.out; have := HJ11.out; first | omega | exact Nat.le_refl _⟩, ⟨pk BK963⟩, ⟨pk BK965⟩, ⟨bnow HB⟩⟩
              case rest =>
                clear HC19
                try clear c1; try clear c2; try clear p2; try clear c3; try clear c9; try clear c13; try clear c13b0; try clear c15; try clear c18; try clear c20; try clear c20b0; try clear c20b1; try clear c21; try clear c21b0; try clear c21b1; try clear c22; try clear c22b0; try clear c22b1; try clear c23; try clear c25; try clear c27; try clear c29; try clear hcz10_0; try clear hcz10_1; try clear hcz10_2; try clear hcz10_3; try clear hcz16_0; try clear hcz16_1; try clear hcz16_2; try clear hcz16_3; try clear hcz24_0; try clear hcz24_1; try clear hcz24_2; try clear hcz24_3; try clear hcz26_0; try clear hcz26_1; try clear hcz26_2; try clear hcz26_3; try clear hcz28_0; try clear hcz28_1; try clear hcz28_2; try clear hcz28_3; try clear hcz30_0; try clear hcz30_1; try clear hcz30_2; try clear hcz30_3; try clear hcz5_0; try clear hcz5_1; try clear hcz5_2; try clear hcz5_3; try clear hcz7_0; try clear hcz7_1; try clear hcz7_2; try clear hcz7_3; try clear hfz10_0; try clear hfz10_1; try clear hfz10_2; try clear hfz10_3; try clear hfz16_0; try clear hfz16_1; try clear hfz16_2; try clear hfz16_3; try clear hfz24_0; try clear hfz24_1; try clear hfz24_2; try clear hfz24_3; try clear hfz26_0; try clear hfz26_1; try clear hfz26_2; try clear hfz26_3; try clear hfz28_0; try clear hfz28_1; try clear hfz28_2; try clear hfz28_3; try clear hfz30_0; try clear hfz30_1; try clear hfz30_2; try clear hfz30_3; try clear hfz5_0; try clear hfz5_1; try clear hfz5_2; try clear hfz5_3; try clear hfz7_0; try clear hfz7_1; try clear hfz7_2; try clear hfz7_3; try clear p2
                obtain ⟨kq, x35_18, rfl, HA, HJ18, BK963, BK965, HB⟩ := hcut
                cases kq with
                | zero => exact absurd HA.out (by simp [torchonref06_Order.j2])
                | succ kj18 =>
                  have H := HA.out
                  clear HA
                  simp only [torchonref06_Order.j2] at H
                  by_cases c31 : x35_18 = true
                  · subst c31
                    have H1 : (some (x5_1, 0)) = some (r1, r2) := by rw [if_pos rfl] at H; exact H
                    clear H
                    have H := H1
                    clear H1
                    simp only [Option.some.injEq, Prod.mk.injEq] at H
                    obtain ⟨rfl, rfl⟩ := H
                    go_wp2
                    go_ret2
                    exact rt HB
                  · replace c31 := Bool.eq_false_iff.mpr c31
                    subst c31
                    have H1 : ((torchonref06_Times.f a0_0 a0_1 a0_2 a0_3 x966000_1 x966001_1 x966002_1 x966003_1).bind fun bt967 => ((some (wrap64 (x5_1 + 1))).bind fun z971 => (torchonref06_Order.l0 kj18 z971 a0_0 a0_1 a0_2 a0_3 bt967.1 bt967.2.1 bt967.2.2.1 bt967.2.2.2))) = some (r1, r2) := by rw [if_neg (show ¬ (false = true) by decide)] at H; exact H
                    clear H
                    have H := H1
                    clear H1
                    obtain ⟨⟨t967, t968, t969, t970⟩, A32, H⟩ := ob H
                    obtain ⟨z971, E330, H⟩ := oc H
                    have E33w : (IntKind.i64.wrap (x5_1 + 1)) = z971 := (i64_w _).trans E330
                    have H' := Aside0.mk H
                    clear H
                    have hnb34 := NB963_965.out
                    have hnc34 := NB965_963.out
                    have ⟨hcz35_0, hcz35_1, hcz35_2, hcz35_3, hfz35_0, hfz35_1, hfz35_2, hfz35_3⟩ := cf4 BK963
                    have ⟨hcz36_0, hcz36_1, hcz36_2, hcz36_3, hfz36_0, hfz36_1, hfz36_2, hfz36_3⟩ := cf4 BK965
                    go_wp2_with (first | ((with_reducible refine gate_callee (f := 37) rfl ?_); refine gl 39 Try.func37 (torchonref06_Times.calls a0_0 a0_1 a0_2 a0_3 x966000_1 x966001_1 x966002_1 x966003_1 t967 t968 t969 t970 _ A32.out) ?_; rintro e w37 ⟨rfl, hb⟩; refine ⟨_, rfl, ?_⟩; replace BK963 := bb BK963 hb; replace BK965 := bb BK965 hb; replace HB := bst HB hb; clear hb; have ⟨hcz38_0, hcz38_1, hcz38_2, hcz38_3, hfz38_0, hfz38_1, hfz38_2, hfz38_3⟩ := cf4 BK965) | ((with_reducible refine gate_store (t := 25) (p := 4) rfl ?_); refine sx 25 4 (((((w37.setCell ⟨gb965, 0, none⟩ (.int .i64 t967)).setCell ⟨gb965, 1, none⟩ (.int .i64 t968)).setCell ⟨gb965, 2, none⟩ (.int .i64 t969)).setCell ⟨gb965, 3, none⟩ (.int .i64 t970))) fun w39 hw => ?_; replace BK963 := fw hw BK963; replace BK965 := pw4 hw BK965; replace HB := bw hw HB; clear hw))
                    go_roundg kj18
                    case measure => have := HK1.out; have := HJ11.out; have := HJ18.out; omega
                    case rel => exact ⟨(z971), (t967), (t968), (t969), (t970), (by first | rfl | (simp; done) | (simp [*]; done)), H', ⟨by have := HK1.out; have := HJ11.out; have := HJ18.out; omega⟩, ⟨pk BK963⟩, ⟨pk BK965⟩, ⟨bnow HB⟩⟩
            · replace c18 := Bool.eq_false_iff.mpr c18
              subst c18
              have H1 : (some (0, 0)) = some (r1, r2) := by rw [if_neg (show ¬ (false = true) by decide)] at H; exact H
              clear H
              have H := H1
              clear H1
              simp only [Option.some.injEq, Prod.mk.injEq] at H
              obtain ⟨rfl, rfl⟩ := H
              go_wp2
              go_ret2
              exact rt HB
  · replace c3 := Bool.eq_false_iff.mpr c3
    subst c3
    have H1 : (some (0, 2)) = some (r1, r2) := by rw [if_neg (show ¬ (false = true) by decide)] at H; exact H
    clear H
    have H := H1
    clear H1
    simp only [Option.some.injEq, Prod.mk.injEq] at H
    obtain ⟨rfl, rfl⟩ := H
    go_enter Try.func34, Try.ntmps34
    go_wp2_with (first | ((with_reducible refine gate_dst (N := 1) rfl ?_); refine bx 1 #[.int .i64 a0_0, .int .i64 a0_1, .int .i64 a0_2, .int .i64 a0_3] 25 fun gb963 hg w40 BK963 hb => ?_; have GW963 := gw hg HB; have GE963 := gw hg HB; replace HB := bst HB hb; clear hb hg; have ⟨hcz41_0, hcz41_1, hcz41_2, hcz41_3, hfz41_0, hfz41_1, hfz41_2, hfz41_3⟩ := cf4 BK963) | ((with_reducible refine gate_callee (f := 15) rfl ?_); refine gl 7 Try.func15 (torchonref06_Matrix.calls a0_0 a0_1 a0_2 a0_3 false _ A2.out) ?_; rintro e w42 ⟨rfl, hb⟩; refine ⟨_, rfl, ?_⟩; replace BK963 := bb BK963 hb; replace HB := bst HB hb; clear hb))
    go_ret2
    exact rt HB
end
section
attribute [local go_sem high] eqA37 eqA55
/-! ### torchonlaw06_GridsMoves: function 8 -/
def torchonlaw06_GridsMoves.j0 : Nat → Bool → Int → Int → Int → Int → Int → Int → Option (Bool)
  | 0, _, _, _, _, _, _, _ => none
  | k + 1, x60, x973000, x973001, x973002, x973003, x973004, x973005 => if x60 = true then (none) else ((grids_Invert.f k x973000 x973001 x973002 x973003 x973004 x973005).bind fun bt999 => ((torchonref06_Invert.f k x973000 x973001 x973002 x973003 x973004 x973005).bind fun bt1006 => ((grids_Order.f k x973000 x973001 x973002 x973003).bind fun bt1013 => ((torchonref06_Order.f k x973000 x973001 x973002 x973003).bind fun bt1015 => (if ((bt999.1 == bt1006.1 && (bt999.2.1 == bt1006.2.1 && (bt999.2.2.1 == bt1006.2.2.1 && (bt999.2.2.2.1 == bt1006.2.2.2.1)))) && ((bt999.2.2.2.2.1 == bt1006.2.2.2.2.1 && (bt999.2.2.2.2.2.1 == bt1006.2.2.2.2.2.1)))) = true then (if bt999.2.2.2.2.2.2 = bt1006.2.2.2.2.2.2 then (if bt1013.1 = bt1015.1 then (if bt1013.2 = bt1015.2 then ((torchonlaw06_awake.f k).bind fun t1017 => (some t1017)) else (none)) else (none)) else (none)) else (none))))))
def torchonlaw06_GridsMoves.f (k : Nat) (a0_0 : Int) (a0_1 : Int) (a0_2 : Int) (a0_3 : Int) (a0_4 : Int) (a0_5 : Int) (a1_0 : Int) (a1_1 : Int) (a1_2 : Int) (a1_3 : Int) (a1_4 : Int) (a1_5 : Int) (a2_0 : Int) (a2_1 : Int) : Option (Bool) := (grids_Apply.f k a0_0 a0_1 a0_2 a0_3 a0_4 a0_5 a2_0 a2_1).bind fun bt975 => ((torchonref06_Apply.f k a0_0 a0_1 a0_2 a0_3 a0_4 a0_5 a2_0 a2_1).bind fun bt979 => ((grids_Compose.f k a0_0 a0_1 a0_2 a0_3 a0_4 a0_5 a1_0 a1_1 a1_2 a1_3 a1_4 a1_5).bind fun bt983 => ((torchonref06_Compose.f k a0_0 a0_1 a0_2 a0_3 a0_4 a0_5 a1_0 a1_1 a1_2 a1_3 a1_4 a1_5).bind fun bt991 => (if (!(bt975.1 == bt979.1) || (!(bt975.2.1 == bt979.2.1))) = true then (torchonlaw06_GridsMoves.j0 k true a0_0 a0_1 a0_2 a0_3 a0_4 a0_5) else (if bt975.2.2 = bt979.2.2 then (if ((!(bt983.1 == bt991.1) || (!(bt983.2.1 == bt991.2.1) || (!(bt983.2.2.1 == bt991.2.2.1) || (!(bt983.2.2.2.1 == bt991.2.2.2.1))))) || ((!(bt983.2.2.2.2.1 == bt991.2.2.2.2.1) || (!(bt983.2.2.2.2.2.1 == bt991.2.2.2.2.2.1))))) = true then (torchonlaw06_GridsMoves.j0 k true a0_0 a0_1 a0_2 a0_3 a0_4 a0_5) else (torchonlaw06_GridsMoves.j0 k (bt983.2.2.2.2.2.2 != bt991.2.2.2.2.2.2) a0_0 a0_1 a0_2 a0_3 a0_4 a0_5)) else (torchonlaw06_GridsMoves.j0 k true a0_0 a0_1 a0_2 a0_3 a0_4 a0_5))))))
theorem torchonlaw06_GridsMoves.mono_l : ∀ k, (∀ y0 y1 y2 y3 y4 y5 y6, LeO (torchonlaw06_GridsMoves.j0 k y0 y1 y2 y3 y4 y5 y6) (torchonlaw06_GridsMoves.j0 (k + 1) y0 y1 y2 y3 y4 y5 y6))
  | 0 => fun _ _ _ _ _ _ _ r h => by simp [torchonlaw06_GridsMoves.j0] at h
  | k + 1 => by
    have ih0 := torchonlaw06_GridsMoves.mono_l k
    · intro y0 y1 y2 y3 y4 y5 y6
      unfold torchonlaw06_GridsMoves.j0
      repeat' first
      | (with_reducible exact ih0 _ _ _ _ _ _ _)
      | (with_reducible exact grids_Apply.mono _ _ _ _ _ _ _ _ _)
      | (with_reducible exact grids_Compose.mono _ _ _ _ _ _ _ _ _ _ _ _ _)
      | (with_reducible exact grids_Invert.mono _ _ _ _ _ _ _)
      | (with_reducible exact grids_Order.mono _ _ _ _ _)
      | (with_reducible exact torchonlaw06_awake.mono _)
      | (with_reducible exact torchonref06_Apply.mono _ _ _ _ _ _ _ _ _)
      | (with_reducible exact torchonref06_Compose.mono _ _ _ _ _ _ _ _ _ _ _ _ _)
      | (with_reducible exact torchonref06_Invert.mono _ _ _ _ _ _ _)
      | (with_reducible exact torchonref06_Order.mono _ _ _ _ _)
      | (with_reducible exact LeO.refl _)
      | (with_reducible exact LeO.none _)
      | (with_reducible refine LeO.ite ?_ ?_)
      | (with_reducible refine LeO.bind ?_ (fun _ => ?_))
      | exact ih0 _ _ _ _ _ _ _
      | exact grids_Apply.mono _ _ _ _ _ _ _ _ _
      | exact grids_Compose.mono _ _ _ _ _ _ _ _ _ _ _ _ _
      | exact grids_Invert.mono _ _ _ _ _ _ _
      | exact grids_Order.mono _ _ _ _ _
      | exact torchonlaw06_awake.mono _
      | exact torchonref06_Apply.mono _ _ _ _ _ _ _ _ _
      | exact torchonref06_Compose.mono _ _ _ _ _ _ _ _ _ _ _ _ _
      | exact torchonref06_Invert.mono _ _ _ _ _ _ _
      | exact torchonref06_Order.mono _ _ _ _ _
      | exact LeO.none _
      | refine LeO.ite ?_ ?_
      | refine LeO.bind ?_ (fun _ => ?_)
theorem torchonlaw06_GridsMoves.mono : ∀ a0 a1 a2 a3 a4 a5 a6 a7 a8 a9 a10 a11 a12 a13 k, LeO (torchonlaw06_GridsMoves.f k a0 a1 a2 a3 a4 a5 a6 a7 a8 a9 a10 a11 a12 a13) (torchonlaw06_GridsMoves.f (k + 1) a0 a1 a2 a3 a4 a5 a6 a7 a8 a9 a10 a11 a12 a13) := by
  intro a0 a1 a2 a3 a4 a5 a6 a7 a8 a9 a10 a11 a12 a13 k
  have ih0 := torchonlaw06_GridsMoves.mono_l k
  unfold torchonlaw06_GridsMoves.f
  repeat' first
      | (with_reducible exact ih0 _ _ _ _ _ _ _)
      | (with_reducible exact grids_Apply.mono _ _ _ _ _ _ _ _ _)
      | (with_reducible exact grids_Compose.mono _ _ _ _ _ _ _ _ _ _ _ _ _)
      | (with_reducible exact grids_Invert.mono _ _ _ _ _ _ _)
      | (with_reducible exact grids_Order.mono _ _ _ _ _)
      | (with_reducible exact torchonlaw06_awake.mono _)
      | (with_reducible exact torchonref06_Apply.mono _ _ _ _ _ _ _ _ _)
      | (with_reducible exact torchonref06_Compose.mono _ _ _ _ _ _ _ _ _ _ _ _ _)
      | (with_reducible exact torchonref06_Invert.mono _ _ _ _ _ _ _)
      | (with_reducible exact torchonref06_Order.mono _ _ _ _ _)
      | (with_reducible exact LeO.refl _)
      | (with_reducible exact LeO.none _)
      | (with_reducible refine LeO.ite ?_ ?_)
      | (with_reducible refine LeO.bind ?_ (fun _ => ?_))
      | exact ih0 _ _ _ _ _ _ _
      | exact grids_Apply.mono _ _ _ _ _ _ _ _ _
      | exact grids_Compose.mono _ _ _ _ _ _ _ _ _ _ _ _ _
      | exact grids_Invert.mono _ _ _ _ _ _ _
      | exact grids_Order.mono _ _ _ _ _
      | exact torchonlaw06_awake.mono _
      | exact torchonref06_Apply.mono _ _ _ _ _ _ _ _ _
      | exact torchonref06_Compose.mono _ _ _ _ _ _ _ _ _ _ _ _ _
      | exact torchonref06_Invert.mono _ _ _ _ _ _ _
      | exact torchonref06_Order.mono _ _ _ _ _
      | exact LeO.none _
      | refine LeO.ite ?_ ?_
      | refine LeO.bind ?_ (fun _ => ?_)
set_option maxHeartbeats 8000000 in
set_option maxRecDepth 100000 in
theorem torchonlaw06_GridsMoves.calls (k : Nat) (a0_0 : Int) (a0_1 : Int) (a0_2 : Int) (a0_3 : Int) (a0_4 : Int) (a0_5 : Int) (a1_0 : Int) (a1_1 : Int) (a1_2 : Int) (a1_3 : Int) (a1_4 : Int) (a1_5 : Int) (a2_0 : Int) (a2_1 : Int) (r : Bool) (w : World) (h : torchonlaw06_GridsMoves.f k a0_0 a0_1 a0_2 a0_3 a0_4 a0_5 a1_0 a1_1 a1_2 a1_3 a1_4 a1_5 a2_0 a2_1 = some r) :
    Calls Try.prog 8 #[.agg #[.int .i64 a0_0, .int .i64 a0_1, .int .i64 a0_2, .int .i64 a0_3, .int .i64 a0_4, .int .i64 a0_5], .agg #[.int .i64 a1_0, .int .i64 a1_1, .int .i64 a1_2, .int .i64 a1_3, .int .i64 a1_4, .int .i64 a1_5], .agg #[.int .i64 a2_0, .int .i64 a2_1]] w fun e w' => e = .returned (.bool r) ∧ Below w.heap.size w w' := by
  have hu55 := Try.underlying55
  have hu37 := Try.underlying37
  have hu25 := Try.underlying25
  have HB := Aside0.mk (Below.refl w.heap.size w)
  have H : ((grids_Apply.f k a0_0 a0_1 a0_2 a0_3 a0_4 a0_5 a2_0 a2_1).bind fun bt975 => ((torchonref06_Apply.f k a0_0 a0_1 a0_2 a0_3 a0_4 a0_5 a2_0 a2_1).bind fun bt979 => ((grids_Compose.f k a0_0 a0_1 a0_2 a0_3 a0_4 a0_5 a1_0 a1_1 a1_2 a1_3 a1_4 a1_5).bind fun bt983 => ((torchonref06_Compose.f k a0_0 a0_1 a0_2 a0_3 a0_4 a0_5 a1_0 a1_1 a1_2 a1_3 a1_4 a1_5).bind fun bt991 => (if (!(bt975.1 == bt979.1) || (!(bt975.2.1 == bt979.2.1))) = true then (torchonlaw06_GridsMoves.j0 k true a0_0 a0_1 a0_2 a0_3 a0_4 a0_5) else (if bt975.2.2 = bt979.2.2 then (if ((!(bt983.1 == bt991.1) || (!(bt983.2.1 == bt991.2.1) || (!(bt983.2.2.1 == bt991.2.2.1) || (!(bt983.2.2.2.1 == bt991.2.2.2.1))))) || ((!(bt983.2.2.2.2.1 == bt991.2.2.2.2.1) || (!(bt983.2.2.2.2.2.1 == bt991.2.2.2.2.2.1))))) = true then (torchonlaw06_GridsMoves.j0 k true a0_0 a0_1 a0_2 a0_3 a0_4 a0_5) else (torchonlaw06_GridsMoves.j0 k (bt983.2.2.2.2.2.2 != bt991.2.2.2.2.2.2) a0_0 a0_1 a0_2 a0_3 a0_4 a0_5)) else (torchonlaw06_GridsMoves.j0 k true a0_0 a0_1 a0_2 a0_3 a0_4 a0_5))))))) = some r := h
  clear h
  obtain ⟨⟨t975, t976, t977⟩, A4, H⟩ := ob H
  obtain ⟨⟨t979, t980, t981⟩, A5, H⟩ := ob H
  obtain ⟨⟨t983, t984, t985, t986, t987, t988, t989⟩, A6, H⟩ := ob H
  obtain ⟨⟨t991, t992, t993, t994, t995, t996, t997⟩, A7, H⟩ := ob H
  have HC8 := Aside0.mk H
  clear H
  go_enter Try.func8, Try.ntmps8
  go_upto_region 5 with (first | ((with_reducible refine gate_dst (N := 3) rfl ?_); refine bx 3 #[.int .i64 a0_0, .int .i64 a0_1, .int .i64 a0_2, .int .i64 a0_3, .int .i64 a0_4, .int .i64 a0_5] 55 fun gb972 hg w9 BK972 hb => ?_; have GW972 := gw hg HB; have GE972 := gw hg HB; replace HB := bst HB hb; clear hb hg) | ((with_reducible refine gate_dst (N := 4) rfl ?_); refine bx 4 #[.int .i64 a1_0, .int .i64 a1_1, .int .i64 a1_2, .int .i64 a1_3, .int .i64 a1_4, .int .i64 a1_5] 55 fun gb973 hg w10 BK973 hb => ?_; have GW973 := gw hg HB; have GE973 := gw hg HB; have NB972_973 := nlt hg BK972; have NB973_972 := ngt hg BK972; replace BK972 := bb BK972 hb; replace HB := bst HB hb; clear hb hg) | ((with_reducible refine gate_dst (N := 5) rfl ?_); refine bx 5 #[.int .i64 a2_0, .int .i64 a2_1] 37 fun gb974 hg w11 BK974 hb => ?_; have GW974 := gw hg HB; have GE974 := gw hg HB; have NB972_974 := nlt hg BK972; have NB974_972 := ngt hg BK972; have NB973_974 := nlt hg BK973; have NB974_973 := ngt hg BK973; replace BK972 := bb BK972 hb; replace BK973 := bb BK973 hb; replace HB := bst HB hb; clear hb hg; have hnb12 := NB972_973.out; have hnc12 := NB973_972.out; have hnb13 := NB972_974.out; have hnc13 := NB974_972.out; have ⟨hcz14_0, hcz14_1, hcz14_2, hcz14_3, hcz14_4, hcz14_5, hfz14_0, hfz14_1, hfz14_2, hfz14_3, hfz14_4, hfz14_5⟩ := cf6 BK972; have hnb15 := NB974_973.out; have hnc15 := NB973_974.out; have ⟨hcz16_0, hcz16_1, hfz16_0, hfz16_1⟩ := cf2 BK974) | ((with_reducible refine gate_callee (f := 27) rfl ?_); refine gl 22 Try.func27 (grids_Apply.calls k a0_0 a0_1 a0_2 a0_3 a0_4 a0_5 a2_0 a2_1 t975 t976 t977 _ A4.out) ?_; rintro e w17 ⟨rfl, hb⟩; refine ⟨_, rfl, ?_⟩; replace BK972 := bb BK972 hb; replace BK973 := bb BK973 hb; replace BK974 := bb BK974 hb; replace HB := bst HB hb; clear hb) | ((with_reducible refine gate_dst (N := 7) rfl ?_); refine bx 7 #[.int .i64 0, .int .i64 0] 37 fun gb978 hg w18 BK978 hb => ?_; have GW978 := gw hg HB; have GE978 := gw hg HB; have NB972_978 := nlt hg BK972; have NB978_972 := ngt hg BK972; have NB973_978 := nlt hg BK973; have NB978_973 := ngt hg BK973; have NB974_978 := nlt hg BK974; have NB978_974 := ngt hg BK974; replace BK972 := bb BK972 hb; replace BK973 := bb BK973 hb; replace BK974 := bb BK974 hb; replace HB := bst HB hb; clear hb hg; have hnb19 := NB978_972.out; have hnc19 := NB972_978.out; have hnb20 := NB978_973.out; have hnc20 := NB973_978.out; have hnb21 := NB978_974.out; have hnc21 := NB974_978.out; have ⟨hcz22_0, hcz22_1, hfz22_0, hfz22_1⟩ := cf2 BK978; have ⟨hcz23_0, hcz23_1, hcz23_2, hcz23_3, hcz23_4, hcz23_5, hfz23_0, hfz23_1, hfz23_2, hfz23_3, hfz23_4, hfz23_5⟩ := cf6 BK972; have ⟨hcz24_0, hcz24_1, hfz24_0, hfz24_1⟩ := cf2 BK974) | ((with_reducible refine gate_callee (f := 28) rfl ?_); refine gl 28 Try.func28 (torchonref06_Apply.calls k a0_0 a0_1 a0_2 a0_3 a0_4 a0_5 a2_0 a2_1 t979 t980 t981 _ A5.out) ?_; rintro e w25 ⟨rfl, hb⟩; refine ⟨_, rfl, ?_⟩; replace BK972 := Aside0.mk (blk_below (g := gb972) (o := .cells #[.int .i64 a0_0, .int .i64 a0_1, .int .i64 a0_2, .int .i64 a0_3, .int .i64 a0_4, .int .i64 a0_5] 55 (0, 0)) (by (with_reducible repeat (first | refine blk_drewN ?_ _ | refine blk_drew ?_ | refine blk_alloc ?_ _)); refine blk_far ?_ NB972_978.out _; (with_reducible repeat (first | refine blk_drewN ?_ _ | refine blk_drew ?_ | refine blk_alloc ?_ _)); refine blk_far ?_ NB972_978.out _; (with_reducible repeat (first | refine blk_drewN ?_ _ | refine blk_drew ?_ | refine blk_alloc ?_ _)); exact BK972.out) hb); replace BK973 := Aside0.mk (blk_below (g := gb973) (o := .cells #[.int .i64 a1_0, .int .i64 a1_1, .int .i64 a1_2, .int .i64 a1_3, .int .i64 a1_4, .int .i64 a1_5] 55 (0, 0)) (by (with_reducible repeat (first | refine blk_drewN ?_ _ | refine blk_drew ?_ | refine blk_alloc ?_ _)); refine blk_far ?_ NB973_978.out _; (with_reducible repeat (first | refine blk_drewN ?_ _ | refine blk_drew ?_ | refine blk_alloc ?_ _)); refine blk_far ?_ NB973_978.out _; (with_reducible repeat (first | refine blk_drewN ?_ _ | refine blk_drew ?_ | refine blk_alloc ?_ _)); exact BK973.out) hb); replace BK974 := Aside0.mk (blk_below (g := gb974) (o := .cells #[.int .i64 a2_0, .int .i64 a2_1] 37 (0, 0)) (by (with_reducible repeat (first | refine blk_drewN ?_ _ | refine blk_drew ?_ | refine blk_alloc ?_ _)); refine blk_far ?_ NB974_978.out _; (with_reducible repeat (first | refine blk_drewN ?_ _ | refine blk_drew ?_ | refine blk_alloc ?_ _)); refine blk_far ?_ NB974_978.out _; (with_reducible repeat (first | refine blk_drewN ?_ _ | refine blk_drew ?_ | refine blk_alloc ?_ _)); exact BK974.out) hb); replace BK978 := Aside0.mk (blk_below (g := gb978) (o := .cells #[.int .i64 t975, .int .i64 t976] 37 (0, 0)) (by (with_reducible repeat (first | refine blk_drewN ?_ _ | refine blk_drew ?_ | refine blk_alloc ?_ _)); refine blk_put (cs := #[.int .i64 t975, .int .i64 0]) ?_ 1 _ rfl; (with_reducible repeat (first | refine blk_drewN ?_ _ | refine blk_drew ?_ | refine blk_alloc ?_ _)); refine blk_put (cs := #[.int .i64 0, .int .i64 0]) ?_ 0 _ rfl; (with_reducible repeat (first | refine blk_drewN ?_ _ | refine blk_drew ?_ | refine blk_alloc ?_ _)); exact BK978.out) hb); replace HB := bst HB hb; (try clear hb); (try clear hb2); (try clear hk); (try clear hi)) | ((with_reducible refine gate_dst (N := 9) rfl ?_); refine bx 9 #[.int .i64 0, .int .i64 0] 37 fun gb982 hg w26 BK982 hb => ?_; have GW982 := gw hg HB; have GE982 := gw hg HB; have NB972_982 := nlt hg BK972; have NB982_972 := ngt hg BK972; have NB973_982 := nlt hg BK973; have NB982_973 := ngt hg BK973; have NB974_982 := nlt hg BK974; have NB982_974 := ngt hg BK974; have NB978_982 := nlt hg BK978; have NB982_978 := ngt hg BK978; replace BK972 := bb BK972 hb; replace BK973 := bb BK973 hb; replace BK974 := bb BK974 hb; replace BK978 := bb BK978 hb; replace HB := bst HB hb; clear hb hg; have hnb27 := NB982_972.out; have hnc27 := NB972_982.out; have hnb28 := NB982_973.out; have hnc28 := NB973_982.out; have hnb29 := NB982_974.out; have hnc29 := NB974_982.out; have hnb30 := NB982_978.out; have hnc30 := NB978_982.out; have ⟨hcz31_0, hcz31_1, hfz31_0, hfz31_1⟩ := cf2 BK982; have ⟨hcz32_0, hcz32_1, hcz32_2, hcz32_3, hcz32_4, hcz32_5, hfz32_0, hfz32_1, hfz32_2, hfz32_3, hfz32_4, hfz32_5⟩ := cf6 BK972; have ⟨hcz33_0, hcz33_1, hcz33_2, hcz33_3, hcz33_4, hcz33_5, hfz33_0, hfz33_1, hfz33_2, hfz33_3, hfz33_4, hfz33_5⟩ := cf6 BK973) | ((with_reducible refine gate_callee (f := 29) rfl ?_); refine gl 34 Try.func29 (grids_Compose.calls k a0_0 a0_1 a0_2 a0_3 a0_4 a0_5 a1_0 a1_1 a1_2 a1_3 a1_4 a1_5 t983 t984 t985 t986 t987 t988 t989 _ A6.out) ?_; rintro e w34 ⟨rfl, hb⟩; refine ⟨_, rfl, ?_⟩; replace BK972 := Aside0.mk (blk_below (g := gb972) (o := .cells #[.int .i64 a0_0, .int .i64 a0_1, .int .i64 a0_2, .int .i64 a0_3, .int .i64 a0_4, .int .i64 a0_5] 55 (0, 0)) (by (with_reducible repeat (first | refine blk_drewN ?_ _ | refine blk_drew ?_ | refine blk_alloc ?_ _)); refine blk_far ?_ NB972_982.out _; (with_reducible repeat (first | refine blk_drewN ?_ _ | refine blk_drew ?_ | refine blk_alloc ?_ _)); refine blk_far ?_ NB972_982.out _; (with_reducible repeat (first | refine blk_drewN ?_ _ | refine blk_drew ?_ | refine blk_alloc ?_ _)); exact BK972.out) hb); replace BK973 := Aside0.mk (blk_below (g := gb973) (o := .cells #[.int .i64 a1_0, .int .i64 a1_1, .int .i64 a1_2, .int .i64 a1_3, .int .i64 a1_4, .int .i64 a1_5] 55 (0, 0)) (by (with_reducible repeat (first | refine blk_drewN ?_ _ | refine blk_drew ?_ | refine blk_alloc ?_ _)); refine blk_far ?_ NB973_982.out _; (with_reducible repeat (first | refine blk_drewN ?_ _ | refine blk_drew ?_ | refine blk_alloc ?_ _)); refine blk_far ?_ NB973_982.out _; (with_reducible repeat (first | refine blk_drewN ?_ _ | refine blk_drew ?_ | refine blk_alloc ?_ _)); exact BK973.out) hb); replace BK974 := Aside0.mk (blk_below (g := gb974) (o := .cells #[.int .i64 a2_0, .int .i64 a2_1] 37 (0, 0)) (by (with_reducible repeat (first | refine blk_drewN ?_ _ | refine blk_drew ?_ | refine blk_alloc ?_ _)); refine blk_far ?_ NB974_982.out _; (with_reducible repeat (first | refine blk_drewN ?_ _ | refine blk_drew ?_ | refine blk_alloc ?_ _)); refine blk_far ?_ NB974_982.out _; (with_reducible repeat (first | refine blk_drewN ?_ _ | refine blk_drew ?_ | refine blk_alloc ?_ _)); exact BK974.out) hb); replace BK978 := Aside0.mk (blk_below (g := gb978) (o := .cells #[.int .i64 t975, .int .i64 t976] 37 (0, 0)) (by (with_reducible repeat (first | refine blk_drewN ?_ _ | refine blk_drew ?_ | refine blk_alloc ?_ _)); refine blk_far ?_ NB978_982.out _; (with_reducible repeat (first | refine blk_drewN ?_ _ | refine blk_drew ?_ | refine blk_alloc ?_ _)); refine blk_far ?_ NB978_982.out _; (with_reducible repeat (first | refine blk_drewN ?_ _ | refine blk_drew ?_ | refine blk_alloc ?_ _)); exact BK978.out) hb); replace BK982 := Aside0.mk (blk_below (g := gb982) (o := .cells #[.int .i64 t979, .int .i64 t980] 37 (0, 0)) (by (with_reducible repeat (first | refine blk_drewN ?_ _ | refine blk_drew ?_ | refine blk_alloc ?_ _)); refine blk_put (cs := #[.int .i64 t979, .int .i64 0]) ?_ 1 _ rfl; (with_reducible repeat (first | refine blk_drewN ?_ _ | refine blk_drew ?_ | refine blk_alloc ?_ _)); refine blk_put (cs := #[.int .i64 0, .int .i64 0]) ?_ 0 _ rfl; (with_reducible repeat (first | refine blk_drewN ?_ _ | refine blk_drew ?_ | refine blk_alloc ?_ _)); exact BK982.out) hb); replace HB := bst HB hb; (try clear hb); (try clear hb2); (try clear hk); (try clear hi)) | ((with_reducible refine gate_dst (N := 11) rfl ?_); refine bx 11 #[.int .i64 0, .int .i64 0, .int .i64 0, .int .i64 0, .int .i64 0, .int .i64 0] 55 fun gb990 hg w35 BK990 hb => ?_; have GW990 := gw hg HB; have GE990 := gw hg HB; have NB972_990 := nlt hg BK972; have NB990_972 := ngt hg BK972; have NB973_990 := nlt hg BK973; have NB990_973 := ngt hg BK973; have NB974_990 := nlt hg BK974; have NB990_974 := ngt hg BK974; have NB978_990 := nlt hg BK978; have NB990_978 := ngt hg BK978; have NB982_990 := nlt hg BK982; have NB990_982 := ngt hg BK982; replace BK972 := bb BK972 hb; replace BK973 := bb BK973 hb; replace BK974 := bb BK974 hb; replace BK978 := bb BK978 hb; replace BK982 := bb BK982 hb; replace HB := bst HB hb; clear hb hg; have hnb36 := NB990_972.out; have hnc36 := NB972_990.out; have hnb37 := NB990_973.out; have hnc37 := NB973_990.out; have hnb38 := NB990_974.out; have hnc38 := NB974_990.out; have hnb39 := NB990_978.out; have hnc39 := NB978_990.out; have hnb40 := NB990_982.out; have hnc40 := NB982_990.out; have ⟨hcz41_0, hcz41_1, hcz41_2, hcz41_3, hcz41_4, hcz41_5, hfz41_0, hfz41_1, hfz41_2, hfz41_3, hfz41_4, hfz41_5⟩ := cf6 BK990) | ((with_reducible refine gate_store (t := 55) (p := 11) rfl ?_); refine sx 55 11 (((((((w35.setCell ⟨gb990, 0, none⟩ (.int .i64 t983)).setCell ⟨gb990, 1, none⟩ (.int .i64 t984)).setCell ⟨gb990, 2, none⟩ (.int .i64 t985)).setCell ⟨gb990, 3, none⟩ (.int .i64 t986)).setCell ⟨gb990, 4, none⟩ (.int .i64 t987)).setCell ⟨gb990, 5, none⟩ (.int .i64 t988))) fun w42 hw => ?_; replace BK972 := fw hw BK972; replace BK973 := fw hw BK973; replace BK974 := fw hw BK974; replace BK978 := fw hw BK978; replace BK982 := fw hw BK982; replace BK990 := pw6 hw BK990; replace HB := bw hw HB; clear hw; have ⟨hcz43_0, hcz43_1, hcz43_2, hcz43_3, hcz43_4, hcz43_5, hfz43_0, hfz43_1, hfz43_2, hfz43_3, hfz43_4, hfz43_5⟩ := cf6 BK972; have ⟨hcz44_0, hcz44_1, hcz44_2, hcz44_3, hcz44_4, hcz44_5, hfz44_0, hfz44_1, hfz44_2, hfz44_3, hfz44_4, hfz44_5⟩ := cf6 BK973) | ((with_reducible refine gate_callee (f := 30) rfl ?_); refine gl 40 Try.func30 (torchonref06_Compose.calls k a0_0 a0_1 a0_2 a0_3 a0_4 a0_5 a1_0 a1_1 a1_2 a1_3 a1_4 a1_5 t991 t992 t993 t994 t995 t996 t997 _ A7.out) ?_; rintro e w45 ⟨rfl, hb⟩; refine ⟨_, rfl, ?_⟩; replace BK972 := bb BK972 hb; replace BK973 := bb BK973 hb; replace BK974 := bb BK974 hb; replace BK978 := bb BK978 hb; replace BK982 := bb BK982 hb; replace BK990 := bb BK990 hb; replace HB := bst HB hb; clear hb) | ((with_reducible refine gate_dst (N := 13) rfl ?_); refine bx 13 #[.int .i64 0, .int .i64 0, .int .i64 0, .int .i64 0, .int .i64 0, .int .i64 0] 55 fun gb998 hg w46 BK998 hb => ?_; have GW998 := gw hg HB; have GE998 := gw hg HB; have NB972_998 := nlt hg BK972; have NB998_972 := ngt hg BK972; have NB973_998 := nlt hg BK973; have NB998_973 := ngt hg BK973; have NB974_998 := nlt hg BK974; have NB998_974 := ngt hg BK974; have NB978_998 := nlt hg BK978; have NB998_978 := ngt hg BK978; have NB982_998 := nlt hg BK982; have NB998_982 := ngt hg BK982; have NB990_998 := nlt hg BK990; have NB998_990 := ngt hg BK990; replace BK972 := bb BK972 hb; replace BK973 := bb BK973 hb; replace BK974 := bb BK974 hb; replace BK978 := bb BK978 hb; replace BK982 := bb BK982 hb; replace BK990 := bb BK990 hb; replace HB := bst HB hb; clear hb hg; have hnb47 := NB998_972.out; have hnc47 := NB972_998.out; have hnb48 := NB998_973.out; have hnc48 := NB973_998.out; have hnb49 := NB998_974.out; have hnc49 := NB974_998.out; have hnb50 := NB998_978.out; have hnc50 := NB978_998.out; have hnb51 := NB998_982.out; have hnc51 := NB982_998.out; have hnb52 := NB998_990.out; have hnc52 := NB990_998.out; have ⟨hcz53_0, hcz53_1, hcz53_2, hcz53_3, hcz53_4, hcz53_5, hfz53_0, hfz53_1, hfz53_2, hfz53_3, hfz53_4, hfz53_5⟩ := cf6 BK998) | ((with_reducible refine gate_store (t := 55) (p := 13) rfl ?_); refine sx 55 13 (((((((w46.setCell ⟨gb998, 0, none⟩ (.int .i64 t991)).setCell ⟨gb998, 1, none⟩ (.int .i64 t992)).setCell ⟨gb998, 2, none⟩ (.int .i64 t993)).setCell ⟨gb998, 3, none⟩ (.int .i64 t994)).setCell ⟨gb998, 4, none⟩ (.int .i64 t995)).setCell ⟨gb998, 5, none⟩ (.int .i64 t996))) fun w54 hw => ?_; replace BK972 := fw hw BK972; replace BK973 := fw hw BK973; replace BK974 := fw hw BK974; replace BK978 := fw hw BK978; replace BK982 := fw hw BK982; replace BK990 := fw hw BK990; replace BK998 := pw6 hw BK998; replace HB := bw hw HB; clear hw))
  (try simp only [Act.put, List.setIfInBounds_toArray, List.set_cons_zero, List.set_cons_succ])
  go_cut [60] (fun v60 wc => ∃ (kq : Nat) (x60_7 : Bool), v60 = .bool x60_7 ∧ Aside0 (torchonlaw06_GridsMoves.j0 kq x60_7 a0_0 a0_1 a0_2 a0_3 a0_4 a0_5 = some r) ∧ Aside0 (kq ≤ k) ∧ Aside0 (wc.heap[gb972]? = some (.cells #[.int .i64 a0_0, .int .i64 a0_1, .int .i64 a0_2, .int .i64 a0_3, .int .i64 a0_4, .int .i64 a0_5] 55 (0, 0))) ∧ Aside0 (wc.heap[gb973]? = some (.cells #[.int .i64 a1_0, .int .i64 a1_1, .int .i64 a1_2, .int .i64 a1_3, .int .i64 a1_4, .int .i64 a1_5] 55 (0, 0))) ∧ Aside0 (wc.heap[gb974]? = some (.cells #[.int .i64 a2_0, .int .i64 a2_1] 37 (0, 0))) ∧ Aside0 (wc.heap[gb978]? = some (.cells #[.int .i64 t975, .int .i64 t976] 37 (0, 0))) ∧ Aside0 (wc.heap[gb982]? = some (.cells #[.int .i64 t979, .int .i64 t980] 37 (0, 0))) ∧ Aside0 (wc.heap[gb990]? = some (.cells #[.int .i64 t983, .int .i64 t984, .int .i64 t985, .int .i64 t986, .int .i64 t987, .int .i64 t988] 55 (0, 0))) ∧ Aside0 (wc.heap[gb998]? = some (.cells #[.int .i64 t991, .int .i64 t992, .int .i64 t993, .int .i64 t994, .int .i64 t995, .int .i64 t996] 55 (0, 0))) ∧ Aside0 (Below w.heap.size w wc))
  case first =>
    have H := HC8.out
    clear HC8
    by_cases c55 : (!(t975 == t979) || (!(t976 == t980))) = true
    · rw [if_pos c55] at H
      have c55b0 : (!(t975 == t979) || (!(t976 == t980))) = true := c55
      clear c55
      (first | rw [c55b0] | (simp only [i64_w, i32_w]; rw [c55b0]) | skip)
      have H' := Aside0.mk H
      clear H
      have hnb56 := NB978_972.out
      have hnc56 := NB972_978.out
      have hnb57 := NB978_973.out
      have hnc57 := NB973_978.out
      have hnb58 := NB978_974.out
      have hnc58 := NB974_978.out
      have hnb59 := NB978_982.out
      have hnc59 := NB982_978.out
      have hnb60 := NB978_990.out
      have hnc60 := NB990_978.out
      have hnb61 := NB978_998.out
      have hnc61 := NB998_978.out
      have ⟨hcz62_0, hcz62_1, hfz62_0, hfz62_1⟩ := cf2 BK978
      have hnb63 := NB982_972.out
      have hnc63 := NB972_982.out
      have hnb64 := NB982_973.out
      have hnc64 := NB973_982.out
      have hnb65 := NB982_974.out
      have hnc65 := NB974_982.out
      have hnb66 := NB982_990.out
      have hnc66 := NB990_982.out
      have hnb67 := NB982_998.out
      have hnc67 := NB998_982.out
      have ⟨hcz68_0, hcz68_1, hfz68_0, hfz68_1⟩ := cf2 BK982
      go_wp2
      go_meet
      case rel => exact ⟨_, (true), (by first | rfl | (simp; done) | (simp [*]; done)), H', ⟨by first | omega | exact Nat.le_refl _⟩, ⟨pk BK972⟩, ⟨pk BK973⟩, ⟨pk BK974⟩, ⟨pk BK978⟩, ⟨pk BK982⟩, ⟨pk BK990⟩, ⟨pk BK998⟩, ⟨bnow HB⟩⟩
    · rw [if_neg c55] at H
      have c55b0 : (!(t975 == t979) || (!(t976 == t980))) = false := by simpa using c55
      clear c55
      (first | rw [c55b0] | (simp only [i64_w, i32_w]; rw [c55b0]) | skip)
      by_cases c69 : t977 = t981
      · rw [if_pos c69] at H
        have c69b0 : (t977 == t981) = true := beq_iff_eq.mpr c69
        have c69b1 : (t977 != t981) = false := bne_eq_false_iff_eq.mpr c69
        clear c69
        by_cases c70 : ((!(t983 == t991) || (!(t984 == t992) || (!(t985 == t993) || (!(t986 == t994))))) || ((!(t987 == t995) || (!(t988 == t996))))) = true
        · rw [if_pos c70] at H
          have c70b0 : ((!(t983 == t991) || (!(t984 == t992) || (!(t985 == t993) || (!(t986 == t994))))) || ((!(t987 == t995) || (!(t988 == t996))))) = true := c70
          clear c70
          have H' := Aside0.mk H
          clear H
          have hnb71 := NB978_972.out
          have hnc71 := NB972_978.out
          have hnb72 := NB978_973.out
          have hnc72 := NB973_978.out
          have hnb73 := NB978_974.out
          have hnc73 := NB974_978.out
          have hnb74 := NB978_982.out
          have hnc74 := NB982_978.out
          have hnb75 := NB978_990.out
          have hnc75 := NB990_978.out
          have hnb76 := NB978_998.out
          have hnc76 := NB998_978.out
          have ⟨hcz77_0, hcz77_1, hfz77_0, hfz77_1⟩ := cf2 BK978
          have hnb78 := NB982_972.out
          have hnc78 := NB972_982.out
          have hnb79 := NB982_973.out
          have hnc79 := NB973_982.out
          have hnb80 := NB982_974.out
          have hnc80 := NB974_982.out
          have hnb81 := NB982_990.out
          have hnc81 := NB990_982.out
          have hnb82 := NB982_998.out
          have hnc82 := NB998_982.out
          have ⟨hcz83_0, hcz83_1, hfz83_0, hfz83_1⟩ := cf2 BK982
          have hnb84 := NB990_972.out
          have hnc84 := NB972_990.out
          have hnb85 := NB990_973.out
          have hnc85 := NB973_990.out
          have hnb86 := NB990_974.out
          have hnc86 := NB974_990.out
          have hnb87 := NB990_998.out
          have hnc87 := NB998_990.out
          have ⟨hcz88_0, hcz88_1, hcz88_2, hcz88_3, hcz88_4, hcz88_5, hfz88_0, hfz88_1, hfz88_2, hfz88_3, hfz88_4, hfz88_5⟩ := cf6 BK990
          have hnb89 := NB998_972.out
          have hnc89 := NB972_998.out
          have hnb90 := NB998_973.out
          have hnc90 := NB973_998.out
          have hnb91 := NB998_974.out
          have hnc91 := NB974_998.out
          have ⟨hcz92_0, hcz92_1, hcz92_2, hcz92_3, hcz92_4, hcz92_5, hfz92_0, hfz92_1, hfz92_2, hfz92_3, hfz92_4, hfz92_5⟩ := cf6 BK998
          go_wp2
          go_meet
          case rel => exact ⟨_, (true), (by first | rfl | (simp; done) | (simp [*]; done)), H', ⟨by first | omega | exact Nat.le_refl _⟩, ⟨pk BK972⟩, ⟨pk BK973⟩, ⟨pk BK974⟩, ⟨pk BK978⟩, ⟨pk BK982⟩, ⟨pk BK990⟩, ⟨pk BK998⟩, ⟨bnow HB⟩⟩
        · rw [if_neg c70] at H
          have c70b0 : ((!(t983 == t991) || (!(t984 == t992) || (!(t985 == t993) || (!(t986 == t994))))) || ((!(t987 == t995) || (!(t988 == t996))))) = false := by simpa using c70
          clear c70
          have H' := Aside0.mk H
          clear H
          have hnb93 := NB978_972.out
          have hnc93 := NB972_978.out
          have hnb94 := NB978_973.out
          have hnc94 := NB973_978.out
          have hnb95 := NB978_974.out
          have hnc95 := NB974_978.out
          have hnb96 := NB978_982.out
          have hnc96 := NB982_978.out
          have hnb97 := NB978_990.out
          have hnc97 := NB990_978.out
          have hnb98 := NB978_998.out
          have hnc98 := NB998_978.out
          have ⟨hcz99_0, hcz99_1, hfz99_0, hfz99_1⟩ := cf2 BK978
          have hnb100 := NB982_972.out
          have hnc100 := NB972_982.out
          have hnb101 := NB982_973.out
          have hnc101 := NB973_982.out
          have hnb102 := NB982_974.out
          have hnc102 := NB974_982.out
          have hnb103 := NB982_990.out
          have hnc103 := NB990_982.out
          have hnb104 := NB982_998.out
          have hnc104 := NB998_982.out
          have ⟨hcz105_0, hcz105_1, hfz105_0, hfz105_1⟩ := cf2 BK982
          have hnb106 := NB990_972.out
          have hnc106 := NB972_990.out
          have hnb107 := NB990_973.out
          have hnc107 := NB973_990.out
          have hnb108 := NB990_974.out
          have hnc108 := NB974_990.out
          have hnb109 := NB990_998.out
          have hnc109 := NB998_990.out
          have ⟨hcz110_0, hcz110_1, hcz110_2, hcz110_3, hcz110_4, hcz110_5, hfz110_0, hfz110_1, hfz110_2, hfz110_3, hfz110_4, hfz110_5⟩ := cf6 BK990
          have hnb111 := NB998_972.out
          have hnc111 := NB972_998.out
          have hnb112 := NB998_973.out
          have hnc112 := NB973_998.out
          have hnb113 := NB998_974.out
          have hnc113 := NB974_998.out
          have ⟨hcz114_0, hcz114_1, hcz114_2, hcz114_3, hcz114_4, hcz114_5, hfz114_0, hfz114_1, hfz114_2, hfz114_3, hfz114_4, hfz114_5⟩ := cf6 BK998
          go_wp2
          go_meet
          case rel => exact ⟨_, ((t989 != t997)), (by first | rfl | (simp; done) | (simp [*]; done)), H', ⟨by first | omega | exact Nat.le_refl _⟩, ⟨pk BK972⟩, ⟨pk BK973⟩, ⟨pk BK974⟩, ⟨pk BK978⟩, ⟨pk BK982⟩, ⟨pk BK990⟩, ⟨pk BK998⟩, ⟨bnow HB⟩⟩
      · rw [if_neg c69] at H
        have c69b0 : (t977 == t981) = false := beq_eq_false_iff_ne.mpr c69
        have c69b1 : (t977 != t981) = true := bne_iff_ne.mpr c69
        have H' := Aside0.mk H
        clear H
        have hnb115 := NB978_972.out
        have hnc115 := NB972_978.out
        have hnb116 := NB978_973.out
        have hnc116 := NB973_978.out
        have hnb117 := NB978_974.out
        have hnc117 := NB974_978.out
        have hnb118 := NB978_982.out
        have hnc118 := NB982_978.out
        have hnb119 := NB978_990.out
        have hnc119 := NB990_978.out
        have hnb120 := NB978_998.out
        have hnc120 := NB998_978.out
        have ⟨hcz121_0, hcz121_1, hfz121_0, hfz121_1⟩ := cf2 BK978
        have hnb122 := NB982_972.out
        have hnc122 := NB972_982.out
        have hnb123 := NB982_973.out
        have hnc123 := NB973_982.out
        have hnb124 := NB982_974.out
        have hnc124 := NB974_982.out
        have hnb125 := NB982_990.out
        have hnc125 := NB990_982.out
        have hnb126 := NB982_998.out
        have hnc126 := NB998_982.out
        have ⟨hcz127_0, hcz127_1, hfz127_0, hfz127_1⟩ := cf2 BK982
        go_wp2
        go_meet
        case rel => exact ⟨_, (true), (by first | rfl | (simp; done) | (simp [*]; done)), H', ⟨by first | omega | exact Nat.le_refl _⟩, ⟨pk BK972⟩, ⟨pk BK973⟩, ⟨pk BK974⟩, ⟨pk BK978⟩, ⟨pk BK982⟩, ⟨pk BK990⟩, ⟨pk BK998⟩, ⟨bnow HB⟩⟩
  case rest =>
    clear HC8
    try clear c1; try clear c2; try clear p2; try clear c3; try clear c4; try clear c5; try clear c6; try clear c7; try clear c8; try clear c9; try clear c10; try clear c11; try clear c12; try clear c13; try clear c15; try clear c19; try clear c20; try clear c21; try clear c27; try clear c28; try clear c29; try clear c30; try clear c36; try clear c37; try clear c38; try clear c39; try clear c40; try clear c47; try clear c48; try clear c49; try clear c50; try clear c51; try clear c52; try clear c55; try clear c55b0; try clear c56; try clear c57; try clear c58; try clear c59; try clear c60; try clear c61; try clear c63; try clear c64; try clear c65; try clear c66; try clear c67; try clear c69; try clear c69b0; try clear c69b1; try clear c70; try clear c70b0; try clear c71; try clear c72; try clear c73; try clear c74; try clear c75; try clear c76; try clear c78; try clear c79; try clear c80; try clear c81; try clear c82; try clear c84; try clear c85; try clear c86; try clear c87; try clear c89; try clear c90; try clear c91; try clear c93; try clear c94; try clear c95; try clear c96; try clear c97; try clear c98; try clear c100; try clear c101; try clear c102; try clear c103; try clear c104; try clear c106; try clear c107; try clear c108; try clear c109; try clear c111; try clear c112; try clear c113; try clear c115; try clear c116; try clear c117; try clear c118; try clear c119; try clear c120; try clear c122; try clear c123; try clear c124; try clear c125; try clear c126; try clear hcz105_0; try clear hcz105_1; try clear hcz110_0; try clear hcz110_1; try clear hcz110_2; try clear hcz110_3; try clear hcz110_4; try clear hcz110_5; try clear hcz114_0; try clear hcz114_1; try clear hcz114_2; try clear hcz114_3; try clear hcz114_4; try clear hcz114_5; try clear hcz121_0; try clear hcz121_1; try clear hcz127_0; try clear hcz127_1; try clear hcz14_0; try clear hcz14_1; try clear hcz14_2; try clear hcz14_3; try clear hcz14_4; try clear hcz14_5; try clear hcz16_0; try clear hcz16_1; try clear hcz22_0; try clear hcz22_1; try clear hcz23_0; try clear hcz23_1; try clear hcz23_2; try clear hcz23_3; try clear hcz23_4; try clear hcz23_5; try clear hcz24_0; try clear hcz24_1; try clear hcz31_0; try clear hcz31_1; try clear hcz32_0; try clear hcz32_1; try clear hcz32_2; try clear hcz32_3; try clear hcz32_4; try clear hcz32_5; try clear hcz33_0; try clear hcz33_1; try clear hcz33_2; try clear hcz33_3; try clear hcz33_4; try clear hcz33_5; try clear hcz41_0; try clear hcz41_1; try clear hcz41_2; try clear hcz41_3; try clear hcz41_4; try clear hcz41_5; try clear hcz43_0; try clear hcz43_1; try clear hcz43_2; try clear hcz43_3; try clear hcz43_4; try clear hcz43_5; try clear hcz44_0; try clear hcz44_1; try clear hcz44_2; try clear hcz44_3; try clear hcz44_4; try clear hcz44_5; try clear hcz53_0; try clear hcz53_1; try clear hcz53_2; try clear hcz53_3; try clear hcz53_4; try clear hcz53_5; try clear hcz62_0; try clear hcz62_1; try clear hcz68_0; try clear hcz68_1; try clear hcz77_0; try clear hcz77_1; try clear hcz83_0; try clear hcz83_1; try clear hcz88_0; try clear hcz88_1; try clear hcz88_2; try clear hcz88_3; try clear hcz88_4; try clear hcz88_5; try clear hcz92_0; try clear hcz92_1; try clear hcz92_2; try clear hcz92_3; try clear hcz92_4; try clear hcz92_5; try clear hcz99_0; try clear hcz99_1; try clear hfz105_0; try clear hfz105_1; try clear hfz110_0; try clear hfz110_1; try clear hfz110_2; try clear hfz110_3; try clear hfz110_4; try clear hfz110_5; try clear hfz114_0; try clear hfz114_1; try clear hfz114_2; try clear hfz114_3; try clear hfz114_4; try clear hfz114_5; try clear hfz121_0; try clear hfz121_1; try clear hfz127_0; try clear hfz127_1; try clear hfz14_0; try clear hfz14_1; try clear hfz14_2; try clear hfz14_3; try clear hfz14_4; try clear hfz14_5; try clear hfz16_0; try clear hfz16_1; try clear hfz22_0; try clear hfz22_1; try clear hfz23_0; try clear hfz23_1; try clear hfz23_2; try clear hfz23_3; try clear hfz23_4; try clear hfz23_5; try clear hfz24_0; try clear hfz24_1; try clear hfz31_0; try clear hfz31_1; try clear hfz32_0; try clear hfz32_1; try clear hfz32_2; try clear hfz32_3; try clear hfz32_4; try clear hfz32_5; try clear hfz33_0; try clear hfz33_1; try clear hfz33_2; try clear hfz33_3; try clear hfz33_4; try clear hfz33_5; try clear hfz41_0; try clear hfz41_1; try clear hfz41_2; try clear hfz41_3; try clear hfz41_4; try clear hfz41_5; try clear hfz43_0; try clear hfz43_1; try clear hfz43_2; try clear hfz43_3; try clear hfz43_4; try clear hfz43_5; try clear hfz44_0; try clear hfz44_1; try clear hfz44_2; try clear hfz44_3; try clear hfz44_4; try clear hfz44_5; try clear hfz53_0; try clear hfz53_1; try clear hfz53_2; try clear hfz53_3; try clear hfz53_4; try clear hfz53_5; try clear hfz62_0; try clear hfz62_1; try clear hfz68_0; try clear hfz68_1; try clear hfz77_0; try clear hfz77_1; try clear hfz83_0; try clear hfz83_1; try clear hfz88_0; try clear hfz88_1; try clear hfz88_2; try clear hfz88_3; try clear hfz88_4; try clear hfz88_5; try clear hfz92_0; try clear hfz92_1; try clear hfz92_2; try clear hfz92_3; try clear hfz92_4; try clear hfz92_5; try clear hfz99_0; try clear hfz99_1
    obtain ⟨kq, x60_7, rfl, HA, HJ7, BK972, BK973, BK974, BK978, BK982, BK990, BK998, HB⟩ := hcut
    cases kq with
    | zero => exact absurd HA.out (by simp [torchonlaw06_GridsMoves.j0])
    | succ kj7 =>
      have H := HA.out
      clear HA
      simp only [torchonlaw06_GridsMoves.j0] at H
      by_cases c128 : x60_7 = true
      · subst c128
        have H1 : (none) = some r := by rw [if_pos rfl] at H; exact H
        clear H
        have H := H1
        clear H1
        exact absurd H (by simp)
      · replace c128 := Bool.eq_false_iff.mpr c128
        subst c128
        have H1 : ((grids_Invert.f kj7 a0_0 a0_1 a0_2 a0_3 a0_4 a0_5).bind fun bt999 => ((torchonref06_Invert.f kj7 a0_0 a0_1 a0_2 a0_3 a0_4 a0_5).bind fun bt1006 => ((grids_Order.f kj7 a0_0 a0_1 a0_2 a0_3).bind fun bt1013 => ((torchonref06_Order.f kj7 a0_0 a0_1 a0_2 a0_3).bind fun bt1015 => (if ((bt999.1 == bt1006.1 && (bt999.2.1 == bt1006.2.1 && (bt999.2.2.1 == bt1006.2.2.1 && (bt999.2.2.2.1 == bt1006.2.2.2.1)))) && ((bt999.2.2.2.2.1 == bt1006.2.2.2.2.1 && (bt999.2.2.2.2.2.1 == bt1006.2.2.2.2.2.1)))) = true then (if bt999.2.2.2.2.2.2 = bt1006.2.2.2.2.2.2 then (if bt1013.1 = bt1015.1 then (if bt1013.2 = bt1015.2 then ((torchonlaw06_awake.f kj7).bind fun t1017 => (some t1017)) else (none)) else (none)) else (none)) else (none)))))) = some r := by rw [if_neg (show ¬ (false = true) by decide)] at H; exact H
        clear H
        have H := H1
        clear H1
        obtain ⟨⟨t999, t1000, t1001, t1002, t1003, t1004, t1005⟩, A129, H⟩ := ob H
        obtain ⟨⟨t1006, t1007, t1008, t1009, t1010, t1011, t1012⟩, A130, H⟩ := ob H
        obtain ⟨⟨t1013, t1014⟩, A131, H⟩ := ob H
        obtain ⟨⟨t1015, t1016⟩, A132, H⟩ := ob H
        by_cases c133 : ((t999 == t1006 && (t1000 == t1007 && (t1001 == t1008 && (t1002 == t1009)))) && ((t1003 == t1010 && (t1004 == t1011)))) = true
        · rw [if_pos c133] at H
          have c133b0 : ((t999 == t1006 && (t1000 == t1007 && (t1001 == t1008 && (t1002 == t1009)))) && ((t1003 == t1010 && (t1004 == t1011)))) = true := c133
          clear c133
          by_cases c134 : t1005 = t1012
          · rw [if_pos c134] at H
            have c134b0 : (t1005 == t1012) = true := beq_iff_eq.mpr c134
            have c134b1 : (t1005 != t1012) = false := bne_eq_false_iff_eq.mpr c134
            clear c134
            by_cases c135 : t1013 = t1015
            · rw [if_pos c135] at H
              have c135b0 : (t1013 == t1015) = true := beq_iff_eq.mpr c135
              have c135b1 : (t1013 != t1015) = false := bne_eq_false_iff_eq.mpr c135
              clear c135
              by_cases c136 : t1014 = t1016
              · rw [if_pos c136] at H
                have c136b0 : (t1014 == t1016) = true := beq_iff_eq.mpr c136
                have c136b1 : (t1014 != t1016) = false := bne_eq_false_iff_eq.mpr c136
                clear c136
                obtain ⟨t1017, A137, H⟩ := ob H
                obtain rfl := Option.some.inj H
                have hnb138 := NB972_973.out
                have hnc138 := NB973_972.out
                have hnb139 := NB972_974.out
                have hnc139 := NB974_972.out
                have hnb140 := NB972_978.out
                have hnc140 := NB978_972.out
                have hnb141 := NB972_982.out
                have hnc141 := NB982_972.out
                have hnb142 := NB972_990.out
                have hnc142 := NB990_972.out
                have hnb143 := NB972_998.out
                have hnc143 := NB998_972.out
                have ⟨hcz144_0, hcz144_1, hcz144_2, hcz144_3, hcz144_4, hcz144_5, hfz144_0, hfz144_1, hfz144_2, hfz144_3, hfz144_4, hfz144_5⟩ := cf6 BK972
                go_wp2_with (first | ((with_reducible refine gate_callee (f := 31) rfl ?_); refine gl 63 Try.func31 (grids_Invert.calls kj7 a0_0 a0_1 a0_2 a0_3 a0_4 a0_5 t999 t1000 t1001 t1002 t1003 t1004 t1005 _ A129.out) ?_; rintro e w145 ⟨rfl, hb⟩; refine ⟨_, rfl, ?_⟩; replace BK972 := bb BK972 hb; replace BK973 := bb BK973 hb; replace BK974 := bb BK974 hb; replace BK978 := bb BK978 hb; replace BK982 := bb BK982 hb; replace BK990 := bb BK990 hb; replace BK998 := bb BK998 hb; replace HB := bst HB hb; clear hb; have hnb146 := NB990_973.out; have hnc146 := NB973_990.out; have hnb147 := NB990_974.out; have hnc147 := NB974_990.out; have hnb148 := NB990_978.out; have hnc148 := NB978_990.out; have hnb149 := NB990_982.out; have hnc149 := NB982_990.out; have hnb150 := NB990_998.out; have hnc150 := NB998_990.out; have ⟨hcz151_0, hcz151_1, hcz151_2, hcz151_3, hcz151_4, hcz151_5, hfz151_0, hfz151_1, hfz151_2, hfz151_3, hfz151_4, hfz151_5⟩ := cf6 BK990) | ((with_reducible refine gate_store (t := 55) (p := 11) rfl ?_); refine sx 55 11 (((((((w145.setCell ⟨gb990, 0, none⟩ (.int .i64 t999)).setCell ⟨gb990, 1, none⟩ (.int .i64 t1000)).setCell ⟨gb990, 2, none⟩ (.int .i64 t1001)).setCell ⟨gb990, 3, none⟩ (.int .i64 t1002)).setCell ⟨gb990, 4, none⟩ (.int .i64 t1003)).setCell ⟨gb990, 5, none⟩ (.int .i64 t1004))) fun w152 hw => ?_; replace BK972 := fw hw BK972; replace BK973 := fw hw BK973; replace BK974 := fw hw BK974; replace BK978 := fw hw BK978; replace BK982 := fw hw BK982; replace BK990 := pw6 hw BK990; replace BK998 := fw hw BK998; replace HB := bw hw HB; clear hw; have ⟨hcz153_0, hcz153_1, hcz153_2, hcz153_3, hcz153_4, hcz153_5, hfz153_0, hfz153_1, hfz153_2, hfz153_3, hfz153_4, hfz153_5⟩ := cf6 BK972) | ((with_reducible refine gate_callee (f := 32) rfl ?_); refine gl 68 Try.func32 (torchonref06_Invert.calls kj7 a0_0 a0_1 a0_2 a0_3 a0_4 a0_5 t1006 t1007 t1008 t1009 t1010 t1011 t1012 _ A130.out) ?_; rintro e w154 ⟨rfl, hb⟩; refine ⟨_, rfl, ?_⟩; replace BK972 := bb BK972 hb; replace BK973 := bb BK973 hb; replace BK974 := bb BK974 hb; replace BK978 := bb BK978 hb; replace BK982 := bb BK982 hb; replace BK990 := bb BK990 hb; replace BK998 := bb BK998 hb; replace HB := bst HB hb; clear hb; have hnb155 := NB998_973.out; have hnc155 := NB973_998.out; have hnb156 := NB998_974.out; have hnc156 := NB974_998.out; have hnb157 := NB998_978.out; have hnc157 := NB978_998.out; have hnb158 := NB998_982.out; have hnc158 := NB982_998.out; have ⟨hcz159_0, hcz159_1, hcz159_2, hcz159_3, hcz159_4, hcz159_5, hfz159_0, hfz159_1, hfz159_2, hfz159_3, hfz159_4, hfz159_5⟩ := cf6 BK998) | ((with_reducible refine gate_store (t := 55) (p := 13) rfl ?_); refine sx 55 13 (((((((w154.setCell ⟨gb998, 0, none⟩ (.int .i64 t1006)).setCell ⟨gb998, 1, none⟩ (.int .i64 t1007)).setCell ⟨gb998, 2, none⟩ (.int .i64 t1008)).setCell ⟨gb998, 3, none⟩ (.int .i64 t1009)).setCell ⟨gb998, 4, none⟩ (.int .i64 t1010)).setCell ⟨gb998, 5, none⟩ (.int .i64 t1011))) fun w160 hw => ?_; replace BK972 := fw hw BK972; replace BK973 := fw hw BK973; replace BK974 := fw hw BK974; replace BK978 := fw hw BK978; replace BK982 := fw hw BK982; replace BK990 := fw hw BK990; replace BK998 := pw6 hw BK998; replace HB := bw hw HB; clear hw; have ⟨hcz161_0, hcz161_1, hcz161_2, hcz161_3, hcz161_4, hcz161_5, hfz161_0, hfz161_1, hfz161_2, hfz161_3, hfz161_4, hfz161_5⟩ := cf6 BK972) | ((with_reducible refine gate_callee (f := 33) rfl ?_); refine gl 74 Try.func33 (grids_Order.calls kj7 a0_0 a0_1 a0_2 a0_3 t1013 t1014 _ A131.out) ?_; rintro e w162 ⟨rfl, hb⟩; refine ⟨_, rfl, ?_⟩; replace BK972 := bb BK972 hb; replace BK973 := bb BK973 hb; replace BK974 := bb BK974 hb; replace BK978 := bb BK978 hb; replace BK982 := bb BK982 hb; replace BK990 := bb BK990 hb; replace BK998 := bb BK998 hb; replace HB := bst HB hb; clear hb; have ⟨hcz163_0, hcz163_1, hcz163_2, hcz163_3, hcz163_4, hcz163_5, hfz163_0, hfz163_1, hfz163_2, hfz163_3, hfz163_4, hfz163_5⟩ := cf6 BK972) | ((with_reducible refine gate_callee (f := 34) rfl ?_); refine gl 80 Try.func34 (torchonref06_Order.calls kj7 a0_0 a0_1 a0_2 a0_3 t1015 t1016 _ A132.out) ?_; rintro e w164 ⟨rfl, hb⟩; refine ⟨_, rfl, ?_⟩; replace BK972 := bb BK972 hb; replace BK973 := bb BK973 hb; replace BK974 := bb BK974 hb; replace BK978 := bb BK978 hb; replace BK982 := bb BK982 hb; replace BK990 := bb BK990 hb; replace BK998 := bb BK998 hb; replace HB := bst HB hb; clear hb; have ⟨hcz165_0, hcz165_1, hcz165_2, hcz165_3, hcz165_4, hcz165_5, hfz165_0, hfz165_1, hfz165_2, hfz165_3, hfz165_4, hfz165_5⟩ := cf6 BK990; have ⟨hcz166_0, hcz166_1, hcz166_2, hcz166_3, hcz166_4, hcz166_5, hfz166_0, hfz166_1, hfz166_2, hfz166_3, hfz166_4, hfz166_5⟩ := cf6 BK998) | (go_at_call 13; (with_reducible refine (torchonlaw06_awake.calls kj7  t1017 _ A137.out).mono ?_); rintro e w167 ⟨rfl, hb⟩; replace BK972 := bb BK972 hb; replace BK973 := bb BK973 hb; replace BK974 := bb BK974 hb; replace BK978 := bb BK978 hb; replace BK982 := bb BK982 hb; replace BK990 := bb BK990 hb; replace BK998 := bb BK998 hb; replace HB := bst HB hb; clear hb))
                go_ret
                exact rt HB
              · rw [if_neg c136] at H
                exact absurd H (by simp)
            · rw [if_neg c135] at H
              exact absurd H (by simp)
          · rw [if_neg c134] at H
            exact absurd H (by simp)
        · rw [if_neg c133] at H
          exact absurd H (by simp)
end
section
/-! ### torchonref06_Product: function 48 -/
def torchonref06_Product.f (a0_0 : Int) (a0_1 : Int) (a0_2 : Int) (a1_0 : Int) (a1_1 : Int) (a2_0 : Int) (a2_1 : Int) : Option (Int) := (some (wrap64 (a0_0 * a1_0))).bind fun z257 => ((some (wrap64 (z257 * a2_0))).bind fun z258 => ((some (wrap64 (a1_0 * a2_1))).bind fun z259 => ((some (wrap64 (a1_1 * a2_0))).bind fun z260 => ((some (wrap64 (z259 + z260))).bind fun z261 => ((some (wrap64 (a0_1 * z261))).bind fun z262 => ((some (wrap64 (z258 + z262))).bind fun z263 => ((some (wrap64 (a0_2 * a1_1))).bind fun z264 => ((some (wrap64 (z264 * a2_1))).bind fun z265 => ((some (wrap64 (z263 + z265))).bind fun z266 => (some z266))))))))))
set_option maxHeartbeats 8000000 in
set_option maxRecDepth 100000 in
theorem torchonref06_Product.calls (a0_0 : Int) (a0_1 : Int) (a0_2 : Int) (a1_0 : Int) (a1_1 : Int) (a2_0 : Int) (a2_1 : Int) (r : Int) (w : World) (h : torchonref06_Product.f a0_0 a0_1 a0_2 a1_0 a1_1 a2_0 a2_1 = some r) :
    Calls Try.prog 48 #[.agg #[.int .i64 a0_0, .int .i64 a0_1, .int .i64 a0_2], .agg #[.int .i64 a1_0, .int .i64 a1_1], .agg #[.int .i64 a2_0, .int .i64 a2_1]] w fun e w' => e = .returned (.int .i64 r) ∧ Below w.heap.size w w' := by
  have hu23 := Try.underlying23
  have hu37 := Try.underlying37
  have HB := Aside0.mk (Below.refl w.heap.size w)
  have H : ((some (wrap64 (a0_0 * a1_0))).bind fun z257 => ((some (wrap64 (z257 * a2_0))).bind fun z258 => ((some (wrap64 (a1_0 * a2_1))).bind fun z259 => ((some (wrap64 (a1_1 * a2_0))).bind fun z260 => ((some (wrap64 (z259 + z260))).bind fun z261 => ((some (wrap64 (a0_1 * z261))).bind fun z262 => ((some (wrap64 (z258 + z262))).bind fun z263 => ((some (wrap64 (a0_2 * a1_1))).bind fun z264 => ((some (wrap64 (z264 * a2_1))).bind fun z265 => ((some (wrap64 (z263 + z265))).bind fun z266 => (some z266))))))))))) = some r := h
  clear h
  obtain ⟨z257, E40, H⟩ := oc H
  have E4w : (IntKind.i64.wrap (a0_0 * a1_0)) = z257 := (i64_w _).trans E40
  obtain ⟨z258, E50, H⟩ := oc H
  have E5w : (IntKind.i64.wrap (z257 * a2_0)) = z258 := (i64_w _).trans E50
  obtain ⟨z259, E60, H⟩ := oc H
  have E6w : (IntKind.i64.wrap (a1_0 * a2_1)) = z259 := (i64_w _).trans E60
  obtain ⟨z260, E70, H⟩ := oc H
  have E7w : (IntKind.i64.wrap (a1_1 * a2_0)) = z260 := (i64_w _).trans E70
  obtain ⟨z261, E80, H⟩ := oc H
  have E8w : (IntKind.i64.wrap (z259 + z260)) = z261 := (i64_w _).trans E80
  obtain ⟨z262, E90, H⟩ := oc H
  have E9w : (IntKind.i64.wrap (a0_1 * z261)) = z262 := (i64_w _).trans E90
  obtain ⟨z263, E100, H⟩ := oc H
  have E10w : (IntKind.i64.wrap (z258 + z262)) = z263 := (i64_w _).trans E100
  obtain ⟨z264, E110, H⟩ := oc H
  have E11w : (IntKind.i64.wrap (a0_2 * a1_1)) = z264 := (i64_w _).trans E110
  obtain ⟨z265, E120, H⟩ := oc H
  have E12w : (IntKind.i64.wrap (z264 * a2_1)) = z265 := (i64_w _).trans E120
  obtain ⟨z266, E130, H⟩ := oc H
  have E13w : (IntKind.i64.wrap (z263 + z265)) = z266 := (i64_w _).trans E130
  obtain rfl := Option.some.inj H
  go_enter Try.func48, Try.ntmps48
  go_wp2_with (first | ((with_reducible refine gate_dst (N := 3) rfl ?_); refine bx 3 #[.int .i64 a0_0, .int .i64 a0_1, .int .i64 a0_2] 23 fun gb254 hg w14 BK254 hb => ?_; have GW254 := gw hg HB; have GE254 := gw hg HB; replace HB := bst HB hb; clear hb hg) | ((with_reducible refine gate_dst (N := 4) rfl ?_); refine bx 4 #[.int .i64 a1_0, .int .i64 a1_1] 37 fun gb255 hg w15 BK255 hb => ?_; have GW255 := gw hg HB; have GE255 := gw hg HB; have NB254_255 := nlt hg BK254; have NB255_254 := ngt hg BK254; replace BK254 := bb BK254 hb; replace HB := bst HB hb; clear hb hg) | ((with_reducible refine gate_dst (N := 5) rfl ?_); refine bx 5 #[.int .i64 a2_0, .int .i64 a2_1] 37 fun gb256 hg w16 BK256 hb => ?_; have GW256 := gw hg HB; have GE256 := gw hg HB; have NB254_256 := nlt hg BK254; have NB256_254 := ngt hg BK254; have NB255_256 := nlt hg BK255; have NB256_255 := ngt hg BK255; replace BK254 := bb BK254 hb; replace BK255 := bb BK255 hb; replace HB := bst HB hb; clear hb hg; have hnb17 := NB254_255.out; have hnc17 := NB255_254.out; have hnb18 := NB254_256.out; have hnc18 := NB256_254.out; have ⟨hcz19_0, hcz19_1, hcz19_2, hfz19_0, hfz19_1, hfz19_2⟩ := cf3 BK254; have hnb20 := NB255_256.out; have hnc20 := NB256_255.out; have ⟨hcz21_0, hcz21_1, hfz21_0, hfz21_1⟩ := cf2 BK255; have ⟨hcz22_0, hcz22_1, hfz22_0, hfz22_1⟩ := cf2 BK256))
  go_ret
  exact rt HB
end
section
/-! ### torchonlaw06_lead: function 16 -/
def torchonlaw06_lead.f (a0_0 : Int) (a0_1 : Int) (a0_2 : Int) (a1_0 : Int) (a1_1 : Int) (a1_2 : Int) (a1_3 : Int) : Option (Int × Int × Int) := (torchonlaw06_pt.f a1_0 a1_2).bind fun bt675 => ((torchonlaw06_pt.f a1_1 a1_3).bind fun bt677 => ((torchonref06_Product.f a0_0 a0_1 a0_2 bt675.1 bt675.2 bt675.1 bt675.2).bind fun t681 => ((torchonref06_Product.f a0_0 a0_1 a0_2 bt675.1 bt675.2 bt677.1 bt677.2).bind fun t682 => ((torchonref06_Product.f a0_0 a0_1 a0_2 bt677.1 bt677.2 bt677.1 bt677.2).bind fun t683 => (some (t681, t682, t683))))))
def torchonlaw06_lead.T1 : Bool × List (List Nat × List Nat) := (true, [([], []), ([0], [0]), ([], []), ([2], [2]), ([1, 3], [1, 3]), ([], []), ([5], [5]), ([], []), ([7], [7]), ([6, 8, 4], [6, 8]), ([], []), ([], []), ([10, 4, 9, 0, 1, 2, 3, 4, 10, 11], [4, 10]), ([11, 9, 12, 0, 1, 2, 3, 4, 5, 6, 7, 8, 9, 10, 11, 12], [9, 11])])
def torchonlaw06_lead.B1 : List Nat := [0, 1, 0, 4, 15, 0, 32, 0, 128, 511, 0, 0, 4095, 8191]
theorem torchonlaw06_lead.tab1 : rtab .any (opsOf Try.f16 1) = torchonlaw06_lead.T1 := by kernel_rfl
theorem torchonlaw06_lead.bits1 : waitsOk torchonlaw06_lead.T1.2 torchonlaw06_lead.B1 = true := by kernel_rfl
def torchonlaw06_lead.T2 : Bool × List (List Nat × List Nat) := (true, [([], []), ([], []), ([], []), ([0, 1, 2], [0, 1, 2]), ([], []), ([], []), ([], []), ([4, 5, 6, 3], [4, 5, 6]), ([], []), ([], []), ([], []), ([8, 9, 10, 7], [8, 9, 10]), ([3, 7, 11], [3, 7, 11]), ([12, 11, 0, 1, 2, 3, 4, 5, 6, 7, 8, 9, 10, 11, 12], [12])])
def torchonlaw06_lead.B2 : List Nat := [0, 0, 0, 7, 0, 0, 0, 127, 0, 0, 0, 2047, 4095, 8191]
theorem torchonlaw06_lead.tab2 : rtab .any (opsOf Try.f16 2) = torchonlaw06_lead.T2 := by kernel_rfl
theorem torchonlaw06_lead.bits2 : waitsOk torchonlaw06_lead.T2.2 torchonlaw06_lead.B2 = true := by kernel_rfl
set_option maxHeartbeats 8000000 in
set_option maxRecDepth 100000 in
theorem torchonlaw06_lead.calls (a0_0 : Int) (a0_1 : Int) (a0_2 : Int) (a1_0 : Int) (a1_1 : Int) (a1_2 : Int) (a1_3 : Int) (r1 : Int) (r2 : Int) (r3 : Int) (w : World) (h : torchonlaw06_lead.f a0_0 a0_1 a0_2 a1_0 a1_1 a1_2 a1_3 = some (r1, r2, r3)) :
    Calls Try.prog 16 #[.agg #[.int .i64 a0_0, .int .i64 a0_1, .int .i64 a0_2], .agg #[.int .i64 a1_0, .int .i64 a1_1, .int .i64 a1_2, .int .i64 a1_3]] w fun e w' => e = .returned (.agg #[.int .i64 r1, .int .i64 r2, .int .i64 r3]) ∧ Below w.heap.size w w' := by
  have hu23 := Try.underlying23
  have hu25 := Try.underlying25
  have hu37 := Try.underlying37
  have HB := Aside0.mk (Below.refl w.heap.size w)
  have H : ((torchonlaw06_pt.f a1_0 a1_2).bind fun bt675 => ((torchonlaw06_pt.f a1_1 a1_3).bind fun bt677 => ((torchonref06_Product.f a0_0 a0_1 a0_2 bt675.1 bt675.2 bt675.1 bt675.2).bind fun t681 => ((torchonref06_Product.f a0_0 a0_1 a0_2 bt675.1 bt675.2 bt677.1 bt677.2).bind fun t682 => ((torchonref06_Product.f a0_0 a0_1 a0_2 bt677.1 bt677.2 bt677.1 bt677.2).bind fun t683 => (some (t681, t682, t683))))))) = some (r1, r2, r3) := h
  clear h
  obtain ⟨⟨t675, t676⟩, A3, H⟩ := ob H
  obtain ⟨⟨t677, t678⟩, A4, H⟩ := ob H
  obtain ⟨t681, A5, H⟩ := ob H
  obtain ⟨t682, A6, H⟩ := ob H
  obtain ⟨t683, A7, H⟩ := ob H
  simp only [Option.some.injEq, Prod.mk.injEq] at H
  obtain ⟨rfl, rfl, rfl⟩ := H
  go_enter Try.func16, Try.ntmps16
  try go_wp2_with (first | ((with_reducible refine gate_dst (N := 2) rfl ?_); refine bx 2 #[.int .i64 a0_0, .int .i64 a0_1, .int .i64 a0_2] 23 fun gb672 hg w8 BK672 hb => ?_; have GW672 := gw hg HB; have GE672 := gw hg HB; replace HB := bst HB hb; clear hb hg) | ((with_reducible refine gate_dst (N := 3) rfl ?_); refine bx 3 #[.int .i64 a1_0, .int .i64 a1_1, .int .i64 a1_2, .int .i64 a1_3] 25 fun gb673 hg w9 BK673 hb => ?_; have GW673 := gw hg HB; have GE673 := gw hg HB; have NB672_673 := nlt hg BK672; have NB673_672 := ngt hg BK672; replace BK672 := bb BK672 hb; replace HB := bst HB hb; clear hb hg) | ((with_reducible refine gate_dst (N := 4) rfl ?_); refine bx 4 #[.int .i64 0, .int .i64 0, .int .i64 0] 23 fun gb674 hg w10 BK674 hb => ?_; have GW674 := gw hg HB; have GE674 := gw hg HB; have NB672_674 := nlt hg BK672; have NB674_672 := ngt hg BK672; have NB673_674 := nlt hg BK673; have NB674_673 := ngt hg BK673; replace BK672 := bb BK672 hb; replace BK673 := bb BK673 hb; replace HB := bst HB hb; clear hb hg))
  replace BK672 := bd BK672
  replace BK673 := bd BK673
  replace BK674 := bd BK674
  replace HB := bdn HB
  refine start_ (n := 14) (S := fun w' => True) (ds := []) #[false, false, false, false, false, false, false, false, false, false, false, false, false, false] (by kernel_rfl) rfl rfl trivial (fun hHeld => ?_); refine with_tabW torchonlaw06_lead.tab1 torchonlaw06_lead.bits1 (fun HT_ HW_ => ?_)
  generalize w10.drew = w11 at BK672 BK673 BK674 HB hHeld ⊢
  refine pz 0 7 HT_ ?_
  refine pz 2 9 HT_ ?_
  refine pz 5 12 HT_ ?_
  refine pz 7 14 HT_ ?_
  refine inv_at [1, 3, 4, 6, 8, 9, 10, 11, 12, 13] (fun a0_ b a w' => ∃ (gb679 : Nat) (gb680 : Nat) (m10_ : Value) (m11_ : Value), a = putSel a0_ b [(1, 8, .int .i64 a1_0), (3, 10, .int .i64 a1_2), (4, 11, .agg #[.int .i64 t675, .int .i64 t676]), (6, 13, .int .i64 a1_1), (8, 15, .int .i64 a1_3), (9, 16, .agg #[.int .i64 t677, .int .i64 t678]), (10, 5, m10_), (11, 6, m11_)] ∧ (w'.heap[gb672]? = some (.cells #[.int .i64 a0_0, .int .i64 a0_1, .int .i64 a0_2] 23 (0, 0))) ∧ (w'.heap[gb673]? = some (.cells #[.int .i64 a1_0, .int .i64 a1_1, .int .i64 a1_2, .int .i64 a1_3] 25 (0, 0))) ∧ (w'.heap[gb674]? = some (.cells #[.int .i64 0, .int .i64 0, .int .i64 0] 23 (0, 0))) ∧ (Below w.heap.size w w') ∧ (b 10 = true → b 11 = true → gb680 ≠ gb679) ∧ (b 10 = true → b 11 = true → gb679 ≠ gb680) ∧ (b 10 = true → b 12 = false → w'.heap[gb679]? = some (.cells #[.int .i64 0, .int .i64 0] 37 (0, 0))) ∧ (b 10 = true → w.heap.size ≤ gb679) ∧ (b 10 = true → w.heap.size ≤ gb679) ∧ (b 10 = true → gb672 ≠ gb679) ∧ (b 10 = true → gb679 ≠ gb672) ∧ (b 10 = true → gb673 ≠ gb679) ∧ (b 10 = true → gb679 ≠ gb673) ∧ (b 10 = true → gb674 ≠ gb679) ∧ (b 10 = true → gb679 ≠ gb674) ∧ (b 11 = true → b 13 = false → w'.heap[gb680]? = some (.cells #[.int .i64 0, .int .i64 0] 37 (0, 0))) ∧ (b 11 = true → w.heap.size ≤ gb680) ∧ (b 11 = true → w.heap.size ≤ gb680) ∧ (b 11 = true → gb672 ≠ gb680) ∧ (b 11 = true → gb680 ≠ gb672) ∧ (b 11 = true → gb673 ≠ gb680) ∧ (b 11 = true → gb680 ≠ gb673) ∧ (b 11 = true → gb674 ≠ gb680) ∧ (b 11 = true → gb680 ≠ gb674) ∧ (b 12 = true → w'.heap[gb679]? = some (.cells #[.int .i64 t675, .int .i64 t676] 37 (0, 0))) ∧ (b 13 = true → w'.heap[gb680]? = some (.cells #[.int .i64 t677, .int .i64 t678] 37 (0, 0))) ∧ (b 10 = true → (m10_ : Value) = .pointer (some ⟨gb679, 0, none⟩)) ∧ (b 11 = true → (m11_ : Value) = .pointer (some ⟨gb680, 0, none⟩))) HT_.out HW_.out (by kernel_rfl) (by kernel_rfl) ?_ ?_ ?_
  · exact ⟨0, 0, .bool false, .bool false, by simp only [putSel, Bool.false_eq_true, if_false], BK672.out, BK673.out, BK674.out, HB.out, fun h_ => absurd h_ (by decide), fun h_ => absurd h_ (by decide), fun h_ => absurd h_ (by decide), fun h_ => absurd h_ (by decide), fun h_ => absurd h_ (by decide), fun h_ => absurd h_ (by decide), fun h_ => absurd h_ (by decide), fun h_ => absurd h_ (by decide), fun h_ => absurd h_ (by decide), fun h_ => absurd h_ (by decide), fun h_ => absurd h_ (by decide), fun h_ => absurd h_ (by decide), fun h_ => absurd h_ (by decide), fun h_ => absurd h_ (by decide), fun h_ => absurd h_ (by decide), fun h_ => absurd h_ (by decide), fun h_ => absurd h_ (by decide), fun h_ => absurd h_ (by decide), fun h_ => absurd h_ (by decide), fun h_ => absurd h_ (by decide), fun h_ => absurd h_ (by decide), fun h_ => absurd h_ (by decide), fun h_ => absurd h_ (by decide), fun h_ => absurd h_ (by decide)⟩
  · skip
    clear BK672 BK673 BK674 HB
    refine steps_cons ?_ ?_
    · rintro b a w' ⟨gb679, gb680, m10_, m11_, ha, Q_BK672, Q_BK673, Q_BK674, Q_HB, Q_NB680_679, Q_NB679_680, Q_BK679, Q_GW679, Q_GE679, Q_NB672_679, Q_NB679_672, Q_NB673_679, Q_NB679_673, Q_NB674_679, Q_NB679_674, Q_BK680, Q_GW680, Q_GE680, Q_NB672_680, Q_NB680_672, Q_NB673_680, Q_NB680_673, Q_NB674_680, Q_NB680_674, Q_BK679_e12, Q_BK680_e13, Q_X10_, Q_X11_⟩ hb_ hon hoff
      refine ⟨_, rfl, fun K hK => ?_⟩
      have e7 : a.tmps[7]? = some (.pointer (some ⟨gb673, 0, none⟩)) := by rw [ha]; exact (putSel_off rfl).trans rfl
      replace ha := Aside0.mk ha
      have BK672 := Aside0.mk Q_BK672
      have BK673 := Aside0.mk Q_BK673
      have BK674 := Aside0.mk Q_BK674
      have HB := Aside0.mk Q_HB
      have hc0_ : w'.cell? ⟨gb673, 0, none⟩ = some (.int .i64 a1_0) := (blk_cell BK673.out 0).trans rfl
      have hc1_ : w'.cell? ⟨gb673, 1, none⟩ = some (.int .i64 a1_1) := (blk_cell BK673.out 1).trans rfl
      have hc2_ : w'.cell? ⟨gb673, 2, none⟩ = some (.int .i64 a1_2) := (blk_cell BK673.out 2).trans rfl
      have hc3_ : w'.cell? ⟨gb673, 3, none⟩ = some (.int .i64 a1_3) := (blk_cell BK673.out 3).trans rfl
      refine value_ (w1 := w') (v := .int .i64 a1_0) (by rfl) rfl ?_ ?_
      · go_simp
        (try simp only [i64_w])
        try rfl
      refine hK.out _ _ ⟨gb679, gb680, m10_, m11_, (by rw [ha.out]; exact putSel_upk 0 hb_ rfl rfl rfl), Q_BK672, Q_BK673, Q_BK674, Q_HB, Q_NB680_679, Q_NB679_680, Q_BK679, Q_GW679, Q_GE679, Q_NB672_679, Q_NB679_672, Q_NB673_679, Q_NB679_673, Q_NB674_679, Q_NB679_674, Q_BK680, Q_GW680, Q_GE680, Q_NB672_680, Q_NB680_672, Q_NB673_680, Q_NB680_673, Q_NB674_680, Q_NB680_674, fun h0_ => absurd ((hoff 12 (by kernel_rfl)).symm.trans h0_) (by decide), fun h0_ => absurd ((hoff 13 (by kernel_rfl)).symm.trans h0_) (by decide), Q_X10_, Q_X11_⟩
    refine steps_cons ?_ ?_
    · rintro b a w' ⟨gb679, gb680, m10_, m11_, ha, Q_BK672, Q_BK673, Q_BK674, Q_HB, Q_NB680_679, Q_NB679_680, Q_BK679, Q_GW679, Q_GE679, Q_NB672_679, Q_NB679_672, Q_NB673_679, Q_NB679_673, Q_NB674_679, Q_NB679_674, Q_BK680, Q_GW680, Q_GE680, Q_NB672_680, Q_NB680_672, Q_NB673_680, Q_NB680_673, Q_NB674_680, Q_NB680_674, Q_BK679_e12, Q_BK680_e13, Q_X10_, Q_X11_⟩ hb_ hon hoff
      refine ⟨_, rfl, fun K hK => ?_⟩
      have e9 : a.tmps[9]? = some (.pointer (some ⟨gb673, 2, none⟩)) := by rw [ha]; exact (putSel_off rfl).trans rfl
      replace ha := Aside0.mk ha
      have BK672 := Aside0.mk Q_BK672
      have BK673 := Aside0.mk Q_BK673
      have BK674 := Aside0.mk Q_BK674
      have HB := Aside0.mk Q_HB
      have hc0_ : w'.cell? ⟨gb673, 0, none⟩ = some (.int .i64 a1_0) := (blk_cell BK673.out 0).trans rfl
      have hc1_ : w'.cell? ⟨gb673, 1, none⟩ = some (.int .i64 a1_1) := (blk_cell BK673.out 1).trans rfl
      have hc2_ : w'.cell? ⟨gb673, 2, none⟩ = some (.int .i64 a1_2) := (blk_cell BK673.out 2).trans rfl
      have hc3_ : w'.cell? ⟨gb673, 3, none⟩ = some (.int .i64 a1_3) := (blk_cell BK673.out 3).trans rfl
      refine value_ (w1 := w') (v := .int .i64 a1_2) (by rfl) rfl ?_ ?_
      · go_simp
        (try simp only [i64_w])
        try rfl
      refine hK.out _ _ ⟨gb679, gb680, m10_, m11_, (by rw [ha.out]; exact putSel_upk 1 hb_ rfl rfl rfl), Q_BK672, Q_BK673, Q_BK674, Q_HB, Q_NB680_679, Q_NB679_680, Q_BK679, Q_GW679, Q_GE679, Q_NB672_679, Q_NB679_672, Q_NB673_679, Q_NB679_673, Q_NB674_679, Q_NB679_674, Q_BK680, Q_GW680, Q_GE680, Q_NB672_680, Q_NB680_672, Q_NB673_680, Q_NB680_673, Q_NB674_680, Q_NB680_674, fun h0_ => absurd ((hoff 12 (by kernel_rfl)).symm.trans h0_) (by decide), fun h0_ => absurd ((hoff 13 (by kernel_rfl)).symm.trans h0_) (by decide), Q_X10_, Q_X11_⟩
    refine steps_cons ?_ ?_
    · rintro b a w' ⟨gb679, gb680, m10_, m11_, ha, Q_BK672, Q_BK673, Q_BK674, Q_HB, Q_NB680_679, Q_NB679_680, Q_BK679, Q_GW679, Q_GE679, Q_NB672_679, Q_NB679_672, Q_NB673_679, Q_NB679_673, Q_NB674_679, Q_NB679_674, Q_BK680, Q_GW680, Q_GE680, Q_NB672_680, Q_NB680_672, Q_NB673_680, Q_NB680_673, Q_NB674_680, Q_NB680_674, Q_BK679_e12, Q_BK680_e13, Q_X10_, Q_X11_⟩ hb_ hon hoff
      refine ⟨_, rfl, fun K hK => ?_⟩
      have e8 : a.tmps[8]? = some (.int .i64 a1_0) := by rw [ha]; exact putSel_on (e := (1, 8, .int .i64 a1_0)) 0 rfl rfl (hon 1 (by kernel_rfl)) rfl
      have e10 : a.tmps[10]? = some (.int .i64 a1_2) := by rw [ha]; exact putSel_on (e := (3, 10, .int .i64 a1_2)) 1 rfl rfl (hon 3 (by kernel_rfl)) rfl
      replace ha := Aside0.mk ha
      have BK672 := Aside0.mk Q_BK672
      have BK673 := Aside0.mk Q_BK673
      have BK674 := Aside0.mk Q_BK674
      have HB := Aside0.mk Q_HB
      refine goes_ Try.func19 (by kernel_rfl) rfl #[.int .i64 a1_0, .int .i64 a1_2] (by rfl) rfl rfl (by first | (simp only [List.map_toArray, List.map_cons, List.map_nil, Act.eval, Array.getD_eq_getD_getElem?, Option.getD_some, e8, e10]; done) | (simp only [List.map_toArray, List.map_cons, List.map_nil, Act.eval, Array.getD_eq_getD_getElem?, Option.getD_some, e8, e10]; rfl)) ?_
      with_reducible refine (torchonlaw06_pt.calls a1_0 a1_2 t675 t676 _ A3.out).mono ?_
      rintro e w12 ⟨rfl, hb⟩
      refine ⟨_, rfl, ?_⟩
      have n0_ := bb BK672 hb
      have n1_ := bb BK673 hb
      have n2_ := bb BK674 hb
      have n3_ := bst HB hb
      have z_BK679 := fun (h0_ : b 10 = true) (h1_ : b 12 = false) => (show w12.heap[gb679]? = some (.cells #[.int .i64 0, .int .i64 0] 37 (0, 0)) from by first | exact (blk_below (g := gb679) (o := .cells #[.int .i64 0, .int .i64 0] 37 (0, 0)) (by (with_reducible repeat (first | refine blk_drewN ?_ _ | refine blk_drew ?_ | refine blk_alloc ?_ _)); exact (Q_BK679 h0_ h1_)) hb))
      have z_BK680 := fun (h0_ : b 11 = true) (h1_ : b 13 = false) => (show w12.heap[gb680]? = some (.cells #[.int .i64 0, .int .i64 0] 37 (0, 0)) from by first | exact (blk_below (g := gb680) (o := .cells #[.int .i64 0, .int .i64 0] 37 (0, 0)) (by (with_reducible repeat (first | refine blk_drewN ?_ _ | refine blk_drew ?_ | refine blk_alloc ?_ _)); exact (Q_BK680 h0_ h1_)) hb))
      clear BK672
      clear BK673
      clear BK674
      clear HB
      have BK672 := n0_
      have BK673 := n1_
      have BK674 := n2_
      have HB := n3_
      clear n0_ n1_ n2_ n3_
      (try clear hb)
      (try clear hb2)
      (try clear hk)
      (try clear hi)
      refine hK.out _ _ ⟨gb679, gb680, m10_, m11_, (by rw [ha.out]; exact putSel_upk 2 hb_ rfl rfl rfl), (pk BK672), (pk BK673), (pk BK674), (bnow HB), Q_NB680_679, Q_NB679_680, z_BK679, Q_GW679, Q_GE679, Q_NB672_679, Q_NB679_672, Q_NB673_679, Q_NB679_673, Q_NB674_679, Q_NB679_674, z_BK680, Q_GW680, Q_GE680, Q_NB672_680, Q_NB680_672, Q_NB673_680, Q_NB680_673, Q_NB674_680, Q_NB680_674, fun h0_ => absurd ((hoff 12 (by kernel_rfl)).symm.trans h0_) (by decide), fun h0_ => absurd ((hoff 13 (by kernel_rfl)).symm.trans h0_) (by decide), Q_X10_, Q_X11_⟩
    refine steps_cons ?_ ?_
    · rintro b a w' ⟨gb679, gb680, m10_, m11_, ha, Q_BK672, Q_BK673, Q_BK674, Q_HB, Q_NB680_679, Q_NB679_680, Q_BK679, Q_GW679, Q_GE679, Q_NB672_679, Q_NB679_672, Q_NB673_679, Q_NB679_673, Q_NB674_679, Q_NB679_674, Q_BK680, Q_GW680, Q_GE680, Q_NB672_680, Q_NB680_672, Q_NB673_680, Q_NB680_673, Q_NB674_680, Q_NB680_674, Q_BK679_e12, Q_BK680_e13, Q_X10_, Q_X11_⟩ hb_ hon hoff
      refine ⟨_, rfl, fun K hK => ?_⟩
      have e12 : a.tmps[12]? = some (.pointer (some ⟨gb673, 1, none⟩)) := by rw [ha]; exact (putSel_off rfl).trans rfl
      replace ha := Aside0.mk ha
      have BK672 := Aside0.mk Q_BK672
      have BK673 := Aside0.mk Q_BK673
      have BK674 := Aside0.mk Q_BK674
      have HB := Aside0.mk Q_HB
      have hc0_ : w'.cell? ⟨gb673, 0, none⟩ = some (.int .i64 a1_0) := (blk_cell BK673.out 0).trans rfl
      have hc1_ : w'.cell? ⟨gb673, 1, none⟩ = some (.int .i64 a1_1) := (blk_cell BK673.out 1).trans rfl
      have hc2_ : w'.cell? ⟨gb673, 2, none⟩ = some (.int .i64 a1_2) := (blk_cell BK673.out 2).trans rfl
      have hc3_ : w'.cell? ⟨gb673, 3, none⟩ = some (.int .i64 a1_3) := (blk_cell BK673.out 3).trans rfl
      refine value_ (w1 := w') (v := .int .i64 a1_1) (by rfl) rfl ?_ ?_
      · go_simp
        (try simp only [i64_w])
        try rfl
      refine hK.out _ _ ⟨gb679, gb680, m10_, m11_, (by rw [ha.out]; exact putSel_upk 3 hb_ rfl rfl rfl), Q_BK672, Q_BK673, Q_BK674, Q_HB, Q_NB680_679, Q_NB679_680, Q_BK679, Q_GW679, Q_GE679, Q_NB672_679, Q_NB679_672, Q_NB673_679, Q_NB679_673, Q_NB674_679, Q_NB679_674, Q_BK680, Q_GW680, Q_GE680, Q_NB672_680, Q_NB680_672, Q_NB673_680, Q_NB680_673, Q_NB674_680, Q_NB680_674, fun h0_ => absurd ((hoff 12 (by kernel_rfl)).symm.trans h0_) (by decide), fun h0_ => absurd ((hoff 13 (by kernel_rfl)).symm.trans h0_) (by decide), Q_X10_, Q_X11_⟩
    refine steps_cons ?_ ?_
    · rintro b a w' ⟨gb679, gb680, m10_, m11_, ha, Q_BK672, Q_BK673, Q_BK674, Q_HB, Q_NB680_679, Q_NB679_680, Q_BK679, Q_GW679, Q_GE679, Q_NB672_679, Q_NB679_672, Q_NB673_679, Q_NB679_673, Q_NB674_679, Q_NB679_674, Q_BK680, Q_GW680, Q_GE680, Q_NB672_680, Q_NB680_672, Q_NB673_680, Q_NB680_673, Q_NB674_680, Q_NB680_674, Q_BK679_e12, Q_BK680_e13, Q_X10_, Q_X11_⟩ hb_ hon hoff
      refine ⟨_, rfl, fun K hK => ?_⟩
      have e14 : a.tmps[14]? = some (.pointer (some ⟨gb673, 3, none⟩)) := by rw [ha]; exact (putSel_off rfl).trans rfl
      replace ha := Aside0.mk ha
      have BK672 := Aside0.mk Q_BK672
      have BK673 := Aside0.mk Q_BK673
      have BK674 := Aside0.mk Q_BK674
      have HB := Aside0.mk Q_HB
      have hc0_ : w'.cell? ⟨gb673, 0, none⟩ = some (.int .i64 a1_0) := (blk_cell BK673.out 0).trans rfl
      have hc1_ : w'.cell? ⟨gb673, 1, none⟩ = some (.int .i64 a1_1) := (blk_cell BK673.out 1).trans rfl
      have hc2_ : w'.cell? ⟨gb673, 2, none⟩ = some (.int .i64 a1_2) := (blk_cell BK673.out 2).trans rfl
      have hc3_ : w'.cell? ⟨gb673, 3, none⟩ = some (.int .i64 a1_3) := (blk_cell BK673.out 3).trans rfl
      refine value_ (w1 := w') (v := .int .i64 a1_3) (by rfl) rfl ?_ ?_
      · go_simp
        (try simp only [i64_w])
        try rfl
      refine hK.out _ _ ⟨gb679, gb680, m10_, m11_, (by rw [ha.out]; exact putSel_upk 4 hb_ rfl rfl rfl), Q_BK672, Q_BK673, Q_BK674, Q_HB, Q_NB680_679, Q_NB679_680, Q_BK679, Q_GW679, Q_GE679, Q_NB672_679, Q_NB679_672, Q_NB673_679, Q_NB679_673, Q_NB674_679, Q_NB679_674, Q_BK680, Q_GW680, Q_GE680, Q_NB672_680, Q_NB680_672, Q_NB673_680, Q_NB680_673, Q_NB674_680, Q_NB680_674, fun h0_ => absurd ((hoff 12 (by kernel_rfl)).symm.trans h0_) (by decide), fun h0_ => absurd ((hoff 13 (by kernel_rfl)).symm.trans h0_) (by decide), Q_X10_, Q_X11_⟩
    refine steps_cons ?_ ?_
    · rintro b a w' ⟨gb679, gb680, m10_, m11_, ha, Q_BK672, Q_BK673, Q_BK674, Q_HB, Q_NB680_679, Q_NB679_680, Q_BK679, Q_GW679, Q_GE679, Q_NB672_679, Q_NB679_672, Q_NB673_679, Q_NB679_673, Q_NB674_679, Q_NB679_674, Q_BK680, Q_GW680, Q_GE680, Q_NB672_680, Q_NB680_672, Q_NB673_680, Q_NB680_673, Q_NB674_680, Q_NB680_674, Q_BK679_e12, Q_BK680_e13, Q_X10_, Q_X11_⟩ hb_ hon hoff
      refine ⟨_, rfl, fun K hK => ?_⟩
      have e13 : a.tmps[13]? = some (.int .i64 a1_1) := by rw [ha]; exact putSel_on (e := (6, 13, .int .i64 a1_1)) 3 rfl rfl (hon 6 (by kernel_rfl)) rfl
      have e15 : a.tmps[15]? = some (.int .i64 a1_3) := by rw [ha]; exact putSel_on (e := (8, 15, .int .i64 a1_3)) 4 rfl rfl (hon 8 (by kernel_rfl)) rfl
      replace ha := Aside0.mk ha
      have BK672 := Aside0.mk Q_BK672
      have BK673 := Aside0.mk Q_BK673
      have BK674 := Aside0.mk Q_BK674
      have HB := Aside0.mk Q_HB
      refine goes_ Try.func19 (by kernel_rfl) rfl #[.int .i64 a1_1, .int .i64 a1_3] (by rfl) rfl rfl (by first | (simp only [List.map_toArray, List.map_cons, List.map_nil, Act.eval, Array.getD_eq_getD_getElem?, Option.getD_some, e13, e15]; done) | (simp only [List.map_toArray, List.map_cons, List.map_nil, Act.eval, Array.getD_eq_getD_getElem?, Option.getD_some, e13, e15]; rfl)) ?_
      with_reducible refine (torchonlaw06_pt.calls a1_1 a1_3 t677 t678 _ A4.out).mono ?_
      rintro e w14 ⟨rfl, hb⟩
      refine ⟨_, rfl, ?_⟩
      have n0_ := bb BK672 hb
      have n1_ := bb BK673 hb
      have n2_ := bb BK674 hb
      have n3_ := bst HB hb
      have z_BK679 := fun (h0_ : b 10 = true) (h1_ : b 12 = false) => (show w14.heap[gb679]? = some (.cells #[.int .i64 0, .int .i64 0] 37 (0, 0)) from by first | exact (blk_below (g := gb679) (o := .cells #[.int .i64 0, .int .i64 0] 37 (0, 0)) (by (with_reducible repeat (first | refine blk_drewN ?_ _ | refine blk_drew ?_ | refine blk_alloc ?_ _)); exact (Q_BK679 h0_ h1_)) hb))
      have z_BK680 := fun (h0_ : b 11 = true) (h1_ : b 13 = false) => (show w14.heap[gb680]? = some (.cells #[.int .i64 0, .int .i64 0] 37 (0, 0)) from by first | exact (blk_below (g := gb680) (o := .cells #[.int .i64 0, .int .i64 0] 37 (0, 0)) (by (with_reducible repeat (first | refine blk_drewN ?_ _ | refine blk_drew ?_ | refine blk_alloc ?_ _)); exact (Q_BK680 h0_ h1_)) hb))
      clear BK672
      clear BK673
      clear BK674
      clear HB
      have BK672 := n0_
      have BK673 := n1_
      have BK674 := n2_
      have HB := n3_
      clear n0_ n1_ n2_ n3_
      (try clear hb)
      (try clear hb2)
      (try clear hk)
      (try clear hi)
      refine hK.out _ _ ⟨gb679, gb680, m10_, m11_, (by rw [ha.out]; exact putSel_upk 5 hb_ rfl rfl rfl), (pk BK672), (pk BK673), (pk BK674), (bnow HB), Q_NB680_679, Q_NB679_680, z_BK679, Q_GW679, Q_GE679, Q_NB672_679, Q_NB679_672, Q_NB673_679, Q_NB679_673, Q_NB674_679, Q_NB679_674, z_BK680, Q_GW680, Q_GE680, Q_NB672_680, Q_NB680_672, Q_NB673_680, Q_NB680_673, Q_NB674_680, Q_NB680_674, fun h0_ => absurd ((hoff 12 (by kernel_rfl)).symm.trans h0_) (by decide), fun h0_ => absurd ((hoff 13 (by kernel_rfl)).symm.trans h0_) (by decide), Q_X10_, Q_X11_⟩
    refine steps_cons ?_ ?_
    · rintro b a w' ⟨gb679, gb680, m10_, m11_, ha, Q_BK672, Q_BK673, Q_BK674, Q_HB, Q_NB680_679, Q_NB679_680, Q_BK679, Q_GW679, Q_GE679, Q_NB672_679, Q_NB679_672, Q_NB673_679, Q_NB679_673, Q_NB674_679, Q_NB679_674, Q_BK680, Q_GW680, Q_GE680, Q_NB672_680, Q_NB680_672, Q_NB673_680, Q_NB680_673, Q_NB674_680, Q_NB680_674, Q_BK679_e12, Q_BK680_e13, Q_X10_, Q_X11_⟩ hb_ hon hoff
      refine ⟨_, rfl, fun K hK => ?_⟩
      replace ha := Aside0.mk ha
      have BK672 := Aside0.mk Q_BK672
      have BK673 := Aside0.mk Q_BK673
      have BK674 := Aside0.mk Q_BK674
      have HB := Aside0.mk Q_HB
      refine box_step ?hg (N := 5) ?hd (cs := #[.int .i64 0, .int .i64 0]) (t := 37) ?hr ?_; (case hd => rfl); (case hg => rfl); (case hr => first | (go_simp; done) | (go_simp; rfl))
      intro gb679 hg w12 hbox hb
      have n0_ := bb BK672 hb
      have n1_ := bb BK673 hb
      have n2_ := bb BK674 hb
      have n3_ := bst HB hb
      have n4_ := Aside0.mk (hbox)
      have n5_ := gw hg HB
      have n6_ := gw hg HB
      have n7_ := nlt hg BK672
      have n8_ := ngt hg BK672
      have n9_ := nlt hg BK673
      have n10_ := ngt hg BK673
      have n11_ := nlt hg BK674
      have n12_ := ngt hg BK674
      have z_NB680_679 := fun (h0_ : up b 10 10 = true) (h1_ : up b 10 11 = true) => (show gb680 ≠ gb679 from (by cases hb_ : b 13 with | false => exact ((by rw [hg]; exact Nat.ne_of_lt (blk_lt (g := gb680) (o := .cells #[.int .i64 0, .int .i64 0] 37 (0, 0)) (by (with_reducible repeat (first | refine blk_drewN ?_ _ | refine blk_drew ?_ | refine blk_alloc ?_ _)); exact (Q_BK680 h1_ hb_))) : gb680 ≠ gb679)) | true => exact ((by rw [hg]; exact Nat.ne_of_lt (blk_lt (g := gb680) (by (with_reducible repeat (first | refine blk_drewN ?_ _ | refine blk_drew ?_ | refine blk_alloc ?_ _)); exact (Q_BK680_e13 hb_))) : gb680 ≠ gb679))))
      have z_NB679_680 := fun (h0_ : up b 10 10 = true) (h1_ : up b 10 11 = true) => (show gb679 ≠ gb680 from (by cases hb_ : b 13 with | false => exact ((by rw [hg]; exact Nat.ne_of_gt (blk_lt (g := gb680) (o := .cells #[.int .i64 0, .int .i64 0] 37 (0, 0)) (by (with_reducible repeat (first | refine blk_drewN ?_ _ | refine blk_drew ?_ | refine blk_alloc ?_ _)); exact (Q_BK680 h1_ hb_))) : gb679 ≠ gb680)) | true => exact ((by rw [hg]; exact Nat.ne_of_gt (blk_lt (g := gb680) (by (with_reducible repeat (first | refine blk_drewN ?_ _ | refine blk_drew ?_ | refine blk_alloc ?_ _)); exact (Q_BK680_e13 hb_))) : gb679 ≠ gb680))))
      have z_BK680 := fun (h0_ : b 11 = true) (h1_ : b 13 = false) => (show w12.heap[gb680]? = some (.cells #[.int .i64 0, .int .i64 0] 37 (0, 0)) from by first | exact (blk_below (g := gb680) (o := .cells #[.int .i64 0, .int .i64 0] 37 (0, 0)) (by (with_reducible repeat (first | refine blk_drewN ?_ _ | refine blk_drew ?_ | refine blk_alloc ?_ _)); exact (Q_BK680 h0_ h1_)) hb))
      clear BK672
      clear BK673
      clear BK674
      clear HB
      have BK672 := n0_
      have BK673 := n1_
      have BK674 := n2_
      have HB := n3_
      have BK679 := n4_
      have GW679 := n5_
      have GE679 := n6_
      have NB672_679 := n7_
      have NB679_672 := n8_
      have NB673_679 := n9_
      have NB679_673 := n10_
      have NB674_679 := n11_
      have NB679_674 := n12_
      clear n0_ n1_ n2_ n3_ n4_ n5_ n6_ n7_ n8_ n9_ n10_ n11_ n12_
      clear hb hg
      refine hK.out _ _ ⟨gb679, gb680, (.pointer (some ⟨gb679, 0, none⟩)), m11_, (by rw [ha.out]; exact putSel_upk 6 hb_ rfl rfl rfl), (pk BK672), (pk BK673), (pk BK674), (bnow HB), z_NB680_679, z_NB679_680, fun _ _ => (pk BK679), fun _ => GW679.out, fun _ => GE679.out, fun _ => NB672_679.out, fun _ => NB679_672.out, fun _ => NB673_679.out, fun _ => NB679_673.out, fun _ => NB674_679.out, fun _ => NB679_674.out, z_BK680, Q_GW680, Q_GE680, Q_NB672_680, Q_NB680_672, Q_NB673_680, Q_NB680_673, Q_NB674_680, Q_NB680_674, fun h0_ => absurd ((hoff 12 (by kernel_rfl)).symm.trans h0_) (by decide), fun h0_ => absurd ((hoff 13 (by kernel_rfl)).symm.trans h0_) (by decide), fun _ => rfl, Q_X11_⟩
    refine steps_cons ?_ ?_
    · rintro b a w' ⟨gb679, gb680, m10_, m11_, ha, Q_BK672, Q_BK673, Q_BK674, Q_HB, Q_NB680_679, Q_NB679_680, Q_BK679, Q_GW679, Q_GE679, Q_NB672_679, Q_NB679_672, Q_NB673_679, Q_NB679_673, Q_NB674_679, Q_NB679_674, Q_BK680, Q_GW680, Q_GE680, Q_NB672_680, Q_NB680_672, Q_NB673_680, Q_NB680_673, Q_NB674_680, Q_NB680_674, Q_BK679_e12, Q_BK680_e13, Q_X10_, Q_X11_⟩ hb_ hon hoff
      refine ⟨_, rfl, fun K hK => ?_⟩
      replace ha := Aside0.mk ha
      have BK672 := Aside0.mk Q_BK672
      have BK673 := Aside0.mk Q_BK673
      have BK674 := Aside0.mk Q_BK674
      have HB := Aside0.mk Q_HB
      refine box_step ?hg (N := 6) ?hd (cs := #[.int .i64 0, .int .i64 0]) (t := 37) ?hr ?_; (case hd => rfl); (case hg => rfl); (case hr => first | (go_simp; done) | (go_simp; rfl))
      intro gb680 hg w12 hbox hb
      have n0_ := bb BK672 hb
      have n1_ := bb BK673 hb
      have n2_ := bb BK674 hb
      have n3_ := bst HB hb
      have n4_ := Aside0.mk (hbox)
      have n5_ := gw hg HB
      have n6_ := gw hg HB
      have n7_ := nlt hg BK672
      have n8_ := ngt hg BK672
      have n9_ := nlt hg BK673
      have n10_ := ngt hg BK673
      have n11_ := nlt hg BK674
      have n12_ := ngt hg BK674
      have z_NB680_679 := fun (h0_ : up b 11 10 = true) (h1_ : up b 11 11 = true) => (show gb680 ≠ gb679 from (by cases hb_ : b 12 with | false => exact ((by rw [hg]; exact Nat.ne_of_gt (blk_lt (g := gb679) (o := .cells #[.int .i64 0, .int .i64 0] 37 (0, 0)) (by (with_reducible repeat (first | refine blk_drewN ?_ _ | refine blk_drew ?_ | refine blk_alloc ?_ _)); exact (Q_BK679 h0_ hb_))) : gb680 ≠ gb679)) | true => exact ((by rw [hg]; exact Nat.ne_of_gt (blk_lt (g := gb679) (by (with_reducible repeat (first | refine blk_drewN ?_ _ | refine blk_drew ?_ | refine blk_alloc ?_ _)); exact (Q_BK679_e12 hb_))) : gb680 ≠ gb679))))
      have z_NB679_680 := fun (h0_ : up b 11 10 = true) (h1_ : up b 11 11 = true) => (show gb679 ≠ gb680 from (by cases hb_ : b 12 with | false => exact ((by rw [hg]; exact Nat.ne_of_lt (blk_lt (g := gb679) (o := .cells #[.int .i64 0, .int .i64 0] 37 (0, 0)) (by (with_reducible repeat (first | refine blk_drewN ?_ _ | refine blk_drew ?_ | refine blk_alloc ?_ _)); exact (Q_BK679 h0_ hb_))) : gb679 ≠ gb680)) | true => exact ((by rw [hg]; exact Nat.ne_of_lt (blk_lt (g := gb679) (by (with_reducible repeat (first | refine blk_drewN ?_ _ | refine blk_drew ?_ | refine blk_alloc ?_ _)); exact (Q_BK679_e12 hb_))) : gb679 ≠ gb680))))
      have z_BK679 := fun (h0_ : b 10 = true) (h1_ : b 12 = false) => (show w12.heap[gb679]? = some (.cells #[.int .i64 0, .int .i64 0] 37 (0, 0)) from by first | exact (blk_below (g := gb679) (o := .cells #[.int .i64 0, .int .i64 0] 37 (0, 0)) (by (with_reducible repeat (first | refine blk_drewN ?_ _ | refine blk_drew ?_ | refine blk_alloc ?_ _)); exact (Q_BK679 h0_ h1_)) hb))
      clear BK672
      clear BK673
      clear BK674
      clear HB
      have BK672 := n0_
      have BK673 := n1_
      have BK674 := n2_
      have HB := n3_
      have BK680 := n4_
      have GW680 := n5_
      have GE680 := n6_
      have NB672_680 := n7_
      have NB680_672 := n8_
      have NB673_680 := n9_
      have NB680_673 := n10_
      have NB674_680 := n11_
      have NB680_674 := n12_
      clear n0_ n1_ n2_ n3_ n4_ n5_ n6_ n7_ n8_ n9_ n10_ n11_ n12_
      clear hb hg
      refine hK.out _ _ ⟨gb679, gb680, m10_, (.pointer (some ⟨gb680, 0, none⟩)), (by rw [ha.out]; exact putSel_upk 7 hb_ rfl rfl rfl), (pk BK672), (pk BK673), (pk BK674), (bnow HB), z_NB680_679, z_NB679_680, z_BK679, Q_GW679, Q_GE679, Q_NB672_679, Q_NB679_672, Q_NB673_679, Q_NB679_673, Q_NB674_679, Q_NB679_674, fun _ _ => (pk BK680), fun _ => GW680.out, fun _ => GE680.out, fun _ => NB672_680.out, fun _ => NB680_672.out, fun _ => NB673_680.out, fun _ => NB680_673.out, fun _ => NB674_680.out, fun _ => NB680_674.out, fun h0_ => absurd ((hoff 12 (by kernel_rfl)).symm.trans h0_) (by decide), fun h0_ => absurd ((hoff 13 (by kernel_rfl)).symm.trans h0_) (by decide), Q_X10_, fun _ => rfl⟩
    refine steps_cons ?_ ?_
    · rintro b a w' ⟨gb679, gb680, m10_, m11_, ha, Q_BK672, Q_BK673, Q_BK674, Q_HB, Q_NB680_679, Q_NB679_680, Q_BK679, Q_GW679, Q_GE679, Q_NB672_679, Q_NB679_672, Q_NB673_679, Q_NB679_673, Q_NB674_679, Q_NB679_674, Q_BK680, Q_GW680, Q_GE680, Q_NB672_680, Q_NB680_672, Q_NB673_680, Q_NB680_673, Q_NB674_680, Q_NB680_674, Q_BK679_e12, Q_BK680_e13, Q_X10_, Q_X11_⟩ hb_ hon hoff
      refine ⟨_, rfl, fun K hK => ?_⟩
      have e5 : a.tmps[5]? = some (m10_) := by rw [ha]; exact putSel_on (e := (10, 5, m10_)) 6 rfl rfl (hon 10 (by kernel_rfl)) rfl
      rw [Q_X10_ (hon 10 (by kernel_rfl))] at e5
      have e11 : a.tmps[11]? = some (.agg #[.int .i64 t675, .int .i64 t676]) := by rw [ha]; exact putSel_on (e := (4, 11, .agg #[.int .i64 t675, .int .i64 t676])) 2 rfl rfl (hon 4 (by kernel_rfl)) rfl
      replace ha := Aside0.mk ha
      have BK672 := Aside0.mk Q_BK672
      have BK673 := Aside0.mk Q_BK673
      have BK674 := Aside0.mk Q_BK674
      have HB := Aside0.mk Q_HB
      have NB680_679 := Aside0.mk (Q_NB680_679 (hon 10 (by kernel_rfl)) (hon 11 (by kernel_rfl)))
      have NB679_680 := Aside0.mk (Q_NB679_680 (hon 10 (by kernel_rfl)) (hon 11 (by kernel_rfl)))
      have BK679 := Aside0.mk (Q_BK679 (hon 10 (by kernel_rfl)) hb_)
      have GW679 := Aside0.mk (Q_GW679 (hon 10 (by kernel_rfl)))
      have GE679 := Aside0.mk (Q_GE679 (hon 10 (by kernel_rfl)))
      have NB672_679 := Aside0.mk (Q_NB672_679 (hon 10 (by kernel_rfl)))
      have NB679_672 := Aside0.mk (Q_NB679_672 (hon 10 (by kernel_rfl)))
      have NB673_679 := Aside0.mk (Q_NB673_679 (hon 10 (by kernel_rfl)))
      have NB679_673 := Aside0.mk (Q_NB679_673 (hon 10 (by kernel_rfl)))
      have NB674_679 := Aside0.mk (Q_NB674_679 (hon 10 (by kernel_rfl)))
      have NB679_674 := Aside0.mk (Q_NB679_674 (hon 10 (by kernel_rfl)))
      have BK680 := Aside0.mk (Q_BK680 (hon 11 (by kernel_rfl)) (hoff 13 (by kernel_rfl)))
      have GW680 := Aside0.mk (Q_GW680 (hon 11 (by kernel_rfl)))
      have GE680 := Aside0.mk (Q_GE680 (hon 11 (by kernel_rfl)))
      have NB672_680 := Aside0.mk (Q_NB672_680 (hon 11 (by kernel_rfl)))
      have NB680_672 := Aside0.mk (Q_NB680_672 (hon 11 (by kernel_rfl)))
      have NB673_680 := Aside0.mk (Q_NB673_680 (hon 11 (by kernel_rfl)))
      have NB680_673 := Aside0.mk (Q_NB680_673 (hon 11 (by kernel_rfl)))
      have NB674_680 := Aside0.mk (Q_NB674_680 (hon 11 (by kernel_rfl)))
      have NB680_674 := Aside0.mk (Q_NB680_674 (hon 11 (by kernel_rfl)))
      have hs17 : w'.cell? ⟨gb679, 0, none⟩ = some (.int .i64 0) := (blk_cell BK679.out 0).trans rfl
      have hfs17 := blk_frozen BK679.out 0
      have hns17_0 := NB672_679.out
      have hns17_1 := NB673_679.out
      have hns17_2 := NB674_679.out
      have hns17_4 := NB680_679.out
      have hms17_0 := NB679_672.out
      have hms17_1 := NB679_673.out
      have hms17_2 := NB679_674.out
      have hms17_4 := NB679_680.out
      have hs18 : w'.cell? ⟨gb679, 1, none⟩ = some (.int .i64 0) := (blk_cell BK679.out 1).trans rfl
      have hfs18 := blk_frozen BK679.out 1
      have hns18_0 := NB672_679.out
      have hns18_1 := NB673_679.out
      have hns18_2 := NB674_679.out
      have hns18_4 := NB680_679.out
      have hms18_0 := NB679_672.out
      have hms18_1 := NB679_673.out
      have hms18_2 := NB679_674.out
      have hms18_4 := NB679_680.out
      refine skip_ (w1 := ?_) (by rfl) rfl ?_ ?_
      rotate_left
      · go_simp
        rfl
      refine hK.out _ _ ⟨gb679, gb680, m10_, m11_, (by rw [ha.out]; exact putSel_none (v := undef) rfl), (by (with_reducible repeat (first | refine blk_drewN ?_ _ | refine blk_drew ?_ | refine blk_alloc ?_ _)); refine blk_far ?_ NB672_679.out _; (with_reducible repeat (first | refine blk_drewN ?_ _ | refine blk_drew ?_ | refine blk_alloc ?_ _)); refine blk_far ?_ NB672_679.out _; (with_reducible repeat (first | refine blk_drewN ?_ _ | refine blk_drew ?_ | refine blk_alloc ?_ _)); exact BK672.out), (by (with_reducible repeat (first | refine blk_drewN ?_ _ | refine blk_drew ?_ | refine blk_alloc ?_ _)); refine blk_far ?_ NB673_679.out _; (with_reducible repeat (first | refine blk_drewN ?_ _ | refine blk_drew ?_ | refine blk_alloc ?_ _)); refine blk_far ?_ NB673_679.out _; (with_reducible repeat (first | refine blk_drewN ?_ _ | refine blk_drew ?_ | refine blk_alloc ?_ _)); exact BK673.out), (by (with_reducible repeat (first | refine blk_drewN ?_ _ | refine blk_drew ?_ | refine blk_alloc ?_ _)); refine blk_far ?_ NB674_679.out _; (with_reducible repeat (first | refine blk_drewN ?_ _ | refine blk_drew ?_ | refine blk_alloc ?_ _)); refine blk_far ?_ NB674_679.out _; (with_reducible repeat (first | refine blk_drewN ?_ _ | refine blk_drew ?_ | refine blk_alloc ?_ _)); exact BK674.out), (bnow HB), fun _ _ => NB680_679.out, fun _ _ => NB679_680.out, fun _ h1_ => absurd ((up_self b 12).symm.trans h1_) (by decide), fun _ => GW679.out, fun _ => GE679.out, fun _ => NB672_679.out, fun _ => NB679_672.out, fun _ => NB673_679.out, fun _ => NB679_673.out, fun _ => NB674_679.out, fun _ => NB679_674.out, fun _ _ => (by (with_reducible repeat (first | refine blk_drewN ?_ _ | refine blk_drew ?_ | refine blk_alloc ?_ _)); refine blk_far ?_ NB680_679.out _; (with_reducible repeat (first | refine blk_drewN ?_ _ | refine blk_drew ?_ | refine blk_alloc ?_ _)); refine blk_far ?_ NB680_679.out _; (with_reducible repeat (first | refine blk_drewN ?_ _ | refine blk_drew ?_ | refine blk_alloc ?_ _)); exact BK680.out), fun _ => GW680.out, fun _ => GE680.out, fun _ => NB672_680.out, fun _ => NB680_672.out, fun _ => NB673_680.out, fun _ => NB680_673.out, fun _ => NB674_680.out, fun _ => NB680_674.out, fun _ => (by (with_reducible repeat (first | refine blk_drewN ?_ _ | refine blk_drew ?_ | refine blk_alloc ?_ _)); refine blk_put (cs := #[.int .i64 t675, .int .i64 0]) ?_ 1 _ rfl; (with_reducible repeat (first | refine blk_drewN ?_ _ | refine blk_drew ?_ | refine blk_alloc ?_ _)); refine blk_put (cs := #[.int .i64 0, .int .i64 0]) ?_ 0 _ rfl; (with_reducible repeat (first | refine blk_drewN ?_ _ | refine blk_drew ?_ | refine blk_alloc ?_ _)); exact BK679.out), fun h0_ => absurd ((hoff 13 (by kernel_rfl)).symm.trans h0_) (by decide), Q_X10_, Q_X11_⟩
    refine steps_cons ?_ ?_
    · rintro b a w' ⟨gb679, gb680, m10_, m11_, ha, Q_BK672, Q_BK673, Q_BK674, Q_HB, Q_NB680_679, Q_NB679_680, Q_BK679, Q_GW679, Q_GE679, Q_NB672_679, Q_NB679_672, Q_NB673_679, Q_NB679_673, Q_NB674_679, Q_NB679_674, Q_BK680, Q_GW680, Q_GE680, Q_NB672_680, Q_NB680_672, Q_NB673_680, Q_NB680_673, Q_NB674_680, Q_NB680_674, Q_BK679_e12, Q_BK680_e13, Q_X10_, Q_X11_⟩ hb_ hon hoff
      refine ⟨_, rfl, fun K hK => ?_⟩
      have e6 : a.tmps[6]? = some (m11_) := by rw [ha]; exact putSel_on (e := (11, 6, m11_)) 7 rfl rfl (hon 11 (by kernel_rfl)) rfl
      rw [Q_X11_ (hon 11 (by kernel_rfl))] at e6
      have e16 : a.tmps[16]? = some (.agg #[.int .i64 t677, .int .i64 t678]) := by rw [ha]; exact putSel_on (e := (9, 16, .agg #[.int .i64 t677, .int .i64 t678])) 5 rfl rfl (hon 9 (by kernel_rfl)) rfl
      replace ha := Aside0.mk ha
      have BK672 := Aside0.mk Q_BK672
      have BK673 := Aside0.mk Q_BK673
      have BK674 := Aside0.mk Q_BK674
      have HB := Aside0.mk Q_HB
      have NB680_679 := Aside0.mk (Q_NB680_679 (hon 10 (by kernel_rfl)) (hon 11 (by kernel_rfl)))
      have NB679_680 := Aside0.mk (Q_NB679_680 (hon 10 (by kernel_rfl)) (hon 11 (by kernel_rfl)))
      have GW679 := Aside0.mk (Q_GW679 (hon 10 (by kernel_rfl)))
      have GE679 := Aside0.mk (Q_GE679 (hon 10 (by kernel_rfl)))
      have NB672_679 := Aside0.mk (Q_NB672_679 (hon 10 (by kernel_rfl)))
      have NB679_672 := Aside0.mk (Q_NB679_672 (hon 10 (by kernel_rfl)))
      have NB673_679 := Aside0.mk (Q_NB673_679 (hon 10 (by kernel_rfl)))
      have NB679_673 := Aside0.mk (Q_NB679_673 (hon 10 (by kernel_rfl)))
      have NB674_679 := Aside0.mk (Q_NB674_679 (hon 10 (by kernel_rfl)))
      have NB679_674 := Aside0.mk (Q_NB679_674 (hon 10 (by kernel_rfl)))
      have BK680 := Aside0.mk (Q_BK680 (hon 11 (by kernel_rfl)) hb_)
      have GW680 := Aside0.mk (Q_GW680 (hon 11 (by kernel_rfl)))
      have GE680 := Aside0.mk (Q_GE680 (hon 11 (by kernel_rfl)))
      have NB672_680 := Aside0.mk (Q_NB672_680 (hon 11 (by kernel_rfl)))
      have NB680_672 := Aside0.mk (Q_NB680_672 (hon 11 (by kernel_rfl)))
      have NB673_680 := Aside0.mk (Q_NB673_680 (hon 11 (by kernel_rfl)))
      have NB680_673 := Aside0.mk (Q_NB680_673 (hon 11 (by kernel_rfl)))
      have NB674_680 := Aside0.mk (Q_NB674_680 (hon 11 (by kernel_rfl)))
      have NB680_674 := Aside0.mk (Q_NB680_674 (hon 11 (by kernel_rfl)))
      have BK679 := Aside0.mk (Q_BK679_e12 (hon 12 (by kernel_rfl)))
      have hs19 : w'.cell? ⟨gb680, 0, none⟩ = some (.int .i64 0) := (blk_cell BK680.out 0).trans rfl
      have hfs19 := blk_frozen BK680.out 0
      have hns19_0 := NB672_680.out
      have hns19_1 := NB673_680.out
      have hns19_2 := NB674_680.out
      have hns19_3 := NB679_680.out
      have hms19_0 := NB680_672.out
      have hms19_1 := NB680_673.out
      have hms19_2 := NB680_674.out
      have hms19_3 := NB680_679.out
      have hs20 : w'.cell? ⟨gb680, 1, none⟩ = some (.int .i64 0) := (blk_cell BK680.out 1).trans rfl
      have hfs20 := blk_frozen BK680.out 1
      have hns20_0 := NB672_680.out
      have hns20_1 := NB673_680.out
      have hns20_2 := NB674_680.out
      have hns20_3 := NB679_680.out
      have hms20_0 := NB680_672.out
      have hms20_1 := NB680_673.out
      have hms20_2 := NB680_674.out
      have hms20_3 := NB680_679.out
      refine skip_ (w1 := ?_) (by rfl) rfl ?_ ?_
      rotate_left
      · go_simp
        rfl
      refine hK.out _ _ ⟨gb679, gb680, m10_, m11_, (by rw [ha.out]; exact putSel_none (v := undef) rfl), (by (with_reducible repeat (first | refine blk_drewN ?_ _ | refine blk_drew ?_ | refine blk_alloc ?_ _)); refine blk_far ?_ NB672_680.out _; (with_reducible repeat (first | refine blk_drewN ?_ _ | refine blk_drew ?_ | refine blk_alloc ?_ _)); refine blk_far ?_ NB672_680.out _; (with_reducible repeat (first | refine blk_drewN ?_ _ | refine blk_drew ?_ | refine blk_alloc ?_ _)); exact BK672.out), (by (with_reducible repeat (first | refine blk_drewN ?_ _ | refine blk_drew ?_ | refine blk_alloc ?_ _)); refine blk_far ?_ NB673_680.out _; (with_reducible repeat (first | refine blk_drewN ?_ _ | refine blk_drew ?_ | refine blk_alloc ?_ _)); refine blk_far ?_ NB673_680.out _; (with_reducible repeat (first | refine blk_drewN ?_ _ | refine blk_drew ?_ | refine blk_alloc ?_ _)); exact BK673.out), (by (with_reducible repeat (first | refine blk_drewN ?_ _ | refine blk_drew ?_ | refine blk_alloc ?_ _)); refine blk_far ?_ NB674_680.out _; (with_reducible repeat (first | refine blk_drewN ?_ _ | refine blk_drew ?_ | refine blk_alloc ?_ _)); refine blk_far ?_ NB674_680.out _; (with_reducible repeat (first | refine blk_drewN ?_ _ | refine blk_drew ?_ | refine blk_alloc ?_ _)); exact BK674.out), (bnow HB), fun _ _ => NB680_679.out, fun _ _ => NB679_680.out, fun _ h1_ => absurd ((hon 12 (by kernel_rfl)).symm.trans h1_) (by decide), fun _ => GW679.out, fun _ => GE679.out, fun _ => NB672_679.out, fun _ => NB679_672.out, fun _ => NB673_679.out, fun _ => NB679_673.out, fun _ => NB674_679.out, fun _ => NB679_674.out, fun _ h1_ => absurd ((up_self b 13).symm.trans h1_) (by decide), fun _ => GW680.out, fun _ => GE680.out, fun _ => NB672_680.out, fun _ => NB680_672.out, fun _ => NB673_680.out, fun _ => NB680_673.out, fun _ => NB674_680.out, fun _ => NB680_674.out, fun _ => (by (with_reducible repeat (first | refine blk_drewN ?_ _ | refine blk_drew ?_ | refine blk_alloc ?_ _)); refine blk_far ?_ NB679_680.out _; (with_reducible repeat (first | refine blk_drewN ?_ _ | refine blk_drew ?_ | refine blk_alloc ?_ _)); refine blk_far ?_ NB679_680.out _; (with_reducible repeat (first | refine blk_drewN ?_ _ | refine blk_drew ?_ | refine blk_alloc ?_ _)); exact BK679.out), fun _ => (by (with_reducible repeat (first | refine blk_drewN ?_ _ | refine blk_drew ?_ | refine blk_alloc ?_ _)); refine blk_put (cs := #[.int .i64 t677, .int .i64 0]) ?_ 1 _ rfl; (with_reducible repeat (first | refine blk_drewN ?_ _ | refine blk_drew ?_ | refine blk_alloc ?_ _)); refine blk_put (cs := #[.int .i64 0, .int .i64 0]) ?_ 0 _ rfl; (with_reducible repeat (first | refine blk_drewN ?_ _ | refine blk_drew ?_ | refine blk_alloc ?_ _)); exact BK680.out), Q_X10_, Q_X11_⟩
    exact steps_nil
  rintro b a w20 hall ⟨gb679, gb680, m10_, m11_, ha, Q_BK672, Q_BK673, Q_BK674, Q_HB, Q_NB680_679, Q_NB679_680, Q_BK679, Q_GW679, Q_GE679, Q_NB672_679, Q_NB679_672, Q_NB673_679, Q_NB679_673, Q_NB674_679, Q_NB679_674, Q_BK680, Q_GW680, Q_GE680, Q_NB672_680, Q_NB680_672, Q_NB673_680, Q_NB680_673, Q_NB674_680, Q_NB680_674, Q_BK679_e12, Q_BK680_e13, Q_X10_, Q_X11_⟩
  clear BK672 BK673 BK674 HB
  have hb1_ := hall 1 (by kernel_rfl)
  have hb3_ := hall 3 (by kernel_rfl)
  have hb4_ := hall 4 (by kernel_rfl)
  have hb6_ := hall 6 (by kernel_rfl)
  have hb8_ := hall 8 (by kernel_rfl)
  have hb9_ := hall 9 (by kernel_rfl)
  have hb10_ := hall 10 (by kernel_rfl)
  have hb11_ := hall 11 (by kernel_rfl)
  have hb12_ := hall 12 (by kernel_rfl)
  have hb13_ := hall 13 (by kernel_rfl)
  subst ha
  obtain rfl := Q_X10_ hb10_
  obtain rfl := Q_X11_ hb11_
  simp only [putSel, hb1_, hb3_, hb4_, hb6_, hb8_, hb9_, hb10_, hb11_, hb12_, hb13_, if_true, Act.put, List.setIfInBounds_toArray, List.set_cons_zero, List.set_cons_succ]
  have BK672 := Aside0.mk Q_BK672
  clear Q_BK672
  have BK673 := Aside0.mk Q_BK673
  clear Q_BK673
  have BK674 := Aside0.mk Q_BK674
  clear Q_BK674
  have HB := Aside0.mk Q_HB
  clear Q_HB
  have NB680_679 := Aside0.mk (Q_NB680_679 hb10_ hb11_)
  clear Q_NB680_679
  have NB679_680 := Aside0.mk (Q_NB679_680 hb10_ hb11_)
  clear Q_NB679_680
  clear Q_BK679
  have GW679 := Aside0.mk (Q_GW679 hb10_)
  clear Q_GW679
  have GE679 := Aside0.mk (Q_GE679 hb10_)
  clear Q_GE679
  have NB672_679 := Aside0.mk (Q_NB672_679 hb10_)
  clear Q_NB672_679
  have NB679_672 := Aside0.mk (Q_NB679_672 hb10_)
  clear Q_NB679_672
  have NB673_679 := Aside0.mk (Q_NB673_679 hb10_)
  clear Q_NB673_679
  have NB679_673 := Aside0.mk (Q_NB679_673 hb10_)
  clear Q_NB679_673
  have NB674_679 := Aside0.mk (Q_NB674_679 hb10_)
  clear Q_NB674_679
  have NB679_674 := Aside0.mk (Q_NB679_674 hb10_)
  clear Q_NB679_674
  clear Q_BK680
  have GW680 := Aside0.mk (Q_GW680 hb11_)
  clear Q_GW680
  have GE680 := Aside0.mk (Q_GE680 hb11_)
  clear Q_GE680
  have NB672_680 := Aside0.mk (Q_NB672_680 hb11_)
  clear Q_NB672_680
  have NB680_672 := Aside0.mk (Q_NB680_672 hb11_)
  clear Q_NB680_672
  have NB673_680 := Aside0.mk (Q_NB673_680 hb11_)
  clear Q_NB673_680
  have NB680_673 := Aside0.mk (Q_NB680_673 hb11_)
  clear Q_NB680_673
  have NB674_680 := Aside0.mk (Q_NB674_680 hb11_)
  clear Q_NB674_680
  have NB680_674 := Aside0.mk (Q_NB680_674 hb11_)
  clear Q_NB680_674
  have BK679 := Aside0.mk (Q_BK679_e12 hb12_)
  clear Q_BK679_e12
  have BK680 := Aside0.mk (Q_BK680_e13 hb13_)
  clear Q_BK680_e13
  clear hall hb1_ hb3_ hb4_ hb6_ hb8_ hb9_ hb10_ hb11_ hb12_ hb13_
  try go_wp2
  replace BK672 := bd BK672
  replace BK673 := bd BK673
  replace BK674 := bd BK674
  replace BK679 := bd BK679
  replace BK680 := bd BK680
  replace HB := bdn HB
  refine start_ (n := 14) (S := fun w' => w'.cell? ⟨gb672, 0, none⟩ = some (.int .i64 a0_0) ∧ w'.cell? ⟨gb672, 1, none⟩ = some (.int .i64 a0_1) ∧ w'.cell? ⟨gb672, 2, none⟩ = some (.int .i64 a0_2) ∧ w'.cell? ⟨gb679, 0, none⟩ = some (.int .i64 t675) ∧ w'.cell? ⟨gb679, 1, none⟩ = some (.int .i64 t676) ∧ w'.cell? ⟨gb680, 0, none⟩ = some (.int .i64 t677) ∧ w'.cell? ⟨gb680, 1, none⟩ = some (.int .i64 t678)) (ds := []) #[false, false, false, false, false, false, false, false, false, false, false, false, false, false] (by kernel_rfl) rfl rfl ⟨(blk_cell BK672.out 0).trans rfl, (blk_cell BK672.out 1).trans rfl, (blk_cell BK672.out 2).trans rfl, (blk_cell BK679.out 0).trans rfl, (blk_cell BK679.out 1).trans rfl, (blk_cell BK680.out 0).trans rfl, (blk_cell BK680.out 1).trans rfl⟩ (fun hHeld => ?_); refine with_tabW torchonlaw06_lead.tab2 torchonlaw06_lead.bits2 (fun HT_ HW_ => ?_)
  generalize w20.drew = w21 at BK672 BK673 BK674 BK679 BK680 HB hHeld ⊢
  refine tz 0 17 HT_ HW_ hHeld ?_
  refine tz 1 18 HT_ HW_ hHeld ?_
  refine tz 2 19 HT_ HW_ hHeld ?_
  refine tz 4 21 HT_ HW_ hHeld ?_
  refine tz 5 22 HT_ HW_ hHeld ?_
  refine tz 6 23 HT_ HW_ hHeld ?_
  refine tz 8 25 HT_ HW_ hHeld ?_
  refine tz 9 26 HT_ HW_ hHeld ?_
  refine tz 10 27 HT_ HW_ hHeld ?_
  refine one_ (i := 3) (N := some 20) #[true, true, true, true, true, true, true, false, true, true, true, false, false, false] rfl rfl (one_of HT_.out (by kernel_rfl)) (by decide) (fun K hK => ?_)
  refine gs _ Try.func48 (torchonref06_Product.calls a0_0 a0_1 a0_2 t675 t676 t675 t676 t681 _ A5.out) ?_
  rintro e w22 ⟨rfl, hb⟩
  refine ⟨_, rfl, ?_⟩
  replace BK672 := bb BK672 hb
  replace BK673 := bb BK673 hb
  replace BK674 := bb BK674 hb
  replace BK679 := bb BK679 hb
  replace BK680 := bb BK680 hb
  replace HB := bst HB hb
  (try clear hb)
  (try clear hb2)
  (try clear hk)
  (try clear hi)
  refine hK.out _ _ ⟨(blk_cell BK672.out 0).trans rfl, (blk_cell BK672.out 1).trans rfl, (blk_cell BK672.out 2).trans rfl, (blk_cell BK679.out 0).trans rfl, (blk_cell BK679.out 1).trans rfl, (blk_cell BK680.out 0).trans rfl, (blk_cell BK680.out 1).trans rfl⟩ (fun hHeld => ?_)
  clear hK K
  refine norm_ (a' := ?_) ?_ ?_
  rotate_left
  · show Act.put _ (some 20) _ = _
    simp only [Act.put, List.setIfInBounds_toArray, List.set_cons_zero, List.set_cons_succ, i64_w, i32_w]
    rfl
  refine one_ (i := 7) (N := some 24) #[true, true, true, true, true, true, true, true, true, true, true, false, false, false] rfl rfl (one_of HT_.out (by kernel_rfl)) (by decide) (fun K hK => ?_)
  refine gs _ Try.func48 (torchonref06_Product.calls a0_0 a0_1 a0_2 t675 t676 t677 t678 t682 _ A6.out) ?_
  rintro e w23 ⟨rfl, hb⟩
  refine ⟨_, rfl, ?_⟩
  replace BK672 := bb BK672 hb
  replace BK673 := bb BK673 hb
  replace BK674 := bb BK674 hb
  replace BK679 := bb BK679 hb
  replace BK680 := bb BK680 hb
  replace HB := bst HB hb
  (try clear hb)
  (try clear hb2)
  (try clear hk)
  (try clear hi)
  refine hK.out _ _ ⟨(blk_cell BK672.out 0).trans rfl, (blk_cell BK672.out 1).trans rfl, (blk_cell BK672.out 2).trans rfl, (blk_cell BK679.out 0).trans rfl, (blk_cell BK679.out 1).trans rfl, (blk_cell BK680.out 0).trans rfl, (blk_cell BK680.out 1).trans rfl⟩ (fun hHeld => ?_)
  clear hK K
  refine norm_ (a' := ?_) ?_ ?_
  rotate_left
  · show Act.put _ (some 24) _ = _
    simp only [Act.put, List.setIfInBounds_toArray, List.set_cons_zero, List.set_cons_succ, i64_w, i32_w]
    rfl
  refine one_ (i := 11) (N := some 28) #[true, true, true, true, true, true, true, true, true, true, true, true, false, false] rfl rfl (one_of HT_.out (by kernel_rfl)) (by decide) (fun K hK => ?_)
  refine gs _ Try.func48 (torchonref06_Product.calls a0_0 a0_1 a0_2 t677 t678 t677 t678 t683 _ A7.out) ?_
  rintro e w24 ⟨rfl, hb⟩
  refine ⟨_, rfl, ?_⟩
  replace BK672 := bb BK672 hb
  replace BK673 := bb BK673 hb
  replace BK674 := bb BK674 hb
  replace BK679 := bb BK679 hb
  replace BK680 := bb BK680 hb
  replace HB := bst HB hb
  (try clear hb)
  (try clear hb2)
  (try clear hk)
  (try clear hi)
  refine hK.out _ _ ⟨(blk_cell BK672.out 0).trans rfl, (blk_cell BK672.out 1).trans rfl, (blk_cell BK672.out 2).trans rfl, (blk_cell BK679.out 0).trans rfl, (blk_cell BK679.out 1).trans rfl, (blk_cell BK680.out 0).trans rfl, (blk_cell BK680.out 1).trans rfl⟩ (fun hHeld => ?_)
  clear hK K
  refine norm_ (a' := ?_) ?_ ?_
  rotate_left
  · show Act.put _ (some 28) _ = _
    simp only [Act.put, List.setIfInBounds_toArray, List.set_cons_zero, List.set_cons_succ, i64_w, i32_w]
    rfl
  refine pz 12 29 HT_ ?_
  refine one_ (i := 13) (N := none) #[true, true, true, true, true, true, true, true, true, true, true, true, true, true] rfl rfl (one_of HT_.out (by kernel_rfl)) (by decide) (fun K hK => ?_)
  have hs25 : w24.cell? ⟨gb674, 0, none⟩ = some (.int .i64 0) := (blk_cell BK674.out 0).trans rfl
  have hfs25 := blk_frozen BK674.out 0
  have hns25_0 := NB672_674.out
  have hns25_1 := NB673_674.out
  have hns25_3 := NB679_674.out
  have hns25_4 := NB680_674.out
  have hms25_0 := NB674_672.out
  have hms25_1 := NB674_673.out
  have hms25_3 := NB674_679.out
  have hms25_4 := NB674_680.out
  have hs26 : w24.cell? ⟨gb674, 1, none⟩ = some (.int .i64 0) := (blk_cell BK674.out 1).trans rfl
  have hfs26 := blk_frozen BK674.out 1
  have hns26_0 := NB672_674.out
  have hns26_1 := NB673_674.out
  have hns26_3 := NB679_674.out
  have hns26_4 := NB680_674.out
  have hms26_0 := NB674_672.out
  have hms26_1 := NB674_673.out
  have hms26_3 := NB674_679.out
  have hms26_4 := NB674_680.out
  have hs27 : w24.cell? ⟨gb674, 2, none⟩ = some (.int .i64 0) := (blk_cell BK674.out 2).trans rfl
  have hfs27 := blk_frozen BK674.out 2
  have hns27_0 := NB672_674.out
  have hns27_1 := NB673_674.out
  have hns27_3 := NB679_674.out
  have hns27_4 := NB680_674.out
  have hms27_0 := NB674_672.out
  have hms27_1 := NB674_673.out
  have hms27_3 := NB674_679.out
  have hms27_4 := NB674_680.out
  refine skip_ (w1 := ?_) (by rfl) rfl ?_ ?_
  rotate_left
  · go_simp
    rfl
  refine hK.out _ _ ⟨((cell_far (p := ⟨gb674, _, none⟩) NB672_674.out _).trans (((cell_far (p := ⟨gb674, _, none⟩) NB672_674.out _).trans (((cell_far (p := ⟨gb674, _, none⟩) NB672_674.out _).trans (hHeld.1)))))), ((cell_far (p := ⟨gb674, _, none⟩) NB672_674.out _).trans (((cell_far (p := ⟨gb674, _, none⟩) NB672_674.out _).trans (((cell_far (p := ⟨gb674, _, none⟩) NB672_674.out _).trans (hHeld.2.1)))))), ((cell_far (p := ⟨gb674, _, none⟩) NB672_674.out _).trans (((cell_far (p := ⟨gb674, _, none⟩) NB672_674.out _).trans (((cell_far (p := ⟨gb674, _, none⟩) NB672_674.out _).trans (hHeld.2.2.1)))))), ((cell_far (p := ⟨gb674, _, none⟩) NB679_674.out _).trans (((cell_far (p := ⟨gb674, _, none⟩) NB679_674.out _).trans (((cell_far (p := ⟨gb674, _, none⟩) NB679_674.out _).trans (hHeld.2.2.2.1)))))), ((cell_far (p := ⟨gb674, _, none⟩) NB679_674.out _).trans (((cell_far (p := ⟨gb674, _, none⟩) NB679_674.out _).trans (((cell_far (p := ⟨gb674, _, none⟩) NB679_674.out _).trans (hHeld.2.2.2.2.1)))))), ((cell_far (p := ⟨gb674, _, none⟩) NB680_674.out _).trans (((cell_far (p := ⟨gb674, _, none⟩) NB680_674.out _).trans (((cell_far (p := ⟨gb674, _, none⟩) NB680_674.out _).trans (hHeld.2.2.2.2.2.1)))))), ((cell_far (p := ⟨gb674, _, none⟩) NB680_674.out _).trans (((cell_far (p := ⟨gb674, _, none⟩) NB680_674.out _).trans (((cell_far (p := ⟨gb674, _, none⟩) NB680_674.out _).trans (hHeld.2.2.2.2.2.2))))))⟩ (fun hHeld => ?_)
  clear hK K
  refine done_ (done_of HT_.out (by kernel_rfl)) ?_
  try go_wp2
  refine bodyPost_ret (results_cell_row rfl _ _ gb674 23 #[.int .i64 t681, .int .i64 t682, .int .i64 t683] (0, 0) _ rfl (by (with_reducible repeat (first | refine blk_drewN ?_ _ | refine blk_drew ?_ | refine blk_alloc ?_ _)); refine blk_put (cs := #[.int .i64 t681, .int .i64 t682, .int .i64 0]) ?_ 2 _ rfl; (with_reducible repeat (first | refine blk_drewN ?_ _ | refine blk_drew ?_ | refine blk_alloc ?_ _)); refine blk_put (cs := #[.int .i64 t681, .int .i64 0, .int .i64 0]) ?_ 1 _ rfl; (with_reducible repeat (first | refine blk_drewN ?_ _ | refine blk_drew ?_ | refine blk_alloc ?_ _)); refine blk_put (cs := #[.int .i64 0, .int .i64 0, .int .i64 0]) ?_ 0 _ rfl; (with_reducible repeat (first | refine blk_drewN ?_ _ | refine blk_drew ?_ | refine blk_alloc ?_ _)); exact BK674.out) Try.underlying23 rfl (by kernel_rfl)) rfl ?_
  exact rt HB
end
end Go.Proofs.Ytmcajdepoohlhaa.G
