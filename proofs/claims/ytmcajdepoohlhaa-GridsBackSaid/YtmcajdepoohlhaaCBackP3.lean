/- Functions of the program as plain Lean functions, and their contracts (printed by a program of this session). No condition beyond what each states. -/
import Derived.Test.YtmcajdepoohlhaaCBackY
import Derived.Test.YtmcajdepoohlhaaCBackP0
import Derived.Test.YtmcajdepoohlhaaCBackP2
namespace Go.Proofs.Ytmcajdepoohlhaa.G
open Go.RowKit Go.Proofs.YtmcajdepoohlhaaW.PrintWords Go.Proofs.YtmcajdepoohlhaaW.PrintLast Go.Proofs.YtmcajdepoohlhaaW.PrintMore
attribute [local go_sem] max2_int min2_int max_two min_two max_three min_three max_four min_four
set_option linter.unusedVariables false
set_option linter.unusedSimpArgs false
section
/-! ### grids_Compose: function 29 -/
def grids_Compose.j0 : Nat → Bool → Int → Int → Int → Int → Int → Int → Int → Int → Int → Int → Int → Int → Option (Int × Int × Int × Int × Int × Int × Int)
  | 0, _, _, _, _, _, _, _, _, _, _, _, _, _ => none
  | k + 1, x13, x874000, x874001, x874002, x874003, x874004, x874005, x875000, x875001, x875002, x875003, x875004, x875005 => if x13 = true then (some (0, 0, 0, 0, 0, 0, 2)) else ((grids_times.f x874000 x874001 x874002 x874003 x875000 x875001 x875002 x875003).bind fun bt878 => ((grids_image.f x874000 x874001 x874002 x874003 x874004 x874005 x875004 x875005).bind fun bt882 => ((grids_valid.f k bt878.1 bt878.2.1 bt878.2.2.1 bt878.2.2.2 bt882.1 bt882.2).bind fun bt884 => (some (bt884.1, bt884.2.1, bt884.2.2.1, bt884.2.2.2.1, bt884.2.2.2.2.1, bt884.2.2.2.2.2.1, bt884.2.2.2.2.2.2)))))
def grids_Compose.f (k : Nat) (a0_0 : Int) (a0_1 : Int) (a0_2 : Int) (a0_3 : Int) (a0_4 : Int) (a0_5 : Int) (a1_0 : Int) (a1_1 : Int) (a1_2 : Int) (a1_3 : Int) (a1_4 : Int) (a1_5 : Int) : Option (Int × Int × Int × Int × Int × Int × Int) := (grids_move.f k a0_0 a0_1 a0_2 a0_3 a0_4 a0_5).bind fun t876 => (if t876 = true then ((grids_move.f k a1_0 a1_1 a1_2 a1_3 a1_4 a1_5).bind fun t877 => (grids_Compose.j0 k (!t877) a0_0 a0_1 a0_2 a0_3 a0_4 a0_5 a1_0 a1_1 a1_2 a1_3 a1_4 a1_5)) else (grids_Compose.j0 k true a0_0 a0_1 a0_2 a0_3 a0_4 a0_5 a1_0 a1_1 a1_2 a1_3 a1_4 a1_5))
theorem grids_Compose.mono_l : ∀ k, (∀ y0 y1 y2 y3 y4 y5 y6 y7 y8 y9 y10 y11 y12, LeO (grids_Compose.j0 k y0 y1 y2 y3 y4 y5 y6 y7 y8 y9 y10 y11 y12) (grids_Compose.j0 (k + 1) y0 y1 y2 y3 y4 y5 y6 y7 y8 y9 y10 y11 y12))
  | 0 => fun _ _ _ _ _ _ _ _ _ _ _ _ _ r h => by simp [grids_Compose.j0] at h
  | k + 1 => by
    have ih0 := grids_Compose.mono_l k
    · intro y0 y1 y2 y3 y4 y5 y6 y7 y8 y9 y10 y11 y12
      unfold grids_Compose.j0
      repeat' first
      | (with_reducible exact ih0 _ _ _ _ _ _ _ _ _ _ _ _ _)
      | (with_reducible exact grids_move.mono _ _ _ _ _ _ _)
      | (with_reducible exact grids_valid.mono _ _ _ _ _ _ _)
      | (with_reducible exact LeO.refl _)
      | (with_reducible exact LeO.none _)
      | (with_reducible refine LeO.ite ?_ ?_)
      | (with_reducible refine LeO.bind ?_ (fun _ => ?_))
      | exact ih0 _ _ _ _ _ _ _ _ _ _ _ _ _
      | exact grids_move.mono _ _ _ _ _ _ _
      | exact grids_valid.mono _ _ _ _ _ _ _
      | exact LeO.none _
      | refine LeO.ite ?_ ?_
      | refine LeO.bind ?_ (fun _ => ?_)
theorem grids_Compose.mono : ∀ a0 a1 a2 a3 a4 a5 a6 a7 a8 a9 a10 a11 k, LeO (grids_Compose.f k a0 a1 a2 a3 a4 a5 a6 a7 a8 a9 a10 a11) (grids_Compose.f (k + 1) a0 a1 a2 a3 a4 a5 a6 a7 a8 a9 a10 a11) := by
  intro a0 a1 a2 a3 a4 a5 a6 a7 a8 a9 a10 a11 k
  have ih0 := grids_Compose.mono_l k
  unfold grids_Compose.f
  repeat' first
      | (with_reducible exact ih0 _ _ _ _ _ _ _ _ _ _ _ _ _)
      | (with_reducible exact grids_move.mono _ _ _ _ _ _ _)
      | (with_reducible exact grids_valid.mono _ _ _ _ _ _ _)
      | (with_reducible exact LeO.refl _)
      | (with_reducible exact LeO.none _)
      | (with_reducible refine LeO.ite ?_ ?_)
      | (with_reducible refine LeO.bind ?_ (fun _ => ?_))
      | exact ih0 _ _ _ _ _ _ _ _ _ _ _ _ _
      | exact grids_move.mono _ _ _ _ _ _ _
      | exact grids_valid.mono _ _ _ _ _ _ _
      | exact LeO.none _
      | refine LeO.ite ?_ ?_
      | refine LeO.bind ?_ (fun _ => ?_)
def grids_Compose.T3 : Bool × List (List Nat × List Nat) := (true, [([], []), ([0], [0]), ([], []), ([2], [2]), ([1, 3], [1, 3]), ([], []), ([], []), ([6], [6]), ([5, 7, 4], [5, 7]), ([4, 8], [4, 8]), ([9, 8], [9]), ([10], [10]), ([10], [10]), ([11, 10, 0, 1, 2, 3, 4, 5, 6, 7, 8, 9, 10, 11, 12], [11]), ([12, 13, 0, 1, 2, 3, 4, 5, 6, 7, 8, 9, 10, 11, 12, 13], [12])])
def grids_Compose.B3 : List Nat := [0, 1, 0, 4, 15, 0, 0, 64, 255, 511, 1023, 2047, 2047, 8191, 16383]
theorem grids_Compose.tab3 : rtab .any (opsOf Try.f29 3) = grids_Compose.T3 := by kernel_rfl
theorem grids_Compose.bits3 : waitsOk grids_Compose.T3.2 grids_Compose.B3 = true := by kernel_rfl
set_option maxHeartbeats 8000000 in
set_option maxRecDepth 100000 in
theorem grids_Compose.calls (k : Nat) (a0_0 : Int) (a0_1 : Int) (a0_2 : Int) (a0_3 : Int) (a0_4 : Int) (a0_5 : Int) (a1_0 : Int) (a1_1 : Int) (a1_2 : Int) (a1_3 : Int) (a1_4 : Int) (a1_5 : Int) (r1 : Int) (r2 : Int) (r3 : Int) (r4 : Int) (r5 : Int) (r6 : Int) (r7 : Int) (w : World) (h : grids_Compose.f k a0_0 a0_1 a0_2 a0_3 a0_4 a0_5 a1_0 a1_1 a1_2 a1_3 a1_4 a1_5 = some (r1, r2, r3, r4, r5, r6, r7)) :
    Calls Try.prog 29 #[.agg #[.int .i64 a0_0, .int .i64 a0_1, .int .i64 a0_2, .int .i64 a0_3, .int .i64 a0_4, .int .i64 a0_5], .agg #[.int .i64 a1_0, .int .i64 a1_1, .int .i64 a1_2, .int .i64 a1_3, .int .i64 a1_4, .int .i64 a1_5]] w fun e w' => e = .returned (.tuple #[.agg #[.int .i64 r1, .int .i64 r2, .int .i64 r3, .int .i64 r4, .int .i64 r5, .int .i64 r6], .int .i64 r7]) ∧ Below w.heap.size w w' := by
  have hu55 := Try.underlying55
  have hu25 := Try.underlying25
  have hu37 := Try.underlying37
  have HB := Aside0.mk (Below.refl w.heap.size w)
  have H : ((grids_move.f k a0_0 a0_1 a0_2 a0_3 a0_4 a0_5).bind fun t876 => (if t876 = true then ((grids_move.f k a1_0 a1_1 a1_2 a1_3 a1_4 a1_5).bind fun t877 => (grids_Compose.j0 k (!t877) a0_0 a0_1 a0_2 a0_3 a0_4 a0_5 a1_0 a1_1 a1_2 a1_3 a1_4 a1_5)) else (grids_Compose.j0 k true a0_0 a0_1 a0_2 a0_3 a0_4 a0_5 a1_0 a1_1 a1_2 a1_3 a1_4 a1_5))) = some (r1, r2, r3, r4, r5, r6, r7) := h
  clear h
  have HC3 := Aside0.mk H
  clear H
  go_enter Try.func29, Try.ntmps29
  go_upto_region 1 with (first | ((with_reducible refine gate_dst (N := 2) rfl ?_); refine bx 2 #[.int .i64 a0_0, .int .i64 a0_1, .int .i64 a0_2, .int .i64 a0_3, .int .i64 a0_4, .int .i64 a0_5] 55 fun gb873 hg w4 BK873 hb => ?_; have GW873 := gw hg HB; have GE873 := gw hg HB; replace HB := bst HB hb; clear hb hg) | ((with_reducible refine gate_dst (N := 3) rfl ?_); refine bx 3 #[.int .i64 a1_0, .int .i64 a1_1, .int .i64 a1_2, .int .i64 a1_3, .int .i64 a1_4, .int .i64 a1_5] 55 fun gb874 hg w5 BK874 hb => ?_; have GW874 := gw hg HB; have GE874 := gw hg HB; have NB873_874 := nlt hg BK873; have NB874_873 := ngt hg BK873; replace BK873 := bb BK873 hb; replace HB := bst HB hb; clear hb hg) | ((with_reducible refine gate_dst (N := 4) rfl ?_); refine bx 4 #[.int .i64 0, .int .i64 0, .int .i64 0, .int .i64 0, .int .i64 0, .int .i64 0] 55 fun gb875 hg w6 BK875 hb => ?_; have GW875 := gw hg HB; have GE875 := gw hg HB; have NB873_875 := nlt hg BK873; have NB875_873 := ngt hg BK873; have NB874_875 := nlt hg BK874; have NB875_874 := ngt hg BK874; replace BK873 := bb BK873 hb; replace BK874 := bb BK874 hb; replace HB := bst HB hb; clear hb hg))
  (try simp only [Act.put, List.setIfInBounds_toArray, List.set_cons_zero, List.set_cons_succ])
  go_cut [13] (fun v13 wc => ∃ (kq : Nat) (x13_2 : Bool), v13 = .bool x13_2 ∧ Aside0 (grids_Compose.j0 kq x13_2 a0_0 a0_1 a0_2 a0_3 a0_4 a0_5 a1_0 a1_1 a1_2 a1_3 a1_4 a1_5 = some (r1, r2, r3, r4, r5, r6, r7)) ∧ Aside0 (kq ≤ k) ∧ Aside0 (wc.heap[gb873]? = some (.cells #[.int .i64 a0_0, .int .i64 a0_1, .int .i64 a0_2, .int .i64 a0_3, .int .i64 a0_4, .int .i64 a0_5] 55 (0, 0))) ∧ Aside0 (wc.heap[gb874]? = some (.cells #[.int .i64 a1_0, .int .i64 a1_1, .int .i64 a1_2, .int .i64 a1_3, .int .i64 a1_4, .int .i64 a1_5] 55 (0, 0))) ∧ Aside0 (wc.heap[gb875]? = some (.cells #[.int .i64 0, .int .i64 0, .int .i64 0, .int .i64 0, .int .i64 0, .int .i64 0] 55 (0, 0))) ∧ Aside0 (Below w.heap.size w wc))
  case first =>
    have H := HC3.out
    clear HC3
    replace H := Option.bind_eq_some_iff.mp H
    obtain ⟨t876, A70, H⟩ := H
    replace H : (if t876 = true then ((grids_move.f k a1_0 a1_1 a1_2 a1_3 a1_4 a1_5).bind fun t877 => (grids_Compose.j0 k (!t877) a0_0 a0_1 a0_2 a0_3 a0_4 a0_5 a1_0 a1_1 a1_2 a1_3 a1_4 a1_5)) else (grids_Compose.j0 k true a0_0 a0_1 a0_2 a0_3 a0_4 a0_5 a1_0 a1_1 a1_2 a1_3 a1_4 a1_5)) = some (r1, r2, r3, r4, r5, r6, r7) := H
    have A7 := Aside0.mk A70
    clear A70
    by_cases c8 : t876 = true
    · subst c8
      have H1 : ((grids_move.f k a1_0 a1_1 a1_2 a1_3 a1_4 a1_5).bind fun t877 => (grids_Compose.j0 k (!t877) a0_0 a0_1 a0_2 a0_3 a0_4 a0_5 a1_0 a1_1 a1_2 a1_3 a1_4 a1_5)) = some (r1, r2, r3, r4, r5, r6, r7) := by rw [if_pos rfl] at H; exact H
      clear H
      have H := H1
      clear H1
      replace H := Option.bind_eq_some_iff.mp H
      obtain ⟨t877, A90, H⟩ := H
      replace H : (grids_Compose.j0 k (!t877) a0_0 a0_1 a0_2 a0_3 a0_4 a0_5 a1_0 a1_1 a1_2 a1_3 a1_4 a1_5) = some (r1, r2, r3, r4, r5, r6, r7) := H
      have A9 := Aside0.mk A90
      clear A90
      have H' := Aside0.mk H
      clear H
      have hnb10 := NB873_874.out
      have hnc10 := NB874_873.out
      have hnb11 := NB873_875.out
      have hnc11 := NB875_873.out
      have ⟨hcz12_0, hcz12_1, hcz12_2, hcz12_3, hcz12_4, hcz12_5, hfz12_0, hfz12_1, hfz12_2, hfz12_3, hfz12_4, hfz12_5⟩ := cf6 BK873
      go_wp2_with (first | ((with_reducible refine gate_callee (f := 62) rfl ?_); refine gl 7 Try.func62 (grids_move.calls k a0_0 a0_1 a0_2 a0_3 a0_4 a0_5 true _ A7.out) ?_; rintro e w13 ⟨rfl, hb⟩; refine ⟨_, rfl, ?_⟩; replace BK873 := bb BK873 hb; replace BK874 := bb BK874 hb; replace BK875 := bb BK875 hb; replace HB := bst HB hb; clear hb; have hnb14 := NB874_875.out; have hnc14 := NB875_874.out; have ⟨hcz15_0, hcz15_1, hcz15_2, hcz15_3, hcz15_4, hcz15_5, hfz15_0, hfz15_1, hfz15_2, hfz15_3, hfz15_4, hfz15_5⟩ := cf6 BK874) | (go_at_call 62; (with_reducible refine (grids_move.calls k a1_0 a1_1 a1_2 a1_3 a1_4 a1_5 t877 _ A9.out).mono ?_); rintro e w16 ⟨rfl, hb⟩; replace BK873 := bb BK873 hb; replace BK874 := bb BK874 hb; replace BK875 := bb BK875 hb; replace HB := bst HB hb; clear hb))
      go_meet
      case rel => exact ⟨_, (!t877), (by first | rfl | (simp; done) | (simp [*]; done)), H', ⟨by first | omega | exact Nat.le_refl _⟩, ⟨pk BK873⟩, ⟨pk BK874⟩, ⟨pk BK875⟩, ⟨bnow HB⟩⟩
    · replace c8 := Bool.eq_false_iff.mpr c8
      subst c8
      have H1 : (grids_Compose.j0 k true a0_0 a0_1 a0_2 a0_3 a0_4 a0_5 a1_0 a1_1 a1_2 a1_3 a1_4 a1_5) = some (r1, r2, r3, r4, r5, r6, r7) := by rw [if_neg (show ¬ (false = true) by decide)] at H; exact H
      clear H
      have H := H1
      clear H1
      have H' := Aside0.mk H
      clear H
      have hnb17 := NB873_874.out
      have hnc17 := NB874_873.out
      have hnb18 := NB873_875.out
      have hnc18 := NB875_873.out
      have ⟨hcz19_0, hcz19_1, hcz19_2, hcz19_3, hcz19_4, hcz19_5, hfz19_0, hfz19_1, hfz19_2, hfz19_3, hfz19_4, hfz19_5⟩ := cf6 BK873
      go_wp2_with (first | ((with_reducible refine gate_callee (f := 62) rfl ?_); refine gl 7 Try.func62 (grids_move.calls k a0_0 a0_1 a0_2 a0_3 a0_4 a0_5 false _ A7.out) ?_; rintro e w20 ⟨rfl, hb⟩; refine ⟨_, rfl, ?_⟩; replace BK873 := bb BK873 hb; replace BK874 := bb BK874 hb; replace BK875 := bb BK875 hb; replace HB := bst HB hb; clear hb))
      go_meet
      case rel => exact ⟨_, (true), (by first | rfl | (simp; done) | (simp [*]; done)), H', ⟨by first | omega | exact Nat.le_refl _⟩, ⟨pk BK873⟩, ⟨pk BK874⟩, ⟨pk BK875⟩, ⟨bnow HB⟩⟩
  case rest =>
    clear HC3
    try clear c1; try clear c2; try clear p2; try clear c6; try clear c8; try clear c10; try clear c11; try clear c14; try clear c17; try clear c18; try clear hcz12_0; try clear hcz12_1; try clear hcz12_2; try clear hcz12_3; try clear hcz12_4; try clear hcz12_5; try clear hcz15_0; try clear hcz15_1; try clear hcz15_2; try clear hcz15_3; try clear hcz15_4; try clear hcz15_5; try clear hcz19_0; try clear hcz19_1; try clear hcz19_2; try clear hcz19_3; try clear hcz19_4; try clear hcz19_5; try clear hfz12_0; try clear hfz12_1; try clear hfz12_2; try clear hfz12_3; try clear hfz12_4; try clear hfz12_5; try clear hfz15_0; try clear hfz15_1; try clear hfz15_2; try clear hfz15_3; try clear hfz15_4; try clear hfz15_5; try clear hfz19_0; try clear hfz19_1; try clear hfz19_2; try clear hfz19_3; try clear hfz19_4; try clear hfz19_5
    obtain ⟨kq, x13_2, rfl, HA, HJ2, BK873, BK874, BK875, HB⟩ := hcut
    cases kq with
    | zero => exact absurd HA.out (by simp [grids_Compose.j0])
    | succ kj2 =>
      have H := HA.out
      clear HA
      simp only [grids_Compose.j0] at H
      by_cases c21 : x13_2 = true
      · subst c21
        have H1 : (some (0, 0, 0, 0, 0, 0, 2)) = some (r1, r2, r3, r4, r5, r6, r7) := by rw [if_pos rfl] at H; exact H
        clear H
        have H := H1
        clear H1
        simp only [Option.some.injEq, Prod.mk.injEq] at H
        obtain ⟨rfl, rfl, rfl, rfl, rfl, rfl, rfl⟩ := H
        have hnb22 := NB875_873.out
        have hnc22 := NB873_875.out
        have hnb23 := NB875_874.out
        have hnc23 := NB874_875.out
        have ⟨hcz24_0, hcz24_1, hcz24_2, hcz24_3, hcz24_4, hcz24_5, hfz24_0, hfz24_1, hfz24_2, hfz24_3, hfz24_4, hfz24_5⟩ := cf6 BK875
        go_wp2_with (first | ((with_reducible refine gate_store (t := 55) (p := 4) rfl ?_); refine sx 55 4 (((((((wc.setCell ⟨gb875, 0, none⟩ (.int .i64 0)).setCell ⟨gb875, 1, none⟩ (.int .i64 0)).setCell ⟨gb875, 2, none⟩ (.int .i64 0)).setCell ⟨gb875, 3, none⟩ (.int .i64 0)).setCell ⟨gb875, 4, none⟩ (.int .i64 0)).setCell ⟨gb875, 5, none⟩ (.int .i64 0))) fun w25 hw => ?_; replace BK873 := fw hw BK873; replace BK874 := fw hw BK874; replace BK875 := pw6 hw BK875; replace HB := bw hw HB; clear hw))
        refine bodyPost_ret (results_ct rfl _ _ gb875 55 #[.int .i64 0, .int .i64 0, .int .i64 0, .int .i64 0, .int .i64 0, .int .i64 0] (0, 0) _ rfl (pk BK875) Try.underlying55 rfl (by kernel_rfl)) rfl ?_
        exact rt HB
      · replace c21 := Bool.eq_false_iff.mpr c21
        subst c21
        have H1 : ((grids_times.f a0_0 a0_1 a0_2 a0_3 a1_0 a1_1 a1_2 a1_3).bind fun bt878 => ((grids_image.f a0_0 a0_1 a0_2 a0_3 a0_4 a0_5 a1_4 a1_5).bind fun bt882 => ((grids_valid.f kj2 bt878.1 bt878.2.1 bt878.2.2.1 bt878.2.2.2 bt882.1 bt882.2).bind fun bt884 => (some (bt884.1, bt884.2.1, bt884.2.2.1, bt884.2.2.2.1, bt884.2.2.2.2.1, bt884.2.2.2.2.2.1, bt884.2.2.2.2.2.2))))) = some (r1, r2, r3, r4, r5, r6, r7) := by rw [if_neg (show ¬ (false = true) by decide)] at H; exact H
        clear H
        have H := H1
        clear H1
        replace H := Option.bind_eq_some_iff.mp H
        obtain ⟨⟨t878, t879, t880, t881⟩, A260, H⟩ := H
        replace H : ((grids_image.f a0_0 a0_1 a0_2 a0_3 a0_4 a0_5 a1_4 a1_5).bind fun bt882 => ((grids_valid.f kj2 t878 t879 t880 t881 bt882.1 bt882.2).bind fun bt884 => (some (bt884.1, bt884.2.1, bt884.2.2.1, bt884.2.2.2.1, bt884.2.2.2.2.1, bt884.2.2.2.2.2.1, bt884.2.2.2.2.2.2)))) = some (r1, r2, r3, r4, r5, r6, r7) := H
        have A26 := Aside0.mk A260
        clear A260
        replace H := Option.bind_eq_some_iff.mp H
        obtain ⟨⟨t882, t883⟩, A270, H⟩ := H
        replace H : ((grids_valid.f kj2 t878 t879 t880 t881 t882 t883).bind fun bt884 => (some (bt884.1, bt884.2.1, bt884.2.2.1, bt884.2.2.2.1, bt884.2.2.2.2.1, bt884.2.2.2.2.2.1, bt884.2.2.2.2.2.2))) = some (r1, r2, r3, r4, r5, r6, r7) := H
        have A27 := Aside0.mk A270
        clear A270
        replace H := Option.bind_eq_some_iff.mp H
        obtain ⟨⟨t884, t885, t886, t887, t888, t889, t890⟩, A280, H⟩ := H
        replace H : (some (t884, t885, t886, t887, t888, t889, t890)) = some (r1, r2, r3, r4, r5, r6, r7) := H
        have A28 := Aside0.mk A280
        clear A280
        simp only [Option.some.injEq, Prod.mk.injEq] at H
        obtain ⟨rfl, rfl, rfl, rfl, rfl, rfl, rfl⟩ := H
        try go_wp2
        replace BK873 := bd BK873
        replace BK874 := bd BK874
        replace BK875 := bd BK875
        replace HB := bdn HB
        refine start_ (n := 15) (S := fun w' => w'.cell? ⟨gb873, 0, none⟩ = some (.int .i64 a0_0) ∧ w'.cell? ⟨gb873, 1, none⟩ = some (.int .i64 a0_1) ∧ w'.cell? ⟨gb873, 2, none⟩ = some (.int .i64 a0_2) ∧ w'.cell? ⟨gb873, 3, none⟩ = some (.int .i64 a0_3) ∧ w'.cell? ⟨gb873, 4, none⟩ = some (.int .i64 a0_4) ∧ w'.cell? ⟨gb873, 5, none⟩ = some (.int .i64 a0_5) ∧ w'.cell? ⟨gb874, 0, none⟩ = some (.int .i64 a1_0) ∧ w'.cell? ⟨gb874, 1, none⟩ = some (.int .i64 a1_1) ∧ w'.cell? ⟨gb874, 2, none⟩ = some (.int .i64 a1_2) ∧ w'.cell? ⟨gb874, 3, none⟩ = some (.int .i64 a1_3) ∧ w'.cell? ⟨gb874, 4, none⟩ = some (.int .i64 a1_4) ∧ w'.cell? ⟨gb874, 5, none⟩ = some (.int .i64 a1_5)) (ds := []) #[false, false, false, false, false, false, false, false, false, false, false, false, false, false, false] (by kernel_rfl) rfl rfl ⟨(blk_cell BK873.out 0).trans rfl, (blk_cell BK873.out 1).trans rfl, (blk_cell BK873.out 2).trans rfl, (blk_cell BK873.out 3).trans rfl, (blk_cell BK873.out 4).trans rfl, (blk_cell BK873.out 5).trans rfl, (blk_cell BK874.out 0).trans rfl, (blk_cell BK874.out 1).trans rfl, (blk_cell BK874.out 2).trans rfl, (blk_cell BK874.out 3).trans rfl, (blk_cell BK874.out 4).trans rfl, (blk_cell BK874.out 5).trans rfl⟩ (fun hHeld => ?_); refine with_tabW grids_Compose.tab3 grids_Compose.bits3 (fun HT_ HW_ => ?_)
        generalize wc.drew = w29 at BK873 BK874 BK875 HB hHeld ⊢
        refine pz 0 15 HT_ ?_
        refine pz 2 17 HT_ ?_
        refine pz 6 21 HT_ ?_
        refine tz 1 16 HT_ HW_ hHeld ?_
        refine tz 3 18 HT_ HW_ hHeld ?_
        refine tz 5 20 HT_ HW_ hHeld ?_
        refine tz 7 22 HT_ HW_ hHeld ?_
        refine one_ (i := 4) (N := some 19) #[true, true, true, true, true, true, true, true, false, false, false, false, false, false, false] rfl rfl (one_of HT_.out (by kernel_rfl)) (by decide) (fun K hK => ?_)
        refine gs _ Try.func40 (grids_times.calls a0_0 a0_1 a0_2 a0_3 a1_0 a1_1 a1_2 a1_3 t878 t879 t880 t881 _ A26.out) ?_
        rintro e w30 ⟨rfl, hb⟩
        refine ⟨_, rfl, ?_⟩
        replace BK873 := bb BK873 hb
        replace BK874 := bb BK874 hb
        replace BK875 := bb BK875 hb
        replace HB := bst HB hb
        (try clear hb)
        (try clear hb2)
        (try clear hk)
        (try clear hi)
        refine hK.out _ _ ⟨(blk_cell BK873.out 0).trans rfl, (blk_cell BK873.out 1).trans rfl, (blk_cell BK873.out 2).trans rfl, (blk_cell BK873.out 3).trans rfl, (blk_cell BK873.out 4).trans rfl, (blk_cell BK873.out 5).trans rfl, (blk_cell BK874.out 0).trans rfl, (blk_cell BK874.out 1).trans rfl, (blk_cell BK874.out 2).trans rfl, (blk_cell BK874.out 3).trans rfl, (blk_cell BK874.out 4).trans rfl, (blk_cell BK874.out 5).trans rfl⟩ (fun hHeld => ?_)
        clear hK K
        refine norm_ (a' := ?_) ?_ ?_
        rotate_left
        · show Act.put _ (some 19) _ = _
          simp only [Act.put, List.setIfInBounds_toArray, List.set_cons_zero, List.set_cons_succ, i64_w, i32_w]
          rfl
        refine one_ (i := 8) (N := some 23) #[true, true, true, true, true, true, true, true, true, false, false, false, false, false, false] rfl rfl (one_of HT_.out (by kernel_rfl)) (by decide) (fun K hK => ?_)
        refine gs _ Try.func63 (grids_image.calls a0_0 a0_1 a0_2 a0_3 a0_4 a0_5 a1_4 a1_5 t882 t883 _ A27.out) ?_
        rintro e w31 ⟨rfl, hb⟩
        refine ⟨_, rfl, ?_⟩
        replace BK873 := bb BK873 hb
        replace BK874 := bb BK874 hb
        replace BK875 := bb BK875 hb
        replace HB := bst HB hb
        (try clear hb)
        (try clear hb2)
        (try clear hk)
        (try clear hi)
        refine hK.out _ _ ⟨(blk_cell BK873.out 0).trans rfl, (blk_cell BK873.out 1).trans rfl, (blk_cell BK873.out 2).trans rfl, (blk_cell BK873.out 3).trans rfl, (blk_cell BK873.out 4).trans rfl, (blk_cell BK873.out 5).trans rfl, (blk_cell BK874.out 0).trans rfl, (blk_cell BK874.out 1).trans rfl, (blk_cell BK874.out 2).trans rfl, (blk_cell BK874.out 3).trans rfl, (blk_cell BK874.out 4).trans rfl, (blk_cell BK874.out 5).trans rfl⟩ (fun hHeld => ?_)
        clear hK K
        refine norm_ (a' := ?_) ?_ ?_
        rotate_left
        · show Act.put _ (some 23) _ = _
          simp only [Act.put, List.setIfInBounds_toArray, List.set_cons_zero, List.set_cons_succ, i64_w, i32_w]
          rfl
        refine pz 9 24 HT_ ?_
        refine one_ (i := 10) (N := some 25) #[true, true, true, true, true, true, true, true, true, true, true, false, false, false, false] rfl rfl (one_of HT_.out (by kernel_rfl)) (by decide) (fun K hK => ?_)
        refine gs _ Try.func67 (grids_valid.calls kj2 t878 t879 t880 t881 t882 t883 t884 t885 t886 t887 t888 t889 t890 _ A28.out) ?_
        rintro e w32 ⟨rfl, hb⟩
        refine ⟨_, rfl, ?_⟩
        replace BK873 := bb BK873 hb
        replace BK874 := bb BK874 hb
        replace BK875 := bb BK875 hb
        replace HB := bst HB hb
        (try clear hb)
        (try clear hb2)
        (try clear hk)
        (try clear hi)
        refine hK.out _ _ ⟨(blk_cell BK873.out 0).trans rfl, (blk_cell BK873.out 1).trans rfl, (blk_cell BK873.out 2).trans rfl, (blk_cell BK873.out 3).trans rfl, (blk_cell BK873.out 4).trans rfl, (blk_cell BK873.out 5).trans rfl, (blk_cell BK874.out 0).trans rfl, (blk_cell BK874.out 1).trans rfl, (blk_cell BK874.out 2).trans rfl, (blk_cell BK874.out 3).trans rfl, (blk_cell BK874.out 4).trans rfl, (blk_cell BK874.out 5).trans rfl⟩ (fun hHeld => ?_)
        clear hK K
        refine norm_ (a' := ?_) ?_ ?_
        rotate_left
        · show Act.put _ (some 25) _ = _
          simp only [Act.put, List.setIfInBounds_toArray, List.set_cons_zero, List.set_cons_succ, i64_w, i32_w]
          rfl
        refine pz 11 26 HT_ ?_
        refine pz 12 27 HT_ ?_
        refine one_ (i := 13) (N := none) #[true, true, true, true, true, true, true, true, true, true, true, true, true, true, false] rfl rfl (one_of HT_.out (by kernel_rfl)) (by decide) (fun K hK => ?_)
        have hs33 : w32.cell? ⟨gb875, 0, none⟩ = some (.int .i64 0) := (blk_cell BK875.out 0).trans rfl
        have hfs33 := blk_frozen BK875.out 0
        have hns33_0 := NB873_875.out
        have hns33_1 := NB874_875.out
        have hms33_0 := NB875_873.out
        have hms33_1 := NB875_874.out
        have hs34 : w32.cell? ⟨gb875, 1, none⟩ = some (.int .i64 0) := (blk_cell BK875.out 1).trans rfl
        have hfs34 := blk_frozen BK875.out 1
        have hns34_0 := NB873_875.out
        have hns34_1 := NB874_875.out
        have hms34_0 := NB875_873.out
        have hms34_1 := NB875_874.out
        have hs35 : w32.cell? ⟨gb875, 2, none⟩ = some (.int .i64 0) := (blk_cell BK875.out 2).trans rfl
        have hfs35 := blk_frozen BK875.out 2
        have hns35_0 := NB873_875.out
        have hns35_1 := NB874_875.out
        have hms35_0 := NB875_873.out
        have hms35_1 := NB875_874.out
        have hs36 : w32.cell? ⟨gb875, 3, none⟩ = some (.int .i64 0) := (blk_cell BK875.out 3).trans rfl
        have hfs36 := blk_frozen BK875.out 3
        have hns36_0 := NB873_875.out
        have hns36_1 := NB874_875.out
        have hms36_0 := NB875_873.out
        have hms36_1 := NB875_874.out
        have hs37 : w32.cell? ⟨gb875, 4, none⟩ = some (.int .i64 0) := (blk_cell BK875.out 4).trans rfl
        have hfs37 := blk_frozen BK875.out 4
        have hns37_0 := NB873_875.out
        have hns37_1 := NB874_875.out
        have hms37_0 := NB875_873.out
        have hms37_1 := NB875_874.out
        have hs38 : w32.cell? ⟨gb875, 5, none⟩ = some (.int .i64 0) := (blk_cell BK875.out 5).trans rfl
        have hfs38 := blk_frozen BK875.out 5
        have hns38_0 := NB873_875.out
        have hns38_1 := NB874_875.out
        have hms38_0 := NB875_873.out
        have hms38_1 := NB875_874.out
        refine skip_ (w1 := ?_) (by rfl) rfl ?_ ?_
        rotate_left
        · go_simp
          rfl
        refine hK.out _ _ ⟨((cell_far (p := ⟨gb875, _, none⟩) NB873_875.out _).trans (((cell_far (p := ⟨gb875, _, none⟩) NB873_875.out _).trans (((cell_far (p := ⟨gb875, _, none⟩) NB873_875.out _).trans (((cell_far (p := ⟨gb875, _, none⟩) NB873_875.out _).trans (((cell_far (p := ⟨gb875, _, none⟩) NB873_875.out _).trans (((cell_far (p := ⟨gb875, _, none⟩) NB873_875.out _).trans (hHeld.1)))))))))))), ((cell_far (p := ⟨gb875, _, none⟩) NB873_875.out _).trans (((cell_far (p := ⟨gb875, _, none⟩) NB873_875.out _).trans (((cell_far (p := ⟨gb875, _, none⟩) NB873_875.out _).trans (((cell_far (p := ⟨gb875, _, none⟩) NB873_875.out _).trans (((cell_far (p := ⟨gb875, _, none⟩) NB873_875.out _).trans (((cell_far (p := ⟨gb875, _, none⟩) NB873_875.out _).trans (hHeld.2.1)))))))))))), ((cell_far (p := ⟨gb875, _, none⟩) NB873_875.out _).trans (((cell_far (p := ⟨gb875, _, none⟩) NB873_875.out _).trans (((cell_far (p := ⟨gb875, _, none⟩) NB873_875.out _).trans (((cell_far (p := ⟨gb875, _, none⟩) NB873_875.out _).trans (((cell_far (p := ⟨gb875, _, none⟩) NB873_875.out _).trans (((cell_far (p := ⟨gb875, _, none⟩) NB873_875.out _).trans (hHeld.2.2.1)))))))))))), ((cell_far (p := ⟨gb875, _, none⟩) NB873_875.out _).trans (((cell_far (p := ⟨gb875, _, none⟩) NB873_875.out _).trans (((cell_far (p := ⟨gb875, _, none⟩) NB873_875.out _).trans (((cell_far (p := ⟨gb875, _, none⟩) NB873_875.out _).trans (((cell_far (p := ⟨gb875, _, none⟩) NB873_875.out _).trans (((cell_far (p := ⟨gb875, _, none⟩) NB873_875.out _).trans (hHeld.2.2.2.1)))))))))))), ((cell_far (p := ⟨gb875, _, none⟩) NB873_875.out _).trans (((cell_far (p := ⟨gb875, _, none⟩) NB873_875.out _).trans (((cell_far (p := ⟨gb875, _, none⟩) NB873_875.out _).trans (((cell_far (p := ⟨gb875, _, none⟩) NB873_875.out _).trans (((cell_far (p := ⟨gb875, _, none⟩) NB873_875.out _).trans (((cell_far (p := ⟨gb875, _, none⟩) NB873_875.out _).trans (hHeld.2.2.2.2.1)))))))))))), ((cell_far (p := ⟨gb875, _, none⟩) NB873_875.out _).trans (((cell_far (p := ⟨gb875, _, none⟩) NB873_875.out _).trans (((cell_far (p := ⟨gb875, _, none⟩) NB873_875.out _).trans (((cell_far (p := ⟨gb875, _, none⟩) NB873_875.out _).trans (((cell_far (p := ⟨gb875, _, none⟩) NB873_875.out _).trans (((cell_far (p := ⟨gb875, _, none⟩) NB873_875.out _).trans (hHeld.2.2.2.2.2.1)))))))))))), ((cell_far (p := ⟨gb875, _, none⟩) NB874_875.out _).trans (((cell_far (p := ⟨gb875, _, none⟩) NB874_875.out _).trans (((cell_far (p := ⟨gb875, _, none⟩) NB874_875.out _).trans (((cell_far (p := ⟨gb875, _, none⟩) NB874_875.out _).trans (((cell_far (p := ⟨gb875, _, none⟩) NB874_875.out _).trans (((cell_far (p := ⟨gb875, _, none⟩) NB874_875.out _).trans (hHeld.2.2.2.2.2.2.1)))))))))))), ((cell_far (p := ⟨gb875, _, none⟩) NB874_875.out _).trans (((cell_far (p := ⟨gb875, _, none⟩) NB874_875.out _).trans (((cell_far (p := ⟨gb875, _, none⟩) NB874_875.out _).trans (((cell_far (p := ⟨gb875, _, none⟩) NB874_875.out _).trans (((cell_far (p := ⟨gb875, _, none⟩) NB874_875.out _).trans (((cell_far (p := ⟨gb875, _, none⟩) NB874_875.out _).trans (hHeld.2.2.2.2.2.2.2.1)))))))))))), ((cell_far (p := ⟨gb875, _, none⟩) NB874_875.out _).trans (((cell_far (p := ⟨gb875, _, none⟩) NB874_875.out _).trans (((cell_far (p := ⟨gb875, _, none⟩) NB874_875.out _).trans (((cell_far (p := ⟨gb875, _, none⟩) NB874_875.out _).trans (((cell_far (p := ⟨gb875, _, none⟩) NB874_875.out _).trans (((cell_far (p := ⟨gb875, _, none⟩) NB874_875.out _).trans (hHeld.2.2.2.2.2.2.2.2.1)))))))))))), ((cell_far (p := ⟨gb875, _, none⟩) NB874_875.out _).trans (((cell_far (p := ⟨gb875, _, none⟩) NB874_875.out _).trans (((cell_far (p := ⟨gb875, _, none⟩) NB874_875.out _).trans (((cell_far (p := ⟨gb875, _, none⟩) NB874_875.out _).trans (((cell_far (p := ⟨gb875, _, none⟩) NB874_875.out _).trans (((cell_far (p := ⟨gb875, _, none⟩) NB874_875.out _).trans (hHeld.2.2.2.2.2.2.2.2.2.1)))))))))))), ((cell_far (p := ⟨gb875, _, none⟩) NB874_875.out _).trans (((cell_far (p := ⟨gb875, _, none⟩) NB874_875.out _).trans (((cell_far (p := ⟨gb875, _, none⟩) NB874_875.out _).trans (((cell_far (p := ⟨gb875, _, none⟩) NB874_875.out _).trans (((cell_far (p := ⟨gb875, _, none⟩) NB874_875.out _).trans (((cell_far (p := ⟨gb875, _, none⟩) NB874_875.out _).trans (hHeld.2.2.2.2.2.2.2.2.2.2.1)))))))))))), ((cell_far (p := ⟨gb875, _, none⟩) NB874_875.out _).trans (((cell_far (p := ⟨gb875, _, none⟩) NB874_875.out _).trans (((cell_far (p := ⟨gb875, _, none⟩) NB874_875.out _).trans (((cell_far (p := ⟨gb875, _, none⟩) NB874_875.out _).trans (((cell_far (p := ⟨gb875, _, none⟩) NB874_875.out _).trans (((cell_far (p := ⟨gb875, _, none⟩) NB874_875.out _).trans (hHeld.2.2.2.2.2.2.2.2.2.2.2))))))))))))⟩ (fun hHeld => ?_)
        clear hK K
        refine pz 14 5 HT_ ?_
        refine done_ (done_of HT_.out (by kernel_rfl)) ?_
        try go_wp2
        refine bodyPost_ret (results_ct rfl _ _ gb875 55 #[.int .i64 t884, .int .i64 t885, .int .i64 t886, .int .i64 t887, .int .i64 t888, .int .i64 t889] (0, 0) _ rfl (by (with_reducible repeat (first | refine blk_drewN ?_ _ | refine blk_drew ?_ | refine blk_alloc ?_ _)); refine blk_put (cs := #[.int .i64 t884, .int .i64 t885, .int .i64 t886, .int .i64 t887, .int .i64 t888, .int .i64 0]) ?_ 5 _ rfl; (with_reducible repeat (first | refine blk_drewN ?_ _ | refine blk_drew ?_ | refine blk_alloc ?_ _)); refine blk_put (cs := #[.int .i64 t884, .int .i64 t885, .int .i64 t886, .int .i64 t887, .int .i64 0, .int .i64 0]) ?_ 4 _ rfl; (with_reducible repeat (first | refine blk_drewN ?_ _ | refine blk_drew ?_ | refine blk_alloc ?_ _)); refine blk_put (cs := #[.int .i64 t884, .int .i64 t885, .int .i64 t886, .int .i64 0, .int .i64 0, .int .i64 0]) ?_ 3 _ rfl; (with_reducible repeat (first | refine blk_drewN ?_ _ | refine blk_drew ?_ | refine blk_alloc ?_ _)); refine blk_put (cs := #[.int .i64 t884, .int .i64 t885, .int .i64 0, .int .i64 0, .int .i64 0, .int .i64 0]) ?_ 2 _ rfl; (with_reducible repeat (first | refine blk_drewN ?_ _ | refine blk_drew ?_ | refine blk_alloc ?_ _)); refine blk_put (cs := #[.int .i64 t884, .int .i64 0, .int .i64 0, .int .i64 0, .int .i64 0, .int .i64 0]) ?_ 1 _ rfl; (with_reducible repeat (first | refine blk_drewN ?_ _ | refine blk_drew ?_ | refine blk_alloc ?_ _)); refine blk_put (cs := #[.int .i64 0, .int .i64 0, .int .i64 0, .int .i64 0, .int .i64 0, .int .i64 0]) ?_ 0 _ rfl; (with_reducible repeat (first | refine blk_drewN ?_ _ | refine blk_drew ?_ | refine blk_alloc ?_ _)); exact BK875.out) Try.underlying55 rfl (by kernel_rfl)) rfl ?_
        exact rt HB
end
section
/-! ### grids_Invert: function 31 -/
def grids_Invert.j0 : Nat → Bool → Int → Int → Int → Int → Int → Int → Option (Int × Int × Int × Int × Int × Int × Int)
  | 0, _, _, _, _, _, _, _ => none
  | k + 1, x19, x920000, x920001, x920002, x920003, x920004, x920005 => if x19 = true then (some (0, 0, 0, 0, 0, 0, 6)) else ((grids_inverse.f x920000 x920001 x920002 x920003).bind fun bt923 => ((grids_image.f bt923.1 bt923.2.1 bt923.2.2.1 bt923.2.2.2 0 0 x920004 x920005).bind fun bt928 => ((some (wrap64 (-bt928.1))).bind fun z931 => ((some (wrap64 (-bt928.2))).bind fun z932 => ((grids_valid.f k bt923.1 bt923.2.1 bt923.2.2.1 bt923.2.2.2 z931 z932).bind fun bt933 => (some (bt933.1, bt933.2.1, bt933.2.2.1, bt933.2.2.2.1, bt933.2.2.2.2.1, bt933.2.2.2.2.2.1, bt933.2.2.2.2.2.2)))))))
def grids_Invert.f (k : Nat) (a0_0 : Int) (a0_1 : Int) (a0_2 : Int) (a0_3 : Int) (a0_4 : Int) (a0_5 : Int) : Option (Int × Int × Int × Int × Int × Int × Int) := (grids_move.f k a0_0 a0_1 a0_2 a0_3 a0_4 a0_5).bind fun t921 => (if t921 = true then ((grids_det.f a0_0 a0_1 a0_2 a0_3).bind fun t922 => (if t922 = 1 then (grids_Invert.j0 k false a0_0 a0_1 a0_2 a0_3 a0_4 a0_5) else (grids_Invert.j0 k (t922 != (-1)) a0_0 a0_1 a0_2 a0_3 a0_4 a0_5))) else (some (0, 0, 0, 0, 0, 0, 2)))
theorem grids_Invert.mono_l : ∀ k, (∀ y0 y1 y2 y3 y4 y5 y6, LeO (grids_Invert.j0 k y0 y1 y2 y3 y4 y5 y6) (grids_Invert.j0 (k + 1) y0 y1 y2 y3 y4 y5 y6))
  | 0 => fun _ _ _ _ _ _ _ r h => by simp [grids_Invert.j0] at h
  | k + 1 => by
    have ih0 := grids_Invert.mono_l k
    · intro y0 y1 y2 y3 y4 y5 y6
      unfold grids_Invert.j0
      repeat' first
      | (with_reducible exact ih0 _ _ _ _ _ _ _)
      | (with_reducible exact grids_move.mono _ _ _ _ _ _ _)
      | (with_reducible exact grids_valid.mono _ _ _ _ _ _ _)
      | (with_reducible exact LeO.refl _)
      | (with_reducible exact LeO.none _)
      | (with_reducible refine LeO.ite ?_ ?_)
      | (with_reducible refine LeO.bind ?_ (fun _ => ?_))
      | exact ih0 _ _ _ _ _ _ _
      | exact grids_move.mono _ _ _ _ _ _ _
      | exact grids_valid.mono _ _ _ _ _ _ _
      | exact LeO.none _
      | refine LeO.ite ?_ ?_
      | refine LeO.bind ?_ (fun _ => ?_)
theorem grids_Invert.mono : ∀ a0 a1 a2 a3 a4 a5 k, LeO (grids_Invert.f k a0 a1 a2 a3 a4 a5) (grids_Invert.f (k + 1) a0 a1 a2 a3 a4 a5) := by
  intro a0 a1 a2 a3 a4 a5 k
  have ih0 := grids_Invert.mono_l k
  unfold grids_Invert.f
  repeat' first
      | (with_reducible exact ih0 _ _ _ _ _ _ _)
      | (with_reducible exact grids_move.mono _ _ _ _ _ _ _)
      | (with_reducible exact grids_valid.mono _ _ _ _ _ _ _)
      | (with_reducible exact LeO.refl _)
      | (with_reducible exact LeO.none _)
      | (with_reducible refine LeO.ite ?_ ?_)
      | (with_reducible refine LeO.bind ?_ (fun _ => ?_))
      | exact ih0 _ _ _ _ _ _ _
      | exact grids_move.mono _ _ _ _ _ _ _
      | exact grids_valid.mono _ _ _ _ _ _ _
      | exact LeO.none _
      | refine LeO.ite ?_ ?_
      | refine LeO.bind ?_ (fun _ => ?_)
set_option maxHeartbeats 8000000 in
set_option maxRecDepth 100000 in
theorem grids_Invert.calls (k : Nat) (a0_0 : Int) (a0_1 : Int) (a0_2 : Int) (a0_3 : Int) (a0_4 : Int) (a0_5 : Int) (r1 : Int) (r2 : Int) (r3 : Int) (r4 : Int) (r5 : Int) (r6 : Int) (r7 : Int) (w : World) (h : grids_Invert.f k a0_0 a0_1 a0_2 a0_3 a0_4 a0_5 = some (r1, r2, r3, r4, r5, r6, r7)) :
    Calls Try.prog 31 #[.agg #[.int .i64 a0_0, .int .i64 a0_1, .int .i64 a0_2, .int .i64 a0_3, .int .i64 a0_4, .int .i64 a0_5]] w fun e w' => e = .returned (.tuple #[.agg #[.int .i64 r1, .int .i64 r2, .int .i64 r3, .int .i64 r4, .int .i64 r5, .int .i64 r6], .int .i64 r7]) ∧ Below w.heap.size w w' := by
  have hu55 := Try.underlying55
  have hu25 := Try.underlying25
  have hu37 := Try.underlying37
  have HB := Aside0.mk (Below.refl w.heap.size w)
  have H : ((grids_move.f k a0_0 a0_1 a0_2 a0_3 a0_4 a0_5).bind fun t921 => (if t921 = true then ((grids_det.f a0_0 a0_1 a0_2 a0_3).bind fun t922 => (if t922 = 1 then (grids_Invert.j0 k false a0_0 a0_1 a0_2 a0_3 a0_4 a0_5) else (grids_Invert.j0 k (t922 != (-1)) a0_0 a0_1 a0_2 a0_3 a0_4 a0_5))) else (some (0, 0, 0, 0, 0, 0, 2)))) = some (r1, r2, r3, r4, r5, r6, r7) := h
  clear h
  replace H := Option.bind_eq_some_iff.mp H
  obtain ⟨t921, A20, H⟩ := H
  replace H : (if t921 = true then ((grids_det.f a0_0 a0_1 a0_2 a0_3).bind fun t922 => (if t922 = 1 then (grids_Invert.j0 k false a0_0 a0_1 a0_2 a0_3 a0_4 a0_5) else (grids_Invert.j0 k (t922 != (-1)) a0_0 a0_1 a0_2 a0_3 a0_4 a0_5))) else (some (0, 0, 0, 0, 0, 0, 2))) = some (r1, r2, r3, r4, r5, r6, r7) := H
  have A2 := Aside0.mk A20
  clear A20
  by_cases c3 : t921 = true
  · subst c3
    have H1 : ((grids_det.f a0_0 a0_1 a0_2 a0_3).bind fun t922 => (if t922 = 1 then (grids_Invert.j0 k false a0_0 a0_1 a0_2 a0_3 a0_4 a0_5) else (grids_Invert.j0 k (t922 != (-1)) a0_0 a0_1 a0_2 a0_3 a0_4 a0_5))) = some (r1, r2, r3, r4, r5, r6, r7) := by rw [if_pos rfl] at H; exact H
    clear H
    have H := H1
    clear H1
    replace H := Option.bind_eq_some_iff.mp H
    obtain ⟨t922, A40, H⟩ := H
    replace H : (if t922 = 1 then (grids_Invert.j0 k false a0_0 a0_1 a0_2 a0_3 a0_4 a0_5) else (grids_Invert.j0 k (t922 != (-1)) a0_0 a0_1 a0_2 a0_3 a0_4 a0_5)) = some (r1, r2, r3, r4, r5, r6, r7) := H
    have A4 := Aside0.mk A40
    clear A40
    have HC5 := Aside0.mk H
    clear H
    go_enter Try.func31, Try.ntmps31
    go_upto_region 4 with (first | ((with_reducible refine gate_dst (N := 1) rfl ?_); refine bx 1 #[.int .i64 a0_0, .int .i64 a0_1, .int .i64 a0_2, .int .i64 a0_3, .int .i64 a0_4, .int .i64 a0_5] 55 fun gb919 hg w6 BK919 hb => ?_; have GW919 := gw hg HB; have GE919 := gw hg HB; replace HB := bst HB hb; clear hb hg) | ((with_reducible refine gate_dst (N := 2) rfl ?_); refine bx 2 #[.int .i64 0, .int .i64 0, .int .i64 0, .int .i64 0, .int .i64 0, .int .i64 0] 55 fun gb920 hg w7 BK920 hb => ?_; have GW920 := gw hg HB; have GE920 := gw hg HB; have NB919_920 := nlt hg BK919; have NB920_919 := ngt hg BK919; replace BK919 := bb BK919 hb; replace HB := bst HB hb; clear hb hg; have hnb8 := NB919_920.out; have hnc8 := NB920_919.out; have ⟨hcz9_0, hcz9_1, hcz9_2, hcz9_3, hcz9_4, hcz9_5, hfz9_0, hfz9_1, hfz9_2, hfz9_3, hfz9_4, hfz9_5⟩ := cf6 BK919) | ((with_reducible refine gate_callee (f := 62) rfl ?_); refine gl 8 Try.func62 (grids_move.calls k a0_0 a0_1 a0_2 a0_3 a0_4 a0_5 true _ A2.out) ?_; rintro e w10 ⟨rfl, hb⟩; refine ⟨_, rfl, ?_⟩; replace BK919 := bb BK919 hb; replace BK920 := bb BK920 hb; replace HB := bst HB hb; clear hb; have ⟨hcz11_0, hcz11_1, hcz11_2, hcz11_3, hcz11_4, hcz11_5, hfz11_0, hfz11_1, hfz11_2, hfz11_3, hfz11_4, hfz11_5⟩ := cf6 BK919) | ((with_reducible refine gate_callee (f := 68) rfl ?_); refine gl 13 Try.func68 (grids_det.calls a0_0 a0_1 a0_2 a0_3 t922 _ A4.out) ?_; rintro e w12 ⟨rfl, hb⟩; refine ⟨_, rfl, ?_⟩; replace BK919 := bb BK919 hb; replace BK920 := bb BK920 hb; replace HB := bst HB hb; clear hb))
    (try simp only [Act.put, List.setIfInBounds_toArray, List.set_cons_zero, List.set_cons_succ])
    go_cut [19] (fun v19 wc => ∃ (kq : Nat) (x19_4 : Bool), v19 = .bool x19_4 ∧ Aside0 (grids_Invert.j0 kq x19_4 a0_0 a0_1 a0_2 a0_3 a0_4 a0_5 = some (r1, r2, r3, r4, r5, r6, r7)) ∧ Aside0 (kq ≤ k) ∧ Aside0 (wc.heap[gb919]? = some (.cells #[.int .i64 a0_0, .int .i64 a0_1, .int .i64 a0_2, .int .i64 a0_3, .int .i64 a0_4, .int .i64 a0_5] 55 (0, 0))) ∧ Aside0 (wc.heap[gb920]? = some (.cells #[.int .i64 0, .int .i64 0, .int .i64 0, .int .i64 0, .int .i64 0, .int .i64 0] 55 (0, 0))) ∧ Aside0 (Below w.heap.size w wc))
    case first =>
      have H := HC5.out
      clear HC5
      by_cases c13 : t922 = 1
      · rw [if_pos c13] at H
        have c13b0 : (t922 == 1) = true := beq_iff_eq.mpr c13
        have c13b1 : (t922 != 1) = false := bne_eq_false_iff_eq.mpr c13
        clear c13
        (first | rw [c13b0] | (simp only [i64_w, i32_w]; rw [c13b0]) | skip)
        have H' := Aside0.mk H
        clear H
        go_wp2
        go_meet
        case rel => exact ⟨_, (false), (by first | rfl | (simp; done) | (simp [*]; done)), H', ⟨by first | omega | exact Nat.le_refl _⟩, ⟨pk BK919⟩, ⟨pk BK920⟩, ⟨bnow HB⟩⟩
      · rw [if_neg c13] at H
        have c13b0 : (t922 == 1) = false := beq_eq_false_iff_ne.mpr c13
        have c13b1 : (t922 != 1) = true := bne_iff_ne.mpr c13
        (first | rw [c13b0] | (simp only [i64_w, i32_w]; rw [c13b0]) | skip)
        have H' := Aside0.mk H
        clear H
        go_wp2
        go_meet
        case rel => exact ⟨_, ((t922 != (-1))), (by first | rfl | (simp; done) | (simp [*]; done)), H', ⟨by first | omega | exact Nat.le_refl _⟩, ⟨pk BK919⟩, ⟨pk BK920⟩, ⟨bnow HB⟩⟩
    case rest =>
      clear HC5
      try clear c1; try clear p2; try clear c3; try clear c6; try clear c8; try clear c13; try clear c13b0; try clear c13b1; try clear hcz11_0; try clear hcz11_1; try clear hcz11_2; try clear hcz11_3; try clear hcz11_4; try clear hcz11_5; try clear hcz9_0; try clear hcz9_1; try clear hcz9_2; try clear hcz9_3; try clear hcz9_4; try clear hcz9_5; try clear hfz11_0; try clear hfz11_1; try clear hfz11_2; try clear hfz11_3; try clear hfz11_4; try clear hfz11_5; try clear hfz9_0; try clear hfz9_1; try clear hfz9_2; try clear hfz9_3; try clear hfz9_4; try clear hfz9_5
      obtain ⟨kq, x19_4, rfl, HA, HJ4, BK919, BK920, HB⟩ := hcut
      cases kq with
      | zero => exact absurd HA.out (by simp [grids_Invert.j0])
      | succ kj4 =>
        have H := HA.out
        clear HA
        simp only [grids_Invert.j0] at H
        by_cases c14 : x19_4 = true
        · subst c14
          have H1 : (some (0, 0, 0, 0, 0, 0, 6)) = some (r1, r2, r3, r4, r5, r6, r7) := by rw [if_pos rfl] at H; exact H
          clear H
          have H := H1
          clear H1
          simp only [Option.some.injEq, Prod.mk.injEq] at H
          obtain ⟨rfl, rfl, rfl, rfl, rfl, rfl, rfl⟩ := H
          have hnb15 := NB920_919.out
          have hnc15 := NB919_920.out
          have ⟨hcz16_0, hcz16_1, hcz16_2, hcz16_3, hcz16_4, hcz16_5, hfz16_0, hfz16_1, hfz16_2, hfz16_3, hfz16_4, hfz16_5⟩ := cf6 BK920
          go_wp2_with (first | ((with_reducible refine gate_store (t := 55) (p := 2) rfl ?_); refine sx 55 2 (((((((wc.setCell ⟨gb920, 0, none⟩ (.int .i64 0)).setCell ⟨gb920, 1, none⟩ (.int .i64 0)).setCell ⟨gb920, 2, none⟩ (.int .i64 0)).setCell ⟨gb920, 3, none⟩ (.int .i64 0)).setCell ⟨gb920, 4, none⟩ (.int .i64 0)).setCell ⟨gb920, 5, none⟩ (.int .i64 0))) fun w17 hw => ?_; replace BK919 := fw hw BK919; replace BK920 := pw6 hw BK920; replace HB := bw hw HB; clear hw))
          refine bodyPost_ret (results_ct rfl _ _ gb920 55 #[.int .i64 0, .int .i64 0, .int .i64 0, .int .i64 0, .int .i64 0, .int .i64 0] (0, 0) _ rfl (pk BK920) Try.underlying55 rfl (by kernel_rfl)) rfl ?_
          exact rt HB
        · replace c14 := Bool.eq_false_iff.mpr c14
          subst c14
          have H1 : ((grids_inverse.f a0_0 a0_1 a0_2 a0_3).bind fun bt923 => ((grids_image.f bt923.1 bt923.2.1 bt923.2.2.1 bt923.2.2.2 0 0 a0_4 a0_5).bind fun bt928 => ((some (wrap64 (-bt928.1))).bind fun z931 => ((some (wrap64 (-bt928.2))).bind fun z932 => ((grids_valid.f kj4 bt923.1 bt923.2.1 bt923.2.2.1 bt923.2.2.2 z931 z932).bind fun bt933 => (some (bt933.1, bt933.2.1, bt933.2.2.1, bt933.2.2.2.1, bt933.2.2.2.2.1, bt933.2.2.2.2.2.1, bt933.2.2.2.2.2.2))))))) = some (r1, r2, r3, r4, r5, r6, r7) := by rw [if_neg (show ¬ (false = true) by decide)] at H; exact H
          clear H
          have H := H1
          clear H1
          replace H := Option.bind_eq_some_iff.mp H
          obtain ⟨⟨t923, t924, t925, t926⟩, A180, H⟩ := H
          replace H : ((grids_image.f t923 t924 t925 t926 0 0 a0_4 a0_5).bind fun bt928 => ((some (wrap64 (-bt928.1))).bind fun z931 => ((some (wrap64 (-bt928.2))).bind fun z932 => ((grids_valid.f kj4 t923 t924 t925 t926 z931 z932).bind fun bt933 => (some (bt933.1, bt933.2.1, bt933.2.2.1, bt933.2.2.2.1, bt933.2.2.2.2.1, bt933.2.2.2.2.2.1, bt933.2.2.2.2.2.2)))))) = some (r1, r2, r3, r4, r5, r6, r7) := H
          have A18 := Aside0.mk A180
          clear A180
          replace H := Option.bind_eq_some_iff.mp H
          obtain ⟨⟨t928, t929⟩, A190, H⟩ := H
          replace H : ((some (wrap64 (-t928))).bind fun z931 => ((some (wrap64 (-t929))).bind fun z932 => ((grids_valid.f kj4 t923 t924 t925 t926 z931 z932).bind fun bt933 => (some (bt933.1, bt933.2.1, bt933.2.2.1, bt933.2.2.2.1, bt933.2.2.2.2.1, bt933.2.2.2.2.2.1, bt933.2.2.2.2.2.2))))) = some (r1, r2, r3, r4, r5, r6, r7) := H
          have A19 := Aside0.mk A190
          clear A190
          replace H := Option.bind_eq_some_iff.mp H
          obtain ⟨z931, E200, H⟩ := H
          replace H : ((some (wrap64 (-t929))).bind fun z932 => ((grids_valid.f kj4 t923 t924 t925 t926 z931 z932).bind fun bt933 => (some (bt933.1, bt933.2.1, bt933.2.2.1, bt933.2.2.2.1, bt933.2.2.2.2.1, bt933.2.2.2.2.2.1, bt933.2.2.2.2.2.2)))) = some (r1, r2, r3, r4, r5, r6, r7) := H
          replace E200 := Option.some.inj E200
          have E20w : (IntKind.i64.wrap (-t928)) = z931 := (i64_w _).trans E200
          replace H := Option.bind_eq_some_iff.mp H
          obtain ⟨z932, E210, H⟩ := H
          replace H : ((grids_valid.f kj4 t923 t924 t925 t926 z931 z932).bind fun bt933 => (some (bt933.1, bt933.2.1, bt933.2.2.1, bt933.2.2.2.1, bt933.2.2.2.2.1, bt933.2.2.2.2.2.1, bt933.2.2.2.2.2.2))) = some (r1, r2, r3, r4, r5, r6, r7) := H
          replace E210 := Option.some.inj E210
          have E21w : (IntKind.i64.wrap (-t929)) = z932 := (i64_w _).trans E210
          replace H := Option.bind_eq_some_iff.mp H
          obtain ⟨⟨t933, t934, t935, t936, t937, t938, t939⟩, A220, H⟩ := H
          replace H : (some (t933, t934, t935, t936, t937, t938, t939)) = some (r1, r2, r3, r4, r5, r6, r7) := H
          have A22 := Aside0.mk A220
          clear A220
          simp only [Option.some.injEq, Prod.mk.injEq] at H
          obtain ⟨rfl, rfl, rfl, rfl, rfl, rfl, rfl⟩ := H
          have hnb23 := NB919_920.out
          have hnc23 := NB920_919.out
          have ⟨hcz24_0, hcz24_1, hcz24_2, hcz24_3, hcz24_4, hcz24_5, hfz24_0, hfz24_1, hfz24_2, hfz24_3, hfz24_4, hfz24_5⟩ := cf6 BK919
          go_wp2_with (first | ((with_reducible refine gate_callee (f := 57) rfl ?_); refine gl 23 Try.func57 (grids_inverse.calls a0_0 a0_1 a0_2 a0_3 t923 t924 t925 t926 _ A18.out) ?_; rintro e w25 ⟨rfl, hb⟩; refine ⟨_, rfl, ?_⟩; replace BK919 := bb BK919 hb; replace BK920 := bb BK920 hb; replace HB := bst HB hb; clear hb) | ((with_reducible refine gate_dst (N := 5) rfl ?_); refine bx 5 #[.int .i64 0, .int .i64 0, .int .i64 0, .int .i64 0, .int .i64 0, .int .i64 0] 55 fun gb927 hg w26 BK927 hb => ?_; have GW927 := gw hg HB; have GE927 := gw hg HB; have NB919_927 := nlt hg BK919; have NB927_919 := ngt hg BK919; have NB920_927 := nlt hg BK920; have NB927_920 := ngt hg BK920; replace BK919 := bb BK919 hb; replace BK920 := bb BK920 hb; replace HB := bst HB hb; clear hb hg; have hnb27 := NB927_919.out; have hnc27 := NB919_927.out; have hnb28 := NB927_920.out; have hnc28 := NB920_927.out; have ⟨hcz29_0, hcz29_1, hcz29_2, hcz29_3, hcz29_4, hcz29_5, hfz29_0, hfz29_1, hfz29_2, hfz29_3, hfz29_4, hfz29_5⟩ := cf6 BK927) | ((with_reducible refine gate_store (t := 55) (p := 5) rfl ?_); refine sx 55 5 (((((((w26.setCell ⟨gb927, 0, none⟩ (.int .i64 t923)).setCell ⟨gb927, 1, none⟩ (.int .i64 t924)).setCell ⟨gb927, 2, none⟩ (.int .i64 t925)).setCell ⟨gb927, 3, none⟩ (.int .i64 t926)).setCell ⟨gb927, 4, none⟩ (.int .i64 0)).setCell ⟨gb927, 5, none⟩ (.int .i64 0))) fun w30 hw => ?_; replace BK919 := fw hw BK919; replace BK920 := fw hw BK920; replace BK927 := pw6 hw BK927; replace HB := bw hw HB; clear hw; have ⟨hcz31_0, hcz31_1, hcz31_2, hcz31_3, hcz31_4, hcz31_5, hfz31_0, hfz31_1, hfz31_2, hfz31_3, hfz31_4, hfz31_5⟩ := cf6 BK927; have ⟨hcz32_0, hcz32_1, hcz32_2, hcz32_3, hcz32_4, hcz32_5, hfz32_0, hfz32_1, hfz32_2, hfz32_3, hfz32_4, hfz32_5⟩ := cf6 BK919) | ((with_reducible refine gate_callee (f := 63) rfl ?_); refine gl 28 Try.func63 (grids_image.calls t923 t924 t925 t926 0 0 a0_4 a0_5 t928 t929 _ A19.out) ?_; rintro e w33 ⟨rfl, hb⟩; refine ⟨_, rfl, ?_⟩; replace BK919 := bb BK919 hb; replace BK920 := bb BK920 hb; replace BK927 := bb BK927 hb; replace HB := bst HB hb; clear hb) | ((with_reducible refine gate_dst (N := 6) rfl ?_); refine bx 6 #[.int .i64 0, .int .i64 0] 37 fun gb930 hg w34 BK930 hb => ?_; have GW930 := gw hg HB; have GE930 := gw hg HB; have NB919_930 := nlt hg BK919; have NB930_919 := ngt hg BK919; have NB920_930 := nlt hg BK920; have NB930_920 := ngt hg BK920; have NB927_930 := nlt hg BK927; have NB930_927 := ngt hg BK927; replace BK919 := bb BK919 hb; replace BK920 := bb BK920 hb; replace BK927 := bb BK927 hb; replace HB := bst HB hb; clear hb hg; have hnb35 := NB930_919.out; have hnc35 := NB919_930.out; have hnb36 := NB930_920.out; have hnc36 := NB920_930.out; have hnb37 := NB930_927.out; have hnc37 := NB927_930.out; have ⟨hcz38_0, hcz38_1, hfz38_0, hfz38_1⟩ := cf2 BK930; have ⟨hcz39_0, hcz39_1, hcz39_2, hcz39_3, hcz39_4, hcz39_5, hfz39_0, hfz39_1, hfz39_2, hfz39_3, hfz39_4, hfz39_5⟩ := cf6 BK927) | ((with_reducible refine gate_store (t := 37) (p := 36) rfl ?_); refine sx 37 36 (((((w34.setCell ⟨gb930, 0, none⟩ (.int .i64 t928)).setCell ⟨gb930, 1, none⟩ (.int .i64 t929)).setCell ⟨gb927, 4, none⟩ (.int .i64 z931)).setCell ⟨gb927, 5, none⟩ (.int .i64 z932))) fun w40 hw => ?_; have n0_ := fw hw BK919; have n1_ := fw hw BK920; have n2_ : Aside0 (w40.heap[gb927]? = some (.cells #[.int .i64 t923, .int .i64 t924, .int .i64 t925, .int .i64 t926, .int .i64 z931, .int .i64 z932] 55 (0, 0))) := ⟨(by rw [hw]; exact (by (with_reducible repeat (first | refine blk_drewN ?_ _ | refine blk_drew ?_ | refine blk_alloc ?_ _)); refine blk_put (cs := #[.int .i64 t923, .int .i64 t924, .int .i64 t925, .int .i64 t926, .int .i64 z931, .int .i64 0]) ?_ 5 _ rfl; (with_reducible repeat (first | refine blk_drewN ?_ _ | refine blk_drew ?_ | refine blk_alloc ?_ _)); refine blk_put (cs := #[.int .i64 t923, .int .i64 t924, .int .i64 t925, .int .i64 t926, .int .i64 0, .int .i64 0]) ?_ 4 _ rfl; (with_reducible repeat (first | refine blk_drewN ?_ _ | refine blk_drew ?_ | refine blk_alloc ?_ _)); refine blk_far ?_ NB927_930.out _; (with_reducible repeat (first | refine blk_drewN ?_ _ | refine blk_drew ?_ | refine blk_alloc ?_ _)); refine blk_far ?_ NB927_930.out _; (with_reducible repeat (first | refine blk_drewN ?_ _ | refine blk_drew ?_ | refine blk_alloc ?_ _)); exact BK927.out))⟩; have n3_ : Aside0 (w40.heap[gb930]? = some (.cells #[.int .i64 t928, .int .i64 t929] 37 (0, 0))) := ⟨(by rw [hw]; exact (by (with_reducible repeat (first | refine blk_drewN ?_ _ | refine blk_drew ?_ | refine blk_alloc ?_ _)); refine blk_far ?_ NB930_927.out _; (with_reducible repeat (first | refine blk_drewN ?_ _ | refine blk_drew ?_ | refine blk_alloc ?_ _)); refine blk_far ?_ NB930_927.out _; (with_reducible repeat (first | refine blk_drewN ?_ _ | refine blk_drew ?_ | refine blk_alloc ?_ _)); refine blk_put (cs := #[.int .i64 t928, .int .i64 0]) ?_ 1 _ rfl; (with_reducible repeat (first | refine blk_drewN ?_ _ | refine blk_drew ?_ | refine blk_alloc ?_ _)); refine blk_put (cs := #[.int .i64 0, .int .i64 0]) ?_ 0 _ rfl; (with_reducible repeat (first | refine blk_drewN ?_ _ | refine blk_drew ?_ | refine blk_alloc ?_ _)); exact BK930.out))⟩; have n4_ := bw hw HB; clear hw; clear BK919; clear BK920; clear BK927; clear BK930; clear HB; have BK919 := n0_; have BK920 := n1_; have BK927 := n2_; have BK930 := n3_; have HB := n4_; clear n0_ n1_ n2_ n3_ n4_; have ⟨hcz41_0, hcz41_1, hcz41_2, hcz41_3, hcz41_4, hcz41_5, hfz41_0, hfz41_1, hfz41_2, hfz41_3, hfz41_4, hfz41_5⟩ := cf6 BK927) | ((with_reducible refine gate_callee (f := 67) rfl ?_); refine gl 38 Try.func67 (grids_valid.calls kj4 t923 t924 t925 t926 z931 z932 t933 t934 t935 t936 t937 t938 t939 _ A22.out) ?_; rintro e w42 ⟨rfl, hb⟩; refine ⟨_, rfl, ?_⟩; replace BK919 := bb BK919 hb; replace BK920 := bb BK920 hb; replace BK927 := bb BK927 hb; replace BK930 := bb BK930 hb; replace HB := bst HB hb; clear hb; have ⟨hcz43_0, hcz43_1, hcz43_2, hcz43_3, hcz43_4, hcz43_5, hfz43_0, hfz43_1, hfz43_2, hfz43_3, hfz43_4, hfz43_5⟩ := cf6 BK920) | ((with_reducible refine gate_store (t := 55) (p := 2) rfl ?_); refine sx 55 2 (((((((w42.setCell ⟨gb920, 0, none⟩ (.int .i64 t933)).setCell ⟨gb920, 1, none⟩ (.int .i64 t934)).setCell ⟨gb920, 2, none⟩ (.int .i64 t935)).setCell ⟨gb920, 3, none⟩ (.int .i64 t936)).setCell ⟨gb920, 4, none⟩ (.int .i64 t937)).setCell ⟨gb920, 5, none⟩ (.int .i64 t938))) fun w44 hw => ?_; replace BK919 := fw hw BK919; replace BK920 := pw6 hw BK920; replace BK927 := fw hw BK927; replace BK930 := fw hw BK930; replace HB := bw hw HB; clear hw))
          refine bodyPost_ret (results_ct rfl _ _ gb920 55 #[.int .i64 t933, .int .i64 t934, .int .i64 t935, .int .i64 t936, .int .i64 t937, .int .i64 t938] (0, 0) _ rfl (pk BK920) Try.underlying55 rfl (by kernel_rfl)) rfl ?_
          exact rt HB
  · replace c3 := Bool.eq_false_iff.mpr c3
    subst c3
    have H1 : (some (0, 0, 0, 0, 0, 0, 2)) = some (r1, r2, r3, r4, r5, r6, r7) := by rw [if_neg (show ¬ (false = true) by decide)] at H; exact H
    clear H
    have H := H1
    clear H1
    simp only [Option.some.injEq, Prod.mk.injEq] at H
    obtain ⟨rfl, rfl, rfl, rfl, rfl, rfl, rfl⟩ := H
    go_enter Try.func31, Try.ntmps31
    go_wp2_with (first | ((with_reducible refine gate_dst (N := 1) rfl ?_); refine bx 1 #[.int .i64 a0_0, .int .i64 a0_1, .int .i64 a0_2, .int .i64 a0_3, .int .i64 a0_4, .int .i64 a0_5] 55 fun gb919 hg w45 BK919 hb => ?_; have GW919 := gw hg HB; have GE919 := gw hg HB; replace HB := bst HB hb; clear hb hg) | ((with_reducible refine gate_dst (N := 2) rfl ?_); refine bx 2 #[.int .i64 0, .int .i64 0, .int .i64 0, .int .i64 0, .int .i64 0, .int .i64 0] 55 fun gb920 hg w46 BK920 hb => ?_; have GW920 := gw hg HB; have GE920 := gw hg HB; have NB919_920 := nlt hg BK919; have NB920_919 := ngt hg BK919; replace BK919 := bb BK919 hb; replace HB := bst HB hb; clear hb hg; have hnb47 := NB919_920.out; have hnc47 := NB920_919.out; have ⟨hcz48_0, hcz48_1, hcz48_2, hcz48_3, hcz48_4, hcz48_5, hfz48_0, hfz48_1, hfz48_2, hfz48_3, hfz48_4, hfz48_5⟩ := cf6 BK919) | ((with_reducible refine gate_callee (f := 62) rfl ?_); refine gl 8 Try.func62 (grids_move.calls k a0_0 a0_1 a0_2 a0_3 a0_4 a0_5 false _ A2.out) ?_; rintro e w49 ⟨rfl, hb⟩; refine ⟨_, rfl, ?_⟩; replace BK919 := bb BK919 hb; replace BK920 := bb BK920 hb; replace HB := bst HB hb; clear hb; have ⟨hcz50_0, hcz50_1, hcz50_2, hcz50_3, hcz50_4, hcz50_5, hfz50_0, hfz50_1, hfz50_2, hfz50_3, hfz50_4, hfz50_5⟩ := cf6 BK920) | ((with_reducible refine gate_store (t := 55) (p := 2) rfl ?_); refine sx 55 2 (((((((w49.setCell ⟨gb920, 0, none⟩ (.int .i64 0)).setCell ⟨gb920, 1, none⟩ (.int .i64 0)).setCell ⟨gb920, 2, none⟩ (.int .i64 0)).setCell ⟨gb920, 3, none⟩ (.int .i64 0)).setCell ⟨gb920, 4, none⟩ (.int .i64 0)).setCell ⟨gb920, 5, none⟩ (.int .i64 0))) fun w51 hw => ?_; replace BK919 := fw hw BK919; replace BK920 := pw6 hw BK920; replace HB := bw hw HB; clear hw))
    refine bodyPost_ret (results_ct rfl _ _ gb920 55 #[.int .i64 0, .int .i64 0, .int .i64 0, .int .i64 0, .int .i64 0, .int .i64 0] (0, 0) _ rfl (pk BK920) Try.underlying55 rfl (by kernel_rfl)) rfl ?_
    exact rt HB
end
section
attribute [local go_sem high] eqA37 eqA55
/-! ### torchonlaw06_GridsBack: function 10 -/
mutual
def torchonlaw06_GridsBack.j0 : Nat → Bool → Int → Int → Int → Int → Int → Int → Int → Int → Int → Int → Int → Int → Int → Int → Int → Int → Int → Int → Int → Int → Int → Int → Int → Int → Int → Int → Int → Int → Option (Bool)
  | 0, _, _, _, _, _, _, _, _, _, _, _, _, _, _, _, _, _, _, _, _, _, _, _, _, _, _, _, _, _ => none
  | k + 1, x41, x1104000, x1104001, x1104002, x1104003, x1104004, x1104005, x1104006, x1104007, x1104008, x1104009, x1104010, x1104011, x1104012, x1104013, x1104014, x1104015, x1104016, x1104017, x1105000, x1105001, x1113000, x1113001, x1113002, x1113003, x1113004, x1113005, x1117000, x1117001 => if x41 = true then ((grids_Apply.f k x1113000 x1113001 x1113002 x1113003 x1113004 x1113005 x1117000 x1117001).bind fun bt1117 => (if bt1117.2.2 = 0 then (if (!(bt1117.1 == x1105000) || (!(bt1117.2.1 == x1105001))) = true then (none) else (torchonlaw06_GridsBack.j1 k x1104000 x1104001 x1104002 x1104003 x1104004 x1104005 x1104006 x1104007 x1104008 x1104009 x1104010 x1104011 x1104012 x1104013 x1104014 x1104015 x1104016 x1104017 x1105000 x1105001)) else (none))) else (torchonlaw06_GridsBack.j1 k x1104000 x1104001 x1104002 x1104003 x1104004 x1104005 x1104006 x1104007 x1104008 x1104009 x1104010 x1104011 x1104012 x1104013 x1104014 x1104015 x1104016 x1104017 x1105000 x1105001)
def torchonlaw06_GridsBack.j1 : Nat → Int → Int → Int → Int → Int → Int → Int → Int → Int → Int → Int → Int → Int → Int → Int → Int → Int → Int → Int → Int → Option (Bool)
  | 0, _, _, _, _, _, _, _, _, _, _, _, _, _, _, _, _, _, _, _, _ => none
  | k + 1, x1104000, x1104001, x1104002, x1104003, x1104004, x1104005, x1104006, x1104007, x1104008, x1104009, x1104010, x1104011, x1104012, x1104013, x1104014, x1104015, x1104016, x1104017, x1105000, x1105001 => (grids_Compose.f k x1104000 x1104001 x1104002 x1104003 x1104004 x1104005 x1104006 x1104007 x1104008 x1104009 x1104010 x1104011).bind fun bt1121 => ((grids_Compose.f k x1104006 x1104007 x1104008 x1104009 x1104010 x1104011 x1104012 x1104013 x1104014 x1104015 x1104016 x1104017).bind fun bt1129 => (if bt1121.2.2.2.2.2.2 = 0 then (torchonlaw06_GridsBack.j2 k (bt1129.2.2.2.2.2.2 != 0) x1104000 x1104001 x1104002 x1104003 x1104004 x1104005 x1104006 x1104007 x1104008 x1104009 x1104010 x1104011 x1104012 x1104013 x1104014 x1104015 x1104016 x1104017 x1105000 x1105001 bt1121.1 bt1121.2.1 bt1121.2.2.1 bt1121.2.2.2.1 bt1121.2.2.2.2.1 bt1121.2.2.2.2.2.1 bt1129.1 bt1129.2.1 bt1129.2.2.1 bt1129.2.2.2.1 bt1129.2.2.2.2.1 bt1129.2.2.2.2.2.1) else (torchonlaw06_GridsBack.j2 k true x1104000 x1104001 x1104002 x1104003 x1104004 x1104005 x1104006 x1104007 x1104008 x1104009 x1104010 x1104011 x1104012 x1104013 x1104014 x1104015 x1104016 x1104017 x1105000 x1105001 bt1121.1 bt1121.2.1 bt1121.2.2.1 bt1121.2.2.2.1 bt1121.2.2.2.2.1 bt1121.2.2.2.2.2.1 bt1129.1 bt1129.2.1 bt1129.2.2.1 bt1129.2.2.2.1 bt1129.2.2.2.2.1 bt1129.2.2.2.2.2.1)))
def torchonlaw06_GridsBack.j2 : Nat → Bool → Int → Int → Int → Int → Int → Int → Int → Int → Int → Int → Int → Int → Int → Int → Int → Int → Int → Int → Int → Int → Int → Int → Int → Int → Int → Int → Int → Int → Int → Int → Int → Int → Option (Bool)
  | 0, _, _, _, _, _, _, _, _, _, _, _, _, _, _, _, _, _, _, _, _, _, _, _, _, _, _, _, _, _, _, _, _, _ => none
  | k + 1, x76, x1104000, x1104001, x1104002, x1104003, x1104004, x1104005, x1104006, x1104007, x1104008, x1104009, x1104010, x1104011, x1104012, x1104013, x1104014, x1104015, x1104016, x1104017, x1105000, x1105001, x1129000, x1129001, x1129002, x1129003, x1129004, x1129005, x1137000, x1137001, x1137002, x1137003, x1137004, x1137005 => if x76 = true then ((torchonlaw06_awake.f k).bind fun t1137 => (some t1137)) else ((grids_Compose.f k x1129000 x1129001 x1129002 x1129003 x1129004 x1129005 x1104012 x1104013 x1104014 x1104015 x1104016 x1104017).bind fun bt1138 => ((grids_Compose.f k x1104000 x1104001 x1104002 x1104003 x1104004 x1104005 x1137000 x1137001 x1137002 x1137003 x1137004 x1137005).bind fun bt1146 => (if bt1138.2.2.2.2.2.2 = 0 then (if bt1146.2.2.2.2.2.2 = 0 then (if ((!(bt1138.1 == bt1146.1) || (!(bt1138.2.1 == bt1146.2.1) || (!(bt1138.2.2.1 == bt1146.2.2.1) || (!(bt1138.2.2.2.1 == bt1146.2.2.2.1))))) || ((!(bt1138.2.2.2.2.1 == bt1146.2.2.2.2.1) || (!(bt1138.2.2.2.2.2.1 == bt1146.2.2.2.2.2.1))))) = true then (torchonlaw06_GridsBack.j3 k true x1104000 x1104001 x1104002 x1104003 x1104004 x1104005 x1104006 x1104007 x1104008 x1104009 x1104010 x1104011 x1104012 x1104013 x1104014 x1104015 x1104016 x1104017 x1105000 x1105001 x1129000 x1129001 x1129002 x1129003 x1129004 x1129005) else (torchonlaw06_GridsBack.j3 k (bt1138.2.2.2.2.2.2 != bt1146.2.2.2.2.2.2) x1104000 x1104001 x1104002 x1104003 x1104004 x1104005 x1104006 x1104007 x1104008 x1104009 x1104010 x1104011 x1104012 x1104013 x1104014 x1104015 x1104016 x1104017 x1105000 x1105001 x1129000 x1129001 x1129002 x1129003 x1129004 x1129005)) else (torchonlaw06_GridsBack.j3 k (bt1138.2.2.2.2.2.2 != bt1146.2.2.2.2.2.2) x1104000 x1104001 x1104002 x1104003 x1104004 x1104005 x1104006 x1104007 x1104008 x1104009 x1104010 x1104011 x1104012 x1104013 x1104014 x1104015 x1104016 x1104017 x1105000 x1105001 x1129000 x1129001 x1129002 x1129003 x1129004 x1129005)) else (torchonlaw06_GridsBack.j3 k (bt1138.2.2.2.2.2.2 != bt1146.2.2.2.2.2.2) x1104000 x1104001 x1104002 x1104003 x1104004 x1104005 x1104006 x1104007 x1104008 x1104009 x1104010 x1104011 x1104012 x1104013 x1104014 x1104015 x1104016 x1104017 x1105000 x1105001 x1129000 x1129001 x1129002 x1129003 x1129004 x1129005))))
def torchonlaw06_GridsBack.j3 : Nat → Bool → Int → Int → Int → Int → Int → Int → Int → Int → Int → Int → Int → Int → Int → Int → Int → Int → Int → Int → Int → Int → Int → Int → Int → Int → Int → Int → Option (Bool)
  | 0, _, _, _, _, _, _, _, _, _, _, _, _, _, _, _, _, _, _, _, _, _, _, _, _, _, _, _ => none
  | k + 1, x107, x1104000, x1104001, x1104002, x1104003, x1104004, x1104005, x1104006, x1104007, x1104008, x1104009, x1104010, x1104011, x1104012, x1104013, x1104014, x1104015, x1104016, x1104017, x1105000, x1105001, x1129000, x1129001, x1129002, x1129003, x1129004, x1129005 => if x107 = true then (none) else ((grids_Apply.f k x1104006 x1104007 x1104008 x1104009 x1104010 x1104011 x1105000 x1105001).bind fun bt1154 => ((grids_Apply.f k x1104000 x1104001 x1104002 x1104003 x1104004 x1104005 bt1154.1 bt1154.2.1).bind fun bt1158 => ((grids_Apply.f k x1129000 x1129001 x1129002 x1129003 x1129004 x1129005 x1105000 x1105001).bind fun bt1162 => (if bt1154.2.2 = 0 then (if bt1158.2.2 = bt1162.2.2 then (if (bt1158.1 == bt1162.1 && (bt1158.2.1 == bt1162.2.1)) = true then ((torchonlaw06_awake.f k).bind fun t1166 => (some t1166)) else (none)) else (none)) else ((torchonlaw06_awake.f k).bind fun t1167 => (some t1167))))))
end
def torchonlaw06_GridsBack.f (k : Nat) (a0_0 : Int) (a0_1 : Int) (a0_2 : Int) (a0_3 : Int) (a0_4 : Int) (a0_5 : Int) (a0_6 : Int) (a0_7 : Int) (a0_8 : Int) (a0_9 : Int) (a0_10 : Int) (a0_11 : Int) (a0_12 : Int) (a0_13 : Int) (a0_14 : Int) (a0_15 : Int) (a0_16 : Int) (a0_17 : Int) (a1_0 : Int) (a1_1 : Int) : Option (Bool) := (grids_Invert.f k a0_0 a0_1 a0_2 a0_3 a0_4 a0_5).bind fun bt1105 => ((grids_Apply.f k a0_0 a0_1 a0_2 a0_3 a0_4 a0_5 a1_0 a1_1).bind fun bt1113 => (if bt1105.2.2.2.2.2.2 = 0 then (torchonlaw06_GridsBack.j0 k (bt1113.2.2 == 0) a0_0 a0_1 a0_2 a0_3 a0_4 a0_5 a0_6 a0_7 a0_8 a0_9 a0_10 a0_11 a0_12 a0_13 a0_14 a0_15 a0_16 a0_17 a1_0 a1_1 bt1105.1 bt1105.2.1 bt1105.2.2.1 bt1105.2.2.2.1 bt1105.2.2.2.2.1 bt1105.2.2.2.2.2.1 bt1113.1 bt1113.2.1) else (torchonlaw06_GridsBack.j0 k false a0_0 a0_1 a0_2 a0_3 a0_4 a0_5 a0_6 a0_7 a0_8 a0_9 a0_10 a0_11 a0_12 a0_13 a0_14 a0_15 a0_16 a0_17 a1_0 a1_1 bt1105.1 bt1105.2.1 bt1105.2.2.1 bt1105.2.2.2.1 bt1105.2.2.2.2.1 bt1105.2.2.2.2.2.1 bt1113.1 bt1113.2.1)))
theorem torchonlaw06_GridsBack.mono_l : ∀ k, (∀ y0 y1 y2 y3 y4 y5 y6 y7 y8 y9 y10 y11 y12 y13 y14 y15 y16 y17 y18 y19 y20 y21 y22 y23 y24 y25 y26 y27 y28, LeO (torchonlaw06_GridsBack.j0 k y0 y1 y2 y3 y4 y5 y6 y7 y8 y9 y10 y11 y12 y13 y14 y15 y16 y17 y18 y19 y20 y21 y22 y23 y24 y25 y26 y27 y28) (torchonlaw06_GridsBack.j0 (k + 1) y0 y1 y2 y3 y4 y5 y6 y7 y8 y9 y10 y11 y12 y13 y14 y15 y16 y17 y18 y19 y20 y21 y22 y23 y24 y25 y26 y27 y28)) ∧ (∀ y0 y1 y2 y3 y4 y5 y6 y7 y8 y9 y10 y11 y12 y13 y14 y15 y16 y17 y18 y19, LeO (torchonlaw06_GridsBack.j1 k y0 y1 y2 y3 y4 y5 y6 y7 y8 y9 y10 y11 y12 y13 y14 y15 y16 y17 y18 y19) (torchonlaw06_GridsBack.j1 (k + 1) y0 y1 y2 y3 y4 y5 y6 y7 y8 y9 y10 y11 y12 y13 y14 y15 y16 y17 y18 y19)) ∧ (∀ y0 y1 y2 y3 y4 y5 y6 y7 y8 y9 y10 y11 y12 y13 y14 y15 y16 y17 y18 y19 y20 y21 y22 y23 y24 y25 y26 y27 y28 y29 y30 y31 y32, LeO (torchonlaw06_GridsBack.j2 k y0 y1 y2 y3 y4 y5 y6 y7 y8 y9 y10 y11 y12 y13 y14 y15 y16 y17 y18 y19 y20 y21 y22 y23 y24 y25 y26 y27 y28 y29 y30 y31 y32) (torchonlaw06_GridsBack.j2 (k + 1) y0 y1 y2 y3 y4 y5 y6 y7 y8 y9 y10 y11 y12 y13 y14 y15 y16 y17 y18 y19 y20 y21 y22 y23 y24 y25 y26 y27 y28 y29 y30 y31 y32)) ∧ (∀ y0 y1 y2 y3 y4 y5 y6 y7 y8 y9 y10 y11 y12 y13 y14 y15 y16 y17 y18 y19 y20 y21 y22 y23 y24 y25 y26, LeO (torchonlaw06_GridsBack.j3 k y0 y1 y2 y3 y4 y5 y6 y7 y8 y9 y10 y11 y12 y13 y14 y15 y16 y17 y18 y19 y20 y21 y22 y23 y24 y25 y26) (torchonlaw06_GridsBack.j3 (k + 1) y0 y1 y2 y3 y4 y5 y6 y7 y8 y9 y10 y11 y12 y13 y14 y15 y16 y17 y18 y19 y20 y21 y22 y23 y24 y25 y26))
  | 0 => ⟨fun _ _ _ _ _ _ _ _ _ _ _ _ _ _ _ _ _ _ _ _ _ _ _ _ _ _ _ _ _ r h => by simp [torchonlaw06_GridsBack.j0] at h, fun _ _ _ _ _ _ _ _ _ _ _ _ _ _ _ _ _ _ _ _ r h => by simp [torchonlaw06_GridsBack.j1] at h, fun _ _ _ _ _ _ _ _ _ _ _ _ _ _ _ _ _ _ _ _ _ _ _ _ _ _ _ _ _ _ _ _ _ r h => by simp [torchonlaw06_GridsBack.j2] at h, fun _ _ _ _ _ _ _ _ _ _ _ _ _ _ _ _ _ _ _ _ _ _ _ _ _ _ _ r h => by simp [torchonlaw06_GridsBack.j3] at h⟩
  | k + 1 => by
    obtain ⟨ih0, ih1, ih2, ih3⟩ := torchonlaw06_GridsBack.mono_l k
    refine ⟨?_, ?_, ?_, ?_⟩
    · intro y0 y1 y2 y3 y4 y5 y6 y7 y8 y9 y10 y11 y12 y13 y14 y15 y16 y17 y18 y19 y20 y21 y22 y23 y24 y25 y26 y27 y28
      unfold torchonlaw06_GridsBack.j0
      repeat' first
      | (with_reducible exact ih0 _ _ _ _ _ _ _ _ _ _ _ _ _ _ _ _ _ _ _ _ _ _ _ _ _ _ _ _ _)
      | (with_reducible exact ih1 _ _ _ _ _ _ _ _ _ _ _ _ _ _ _ _ _ _ _ _)
      | (with_reducible exact ih2 _ _ _ _ _ _ _ _ _ _ _ _ _ _ _ _ _ _ _ _ _ _ _ _ _ _ _ _ _ _ _ _ _)
      | (with_reducible exact ih3 _ _ _ _ _ _ _ _ _ _ _ _ _ _ _ _ _ _ _ _ _ _ _ _ _ _ _)
      | (with_reducible exact grids_Apply.mono _ _ _ _ _ _ _ _ _)
      | (with_reducible exact grids_Compose.mono _ _ _ _ _ _ _ _ _ _ _ _ _)
      | (with_reducible exact grids_Invert.mono _ _ _ _ _ _ _)
      | (with_reducible exact torchonlaw06_awake.mono _)
      | (with_reducible exact LeO.refl _)
      | (with_reducible exact LeO.none _)
      | (with_reducible refine LeO.ite ?_ ?_)
      | (with_reducible refine LeO.bind ?_ (fun _ => ?_))
      | exact ih0 _ _ _ _ _ _ _ _ _ _ _ _ _ _ _ _ _ _ _ _ _ _ _ _ _ _ _ _ _
      | exact ih1 _ _ _ _ _ _ _ _ _ _ _ _ _ _ _ _ _ _ _ _
      | exact ih2 _ _ _ _ _ _ _ _ _ _ _ _ _ _ _ _ _ _ _ _ _ _ _ _ _ _ _ _ _ _ _ _ _
      | exact ih3 _ _ _ _ _ _ _ _ _ _ _ _ _ _ _ _ _ _ _ _ _ _ _ _ _ _ _
      | exact grids_Apply.mono _ _ _ _ _ _ _ _ _
      | exact grids_Compose.mono _ _ _ _ _ _ _ _ _ _ _ _ _
      | exact grids_Invert.mono _ _ _ _ _ _ _
      | exact torchonlaw06_awake.mono _
      | exact LeO.none _
      | refine LeO.ite ?_ ?_
      | refine LeO.bind ?_ (fun _ => ?_)
    · intro y0 y1 y2 y3 y4 y5 y6 y7 y8 y9 y10 y11 y12 y13 y14 y15 y16 y17 y18 y19
      unfold torchonlaw06_GridsBack.j1
      repeat' first
      | (with_reducible exact ih0 _ _ _ _ _ _ _ _ _ _ _ _ _ _ _ _ _ _ _ _ _ _ _ _ _ _ _ _ _)
      | (with_reducible exact ih1 _ _ _ _ _ _ _ _ _ _ _ _ _ _ _ _ _ _ _ _)
      | (with_reducible exact ih2 _ _ _ _ _ _ _ _ _ _ _ _ _ _ _ _ _ _ _ _ _ _ _ _ _ _ _ _ _ _ _ _ _)
      | (with_reducible exact ih3 _ _ _ _ _ _ _ _ _ _ _ _ _ _ _ _ _ _ _ _ _ _ _ _ _ _ _)
      | (with_reducible exact grids_Apply.mono _ _ _ _ _ _ _ _ _)
      | (with_reducible exact grids_Compose.mono _ _ _ _ _ _ _ _ _ _ _ _ _)
      | (with_reducible exact grids_Invert.mono _ _ _ _ _ _ _)
      | (with_reducible exact torchonlaw06_awake.mono _)
      | (with_reducible exact LeO.refl _)
      | (with_reducible exact LeO.none _)
      | (with_reducible refine LeO.ite ?_ ?_)
      | (with_reducible refine LeO.bind ?_ (fun _ => ?_))
      | exact ih0 _ _ _ _ _ _ _ _ _ _ _ _ _ _ _ _ _ _ _ _ _ _ _ _ _ _ _ _ _
      | exact ih1 _ _ _ _ _ _ _ _ _ _ _ _ _ _ _ _ _ _ _ _
      | exact ih2 _ _ _ _ _ _ _ _ _ _ _ _ _ _ _ _ _ _ _ _ _ _ _ _ _ _ _ _ _ _ _ _ _
      | exact ih3 _ _ _ _ _ _ _ _ _ _ _ _ _ _ _ _ _ _ _ _ _ _ _ _ _ _ _
      | exact grids_Apply.mono _ _ _ _ _ _ _ _ _
      | exact grids_Compose.mono _ _ _ _ _ _ _ _ _ _ _ _ _
      | exact grids_Invert.mono _ _ _ _ _ _ _
      | exact torchonlaw06_awake.mono _
      | exact LeO.none _
      | refine LeO.ite ?_ ?_
      | refine LeO.bind ?_ (fun _ => ?_)
    · intro y0 y1 y2 y3 y4 y5 y6 y7 y8 y9 y10 y11 y12 y13 y14 y15 y16 y17 y18 y19 y20 y21 y22 y23 y24 y25 y26 y27 y28 y29 y30 y31 y32
      unfold torchonlaw06_GridsBack.j2
      repeat' first
      | (with_reducible exact ih0 _ _ _ _ _ _ _ _ _ _ _ _ _ _ _ _ _ _ _ _ _ _ _ _ _ _ _ _ _)
      | (with_reducible exact ih1 _ _ _ _ _ _ _ _ _ _ _ _ _ _ _ _ _ _ _ _)
      | (with_reducible exact ih2 _ _ _ _ _ _ _ _ _ _ _ _ _ _ _ _ _ _ _ _ _ _ _ _ _ _ _ _ _ _ _ _ _)
      | (with_reducible exact ih3 _ _ _ _ _ _ _ _ _ _ _ _ _ _ _ _ _ _ _ _ _ _ _ _ _ _ _)
      | (with_reducible exact grids_Apply.mono _ _ _ _ _ _ _ _ _)
      | (with_reducible exact grids_Compose.mono _ _ _ _ _ _ _ _ _ _ _ _ _)
      | (with_reducible exact grids_Invert.mono _ _ _ _ _ _ _)
      | (with_reducible exact torchonlaw06_awake.mono _)
      | (with_reducible exact LeO.refl _)
      | (with_reducible exact LeO.none _)
      | (with_reducible refine LeO.ite ?_ ?_)
      | (with_reducible refine LeO.bind ?_ (fun _ => ?_))
      | exact ih0 _ _ _ _ _ _ _ _ _ _ _ _ _ _ _ _ _ _ _ _ _ _ _ _ _ _ _ _ _
      | exact ih1 _ _ _ _ _ _ _ _ _ _ _ _ _ _ _ _ _ _ _ _
      | exact ih2 _ _ _ _ _ _ _ _ _ _ _ _ _ _ _ _ _ _ _ _ _ _ _ _ _ _ _ _ _ _ _ _ _
      | exact ih3 _ _ _ _ _ _ _ _ _ _ _ _ _ _ _ _ _ _ _ _ _ _ _ _ _ _ _
      | exact grids_Apply.mono _ _ _ _ _ _ _ _ _
      | exact grids_Compose.mono _ _ _ _ _ _ _ _ _ _ _ _ _
      | exact grids_Invert.mono _ _ _ _ _ _ _
      | exact torchonlaw06_awake.mono _
      | exact LeO.none _
      | refine LeO.ite ?_ ?_
      | refine LeO.bind ?_ (fun _ => ?_)
    · intro y0 y1 y2 y3 y4 y5 y6 y7 y8 y9 y10 y11 y12 y13 y14 y15 y16 y17 y18 y19 y20 y21 y22 y23 y24 y25 y26
      unfold torchonlaw06_GridsBack.j3
      repeat' first
      | (with_reducible exact ih0 _ _ _ _ _ _ _ _ _ _ _ _ _ _ _ _ _ _ _ _ _ _ _ _ _ _ _ _ _)
      | (with_reducible exact ih1 _ _ _ _ _ _ _ _ _ _ _ _ _ _ _ _ _ _ _ _)
      | (with_reducible exact ih2 _ _ _ _ _ _ _ _ _ _ _ _ _ _ _ _ _ _ _ _ _ _ _ _ _ _ _ _ _ _ _ _ _)
      | (with_reducible exact ih3 _ _ _ _ _ _ _ _ _ _ _ _ _ _ _ _ _ _ _ _ _ _ _ _ _ _ _)
      | (with_reducible exact grids_Apply.mono _ _ _ _ _ _ _ _ _)
      | (with_reducible exact grids_Compose.mono _ _ _ _ _ _ _ _ _ _ _ _ _)
      | (with_reducible exact grids_Invert.mono _ _ _ _ _ _ _)
      | (with_reducible exact torchonlaw06_awake.mono _)
      | (with_reducible exact LeO.refl _)
      | (with_reducible exact LeO.none _)
      | (with_reducible refine LeO.ite ?_ ?_)
      | (with_reducible refine LeO.bind ?_ (fun _ => ?_))
      | exact ih0 _ _ _ _ _ _ _ _ _ _ _ _ _ _ _ _ _ _ _ _ _ _ _ _ _ _ _ _ _
      | exact ih1 _ _ _ _ _ _ _ _ _ _ _ _ _ _ _ _ _ _ _ _
      | exact ih2 _ _ _ _ _ _ _ _ _ _ _ _ _ _ _ _ _ _ _ _ _ _ _ _ _ _ _ _ _ _ _ _ _
      | exact ih3 _ _ _ _ _ _ _ _ _ _ _ _ _ _ _ _ _ _ _ _ _ _ _ _ _ _ _
      | exact grids_Apply.mono _ _ _ _ _ _ _ _ _
      | exact grids_Compose.mono _ _ _ _ _ _ _ _ _ _ _ _ _
      | exact grids_Invert.mono _ _ _ _ _ _ _
      | exact torchonlaw06_awake.mono _
      | exact LeO.none _
      | refine LeO.ite ?_ ?_
      | refine LeO.bind ?_ (fun _ => ?_)
theorem torchonlaw06_GridsBack.mono : ∀ a0 a1 a2 a3 a4 a5 a6 a7 a8 a9 a10 a11 a12 a13 a14 a15 a16 a17 a18 a19 k, LeO (torchonlaw06_GridsBack.f k a0 a1 a2 a3 a4 a5 a6 a7 a8 a9 a10 a11 a12 a13 a14 a15 a16 a17 a18 a19) (torchonlaw06_GridsBack.f (k + 1) a0 a1 a2 a3 a4 a5 a6 a7 a8 a9 a10 a11 a12 a13 a14 a15 a16 a17 a18 a19) := by
  intro a0 a1 a2 a3 a4 a5 a6 a7 a8 a9 a10 a11 a12 a13 a14 a15 a16 a17 a18 a19 k
  obtain ⟨ih0, ih1, ih2, ih3⟩ := torchonlaw06_GridsBack.mono_l k
  unfold torchonlaw06_GridsBack.f
  repeat' first
      | (with_reducible exact ih0 _ _ _ _ _ _ _ _ _ _ _ _ _ _ _ _ _ _ _ _ _ _ _ _ _ _ _ _ _)
      | (with_reducible exact ih1 _ _ _ _ _ _ _ _ _ _ _ _ _ _ _ _ _ _ _ _)
      | (with_reducible exact ih2 _ _ _ _ _ _ _ _ _ _ _ _ _ _ _ _ _ _ _ _ _ _ _ _ _ _ _ _ _ _ _ _ _)
      | (with_reducible exact ih3 _ _ _ _ _ _ _ _ _ _ _ _ _ _ _ _ _ _ _ _ _ _ _ _ _ _ _)
      | (with_reducible exact grids_Apply.mono _ _ _ _ _ _ _ _ _)
      | (with_reducible exact grids_Compose.mono _ _ _ _ _ _ _ _ _ _ _ _ _)
      | (with_reducible exact grids_Invert.mono _ _ _ _ _ _ _)
      | (with_reducible exact torchonlaw06_awake.mono _)
      | (with_reducible exact LeO.refl _)
      | (with_reducible exact LeO.none _)
      | (with_reducible refine LeO.ite ?_ ?_)
      | (with_reducible refine LeO.bind ?_ (fun _ => ?_))
      | exact ih0 _ _ _ _ _ _ _ _ _ _ _ _ _ _ _ _ _ _ _ _ _ _ _ _ _ _ _ _ _
      | exact ih1 _ _ _ _ _ _ _ _ _ _ _ _ _ _ _ _ _ _ _ _
      | exact ih2 _ _ _ _ _ _ _ _ _ _ _ _ _ _ _ _ _ _ _ _ _ _ _ _ _ _ _ _ _ _ _ _ _
      | exact ih3 _ _ _ _ _ _ _ _ _ _ _ _ _ _ _ _ _ _ _ _ _ _ _ _ _ _ _
      | exact grids_Apply.mono _ _ _ _ _ _ _ _ _
      | exact grids_Compose.mono _ _ _ _ _ _ _ _ _ _ _ _ _
      | exact grids_Invert.mono _ _ _ _ _ _ _
      | exact torchonlaw06_awake.mono _
      | exact LeO.none _
      | refine LeO.ite ?_ ?_
      | refine LeO.bind ?_ (fun _ => ?_)
set_option maxHeartbeats 8000000 in
set_option maxRecDepth 100000 in
theorem torchonlaw06_GridsBack.calls (k : Nat) (a0_0 : Int) (a0_1 : Int) (a0_2 : Int) (a0_3 : Int) (a0_4 : Int) (a0_5 : Int) (a0_6 : Int) (a0_7 : Int) (a0_8 : Int) (a0_9 : Int) (a0_10 : Int) (a0_11 : Int) (a0_12 : Int) (a0_13 : Int) (a0_14 : Int) (a0_15 : Int) (a0_16 : Int) (a0_17 : Int) (a1_0 : Int) (a1_1 : Int) (r : Bool) (w : World) (h : torchonlaw06_GridsBack.f k a0_0 a0_1 a0_2 a0_3 a0_4 a0_5 a0_6 a0_7 a0_8 a0_9 a0_10 a0_11 a0_12 a0_13 a0_14 a0_15 a0_16 a0_17 a1_0 a1_1 = some r) :
    Calls Try.prog 10 #[.agg #[.int .i64 a0_0, .int .i64 a0_1, .int .i64 a0_2, .int .i64 a0_3, .int .i64 a0_4, .int .i64 a0_5, .int .i64 a0_6, .int .i64 a0_7, .int .i64 a0_8, .int .i64 a0_9, .int .i64 a0_10, .int .i64 a0_11, .int .i64 a0_12, .int .i64 a0_13, .int .i64 a0_14, .int .i64 a0_15, .int .i64 a0_16, .int .i64 a0_17], .agg #[.int .i64 a1_0, .int .i64 a1_1]] w fun e w' => e = .returned (.bool r) ∧ Below w.heap.size w w' := by
  have hu67 := Try.underlying67
  have hu37 := Try.underlying37
  have hu55 := Try.underlying55
  have HB := Aside0.mk (Below.refl w.heap.size w)
  have H : ((grids_Invert.f k a0_0 a0_1 a0_2 a0_3 a0_4 a0_5).bind fun bt1105 => ((grids_Apply.f k a0_0 a0_1 a0_2 a0_3 a0_4 a0_5 a1_0 a1_1).bind fun bt1113 => (if bt1105.2.2.2.2.2.2 = 0 then (torchonlaw06_GridsBack.j0 k (bt1113.2.2 == 0) a0_0 a0_1 a0_2 a0_3 a0_4 a0_5 a0_6 a0_7 a0_8 a0_9 a0_10 a0_11 a0_12 a0_13 a0_14 a0_15 a0_16 a0_17 a1_0 a1_1 bt1105.1 bt1105.2.1 bt1105.2.2.1 bt1105.2.2.2.1 bt1105.2.2.2.2.1 bt1105.2.2.2.2.2.1 bt1113.1 bt1113.2.1) else (torchonlaw06_GridsBack.j0 k false a0_0 a0_1 a0_2 a0_3 a0_4 a0_5 a0_6 a0_7 a0_8 a0_9 a0_10 a0_11 a0_12 a0_13 a0_14 a0_15 a0_16 a0_17 a1_0 a1_1 bt1105.1 bt1105.2.1 bt1105.2.2.1 bt1105.2.2.2.1 bt1105.2.2.2.2.1 bt1105.2.2.2.2.2.1 bt1113.1 bt1113.2.1)))) = some r := h
  clear h
  replace H := Option.bind_eq_some_iff.mp H
  obtain ⟨⟨t1105, t1106, t1107, t1108, t1109, t1110, t1111⟩, A30, H⟩ := H
  replace H : ((grids_Apply.f k a0_0 a0_1 a0_2 a0_3 a0_4 a0_5 a1_0 a1_1).bind fun bt1113 => (if t1111 = 0 then (torchonlaw06_GridsBack.j0 k (bt1113.2.2 == 0) a0_0 a0_1 a0_2 a0_3 a0_4 a0_5 a0_6 a0_7 a0_8 a0_9 a0_10 a0_11 a0_12 a0_13 a0_14 a0_15 a0_16 a0_17 a1_0 a1_1 t1105 t1106 t1107 t1108 t1109 t1110 bt1113.1 bt1113.2.1) else (torchonlaw06_GridsBack.j0 k false a0_0 a0_1 a0_2 a0_3 a0_4 a0_5 a0_6 a0_7 a0_8 a0_9 a0_10 a0_11 a0_12 a0_13 a0_14 a0_15 a0_16 a0_17 a1_0 a1_1 t1105 t1106 t1107 t1108 t1109 t1110 bt1113.1 bt1113.2.1))) = some r := H
  have A3 := Aside0.mk A30
  clear A30
  replace H := Option.bind_eq_some_iff.mp H
  obtain ⟨⟨t1113, t1114, t1115⟩, A40, H⟩ := H
  replace H : (if t1111 = 0 then (torchonlaw06_GridsBack.j0 k (t1115 == 0) a0_0 a0_1 a0_2 a0_3 a0_4 a0_5 a0_6 a0_7 a0_8 a0_9 a0_10 a0_11 a0_12 a0_13 a0_14 a0_15 a0_16 a0_17 a1_0 a1_1 t1105 t1106 t1107 t1108 t1109 t1110 t1113 t1114) else (torchonlaw06_GridsBack.j0 k false a0_0 a0_1 a0_2 a0_3 a0_4 a0_5 a0_6 a0_7 a0_8 a0_9 a0_10 a0_11 a0_12 a0_13 a0_14 a0_15 a0_16 a0_17 a1_0 a1_1 t1105 t1106 t1107 t1108 t1109 t1110 t1113 t1114)) = some r := H
  have A4 := Aside0.mk A40
  clear A40
  have HC5 := Aside0.mk H
  clear H
  go_enter Try.func10, Try.ntmps10
  go_upto_region 3 with (first | ((with_reducible refine gate_dst (N := 2) rfl ?_); refine bx 2 #[.int .i64 a0_0, .int .i64 a0_1, .int .i64 a0_2, .int .i64 a0_3, .int .i64 a0_4, .int .i64 a0_5, .int .i64 a0_6, .int .i64 a0_7, .int .i64 a0_8, .int .i64 a0_9, .int .i64 a0_10, .int .i64 a0_11, .int .i64 a0_12, .int .i64 a0_13, .int .i64 a0_14, .int .i64 a0_15, .int .i64 a0_16, .int .i64 a0_17] 67 fun gb1103 hg w6 BK1103 hb => ?_; have GW1103 := gw hg HB; have GE1103 := gw hg HB; replace HB := bst HB hb; clear hb hg) | ((with_reducible refine gate_dst (N := 3) rfl ?_); refine bx 3 #[.int .i64 a1_0, .int .i64 a1_1] 37 fun gb1104 hg w7 BK1104 hb => ?_; have GW1104 := gw hg HB; have GE1104 := gw hg HB; have NB1103_1104 := nlt hg BK1103; have NB1104_1103 := ngt hg BK1103; replace BK1103 := bb BK1103 hb; replace HB := bst HB hb; clear hb hg; have hnb8 := NB1103_1104.out; have hnc8 := NB1104_1103.out; have ⟨hcz9_0, hcz9_1, hcz9_2, hcz9_3, hcz9_4, hcz9_5, hcz9_6, hcz9_7, hcz9_8, hcz9_9, hcz9_10, hcz9_11, hcz9_12, hcz9_13, hcz9_14, hcz9_15, hcz9_16, hcz9_17, hfz9_0, hfz9_1, hfz9_2, hfz9_3, hfz9_4, hfz9_5, hfz9_6, hfz9_7, hfz9_8, hfz9_9, hfz9_10, hfz9_11, hfz9_12, hfz9_13, hfz9_14, hfz9_15, hfz9_16, hfz9_17⟩ := cf18 BK1103) | ((with_reducible refine gate_callee (f := 31) rfl ?_); refine gl 26 Try.func31 (grids_Invert.calls k a0_0 a0_1 a0_2 a0_3 a0_4 a0_5 t1105 t1106 t1107 t1108 t1109 t1110 t1111 _ A3.out) ?_; rintro e w10 ⟨rfl, hb⟩; refine ⟨_, rfl, ?_⟩; replace BK1103 := bb BK1103 hb; replace BK1104 := bb BK1104 hb; replace HB := bst HB hb; clear hb) | ((with_reducible refine gate_dst (N := 5) rfl ?_); refine bx 5 #[.int .i64 0, .int .i64 0, .int .i64 0, .int .i64 0, .int .i64 0, .int .i64 0] 55 fun gb1112 hg w11 BK1112 hb => ?_; have GW1112 := gw hg HB; have GE1112 := gw hg HB; have NB1103_1112 := nlt hg BK1103; have NB1112_1103 := ngt hg BK1103; have NB1104_1112 := nlt hg BK1104; have NB1112_1104 := ngt hg BK1104; replace BK1103 := bb BK1103 hb; replace BK1104 := bb BK1104 hb; replace HB := bst HB hb; clear hb hg; have hnb12 := NB1112_1103.out; have hnc12 := NB1103_1112.out; have hnb13 := NB1112_1104.out; have hnc13 := NB1104_1112.out; have ⟨hcz14_0, hcz14_1, hcz14_2, hcz14_3, hcz14_4, hcz14_5, hfz14_0, hfz14_1, hfz14_2, hfz14_3, hfz14_4, hfz14_5⟩ := cf6 BK1112) | ((with_reducible refine gate_store (t := 55) (p := 5) rfl ?_); refine sx 55 5 (((((((w11.setCell ⟨gb1112, 0, none⟩ (.int .i64 t1105)).setCell ⟨gb1112, 1, none⟩ (.int .i64 t1106)).setCell ⟨gb1112, 2, none⟩ (.int .i64 t1107)).setCell ⟨gb1112, 3, none⟩ (.int .i64 t1108)).setCell ⟨gb1112, 4, none⟩ (.int .i64 t1109)).setCell ⟨gb1112, 5, none⟩ (.int .i64 t1110))) fun w15 hw => ?_; replace BK1103 := fw hw BK1103; replace BK1104 := fw hw BK1104; replace BK1112 := pw6 hw BK1112; replace HB := bw hw HB; clear hw; have ⟨hcz16_0, hcz16_1, hcz16_2, hcz16_3, hcz16_4, hcz16_5, hcz16_6, hcz16_7, hcz16_8, hcz16_9, hcz16_10, hcz16_11, hcz16_12, hcz16_13, hcz16_14, hcz16_15, hcz16_16, hcz16_17, hfz16_0, hfz16_1, hfz16_2, hfz16_3, hfz16_4, hfz16_5, hfz16_6, hfz16_7, hfz16_8, hfz16_9, hfz16_10, hfz16_11, hfz16_12, hfz16_13, hfz16_14, hfz16_15, hfz16_16, hfz16_17⟩ := cf18 BK1103; have ⟨hcz17_0, hcz17_1, hfz17_0, hfz17_1⟩ := cf2 BK1104) | ((with_reducible refine gate_callee (f := 27) rfl ?_); refine gl 33 Try.func27 (grids_Apply.calls k a0_0 a0_1 a0_2 a0_3 a0_4 a0_5 a1_0 a1_1 t1113 t1114 t1115 _ A4.out) ?_; rintro e w18 ⟨rfl, hb⟩; refine ⟨_, rfl, ?_⟩; replace BK1103 := bb BK1103 hb; replace BK1104 := bb BK1104 hb; replace BK1112 := bb BK1112 hb; replace HB := bst HB hb; clear hb) | ((with_reducible refine gate_dst (N := 7) rfl ?_); refine bx 7 #[.int .i64 0, .int .i64 0] 37 fun gb1116 hg w19 BK1116 hb => ?_; have GW1116 := gw hg HB; have GE1116 := gw hg HB; have NB1103_1116 := nlt hg BK1103; have NB1116_1103 := ngt hg BK1103; have NB1104_1116 := nlt hg BK1104; have NB1116_1104 := ngt hg BK1104; have NB1112_1116 := nlt hg BK1112; have NB1116_1112 := ngt hg BK1112; replace BK1103 := bb BK1103 hb; replace BK1104 := bb BK1104 hb; replace BK1112 := bb BK1112 hb; replace HB := bst HB hb; clear hb hg; have hnb20 := NB1116_1103.out; have hnc20 := NB1103_1116.out; have hnb21 := NB1116_1104.out; have hnc21 := NB1104_1116.out; have hnb22 := NB1116_1112.out; have hnc22 := NB1112_1116.out; have ⟨hcz23_0, hcz23_1, hfz23_0, hfz23_1⟩ := cf2 BK1116))
  (try simp only [Act.put, List.setIfInBounds_toArray, List.set_cons_zero, List.set_cons_succ])
  go_cut [41] (fun v41 wc => ∃ (kq : Nat) (x41_4 : Bool), v41 = .bool x41_4 ∧ Aside0 (torchonlaw06_GridsBack.j0 kq x41_4 a0_0 a0_1 a0_2 a0_3 a0_4 a0_5 a0_6 a0_7 a0_8 a0_9 a0_10 a0_11 a0_12 a0_13 a0_14 a0_15 a0_16 a0_17 a1_0 a1_1 t1105 t1106 t1107 t1108 t1109 t1110 t1113 t1114 = some r) ∧ Aside0 (kq ≤ k) ∧ Aside0 (wc.heap[gb1103]? = some (.cells #[.int .i64 a0_0, .int .i64 a0_1, .int .i64 a0_2, .int .i64 a0_3, .int .i64 a0_4, .int .i64 a0_5, .int .i64 a0_6, .int .i64 a0_7, .int .i64 a0_8, .int .i64 a0_9, .int .i64 a0_10, .int .i64 a0_11, .int .i64 a0_12, .int .i64 a0_13, .int .i64 a0_14, .int .i64 a0_15, .int .i64 a0_16, .int .i64 a0_17] 67 (0, 0))) ∧ Aside0 (wc.heap[gb1104]? = some (.cells #[.int .i64 a1_0, .int .i64 a1_1] 37 (0, 0))) ∧ Aside0 (wc.heap[gb1112]? = some (.cells #[.int .i64 t1105, .int .i64 t1106, .int .i64 t1107, .int .i64 t1108, .int .i64 t1109, .int .i64 t1110] 55 (0, 0))) ∧ Aside0 (wc.heap[gb1116]? = some (.cells #[.int .i64 t1113, .int .i64 t1114] 37 (0, 0))) ∧ Aside0 (Below w.heap.size w wc))
  case first =>
    have H := HC5.out
    clear HC5
    by_cases c24 : t1111 = 0
    · rw [if_pos c24] at H
      have c24b0 : (t1111 == 0) = true := beq_iff_eq.mpr c24
      have c24b1 : (t1111 != 0) = false := bne_eq_false_iff_eq.mpr c24
      clear c24
      (first | rw [c24b0] | (simp only [i64_w, i32_w]; rw [c24b0]) | skip)
      have H' := Aside0.mk H
      clear H
      go_wp2
      go_meet
      case rel => exact ⟨_, ((t1115 == 0)), (by first | rfl | (simp; done) | (simp [*]; done)), H', ⟨by first | omega | exact Nat.le_refl _⟩, ⟨by (with_reducible repeat (first | refine blk_drewN ?_ _ | refine blk_drew ?_ | refine blk_alloc ?_ _)); refine blk_far ?_ NB1103_1116.out _; (with_reducible repeat (first | refine blk_drewN ?_ _ | refine blk_drew ?_ | refine blk_alloc ?_ _)); refine blk_far ?_ NB1103_1116.out _; (with_reducible repeat (first | refine blk_drewN ?_ _ | refine blk_drew ?_ | refine blk_alloc ?_ _)); exact BK1103.out⟩, ⟨by (with_reducible repeat (first | refine blk_drewN ?_ _ | refine blk_drew ?_ | refine blk_alloc ?_ _)); refine blk_far ?_ NB1104_1116.out _; (with_reducible repeat (first | refine blk_drewN ?_ _ | refine blk_drew ?_ | refine blk_alloc ?_ _)); refine blk_far ?_ NB1104_1116.out _; (with_reducible repeat (first | refine blk_drewN ?_ _ | refine blk_drew ?_ | refine blk_alloc ?_ _)); exact BK1104.out⟩, ⟨by (with_reducible repeat (first | refine blk_drewN ?_ _ | refine blk_drew ?_ | refine blk_alloc ?_ _)); refine blk_far ?_ NB1112_1116.out _; (with_reducible repeat (first | refine blk_drewN ?_ _ | refine blk_drew ?_ | refine blk_alloc ?_ _)); refine blk_far ?_ NB1112_1116.out _; (with_reducible repeat (first | refine blk_drewN ?_ _ | refine blk_drew ?_ | refine blk_alloc ?_ _)); exact BK1112.out⟩, ⟨by (with_reducible repeat (first | refine blk_drewN ?_ _ | refine blk_drew ?_ | refine blk_alloc ?_ _)); refine blk_put (cs := #[.int .i64 t1113, .int .i64 0]) ?_ 1 _ rfl; (with_reducible repeat (first | refine blk_drewN ?_ _ | refine blk_drew ?_ | refine blk_alloc ?_ _)); refine blk_put (cs := #[.int .i64 0, .int .i64 0]) ?_ 0 _ rfl; (with_reducible repeat (first | refine blk_drewN ?_ _ | refine blk_drew ?_ | refine blk_alloc ?_ _)); exact BK1116.out⟩, ⟨bnow HB⟩⟩
    · rw [if_neg c24] at H
      have c24b0 : (t1111 == 0) = false := beq_eq_false_iff_ne.mpr c24
      have c24b1 : (t1111 != 0) = true := bne_iff_ne.mpr c24
      (first | rw [c24b0] | (simp only [i64_w, i32_w]; rw [c24b0]) | skip)
      have H' := Aside0.mk H
      clear H
      go_wp2
      go_meet
      case rel => exact ⟨_, (false), (by first | rfl | (simp; done) | (simp [*]; done)), H', ⟨by first | omega | exact Nat.le_refl _⟩, ⟨by (with_reducible repeat (first | refine blk_drewN ?_ _ | refine blk_drew ?_ | refine blk_alloc ?_ _)); refine blk_far ?_ NB1103_1116.out _; (with_reducible repeat (first | refine blk_drewN ?_ _ | refine blk_drew ?_ | refine blk_alloc ?_ _)); refine blk_far ?_ NB1103_1116.out _; (with_reducible repeat (first | refine blk_drewN ?_ _ | refine blk_drew ?_ | refine blk_alloc ?_ _)); exact BK1103.out⟩, ⟨by (with_reducible repeat (first | refine blk_drewN ?_ _ | refine blk_drew ?_ | refine blk_alloc ?_ _)); refine blk_far ?_ NB1104_1116.out _; (with_reducible repeat (first | refine blk_drewN ?_ _ | refine blk_drew ?_ | refine blk_alloc ?_ _)); refine blk_far ?_ NB1104_1116.out _; (with_reducible repeat (first | refine blk_drewN ?_ _ | refine blk_drew ?_ | refine blk_alloc ?_ _)); exact BK1104.out⟩, ⟨by (with_reducible repeat (first | refine blk_drewN ?_ _ | refine blk_drew ?_ | refine blk_alloc ?_ _)); refine blk_far ?_ NB1112_1116.out _; (with_reducible repeat (first | refine blk_drewN ?_ _ | refine blk_drew ?_ | refine blk_alloc ?_ _)); refine blk_far ?_ NB1112_1116.out _; (with_reducible repeat (first | refine blk_drewN ?_ _ | refine blk_drew ?_ | refine blk_alloc ?_ _)); exact BK1112.out⟩, ⟨by (with_reducible repeat (first | refine blk_drewN ?_ _ | refine blk_drew ?_ | refine blk_alloc ?_ _)); refine blk_put (cs := #[.int .i64 t1113, .int .i64 0]) ?_ 1 _ rfl; (with_reducible repeat (first | refine blk_drewN ?_ _ | refine blk_drew ?_ | refine blk_alloc ?_ _)); refine blk_put (cs := #[.int .i64 0, .int .i64 0]) ?_ 0 _ rfl; (with_reducible repeat (first | refine blk_drewN ?_ _ | refine blk_drew ?_ | refine blk_alloc ?_ _)); exact BK1116.out⟩, ⟨bnow HB⟩⟩
  case rest =>
    clear HC5
    try clear c1; try clear c2; try clear p2; try clear c3; try clear c8; try clear c10; try clear c12; try clear c13; try clear c20; try clear c21; try clear c22; try clear c24; try clear c24b0; try clear c24b1; try clear hcz14_0; try clear hcz14_1; try clear hcz14_2; try clear hcz14_3; try clear hcz14_4; try clear hcz14_5; try clear hcz16_0; try clear hcz16_1; try clear hcz16_10; try clear hcz16_11; try clear hcz16_12; try clear hcz16_13; try clear hcz16_14; try clear hcz16_15; try clear hcz16_16; try clear hcz16_17; try clear hcz16_2; try clear hcz16_3; try clear hcz16_4; try clear hcz16_5; try clear hcz16_6; try clear hcz16_7; try clear hcz16_8; try clear hcz16_9; try clear hcz17_0; try clear hcz17_1; try clear hcz23_0; try clear hcz23_1; try clear hcz9_0; try clear hcz9_1; try clear hcz9_10; try clear hcz9_11; try clear hcz9_12; try clear hcz9_13; try clear hcz9_14; try clear hcz9_15; try clear hcz9_16; try clear hcz9_17; try clear hcz9_2; try clear hcz9_3; try clear hcz9_4; try clear hcz9_5; try clear hcz9_6; try clear hcz9_7; try clear hcz9_8; try clear hcz9_9; try clear hfz14_0; try clear hfz14_1; try clear hfz14_2; try clear hfz14_3; try clear hfz14_4; try clear hfz14_5; try clear hfz16_0; try clear hfz16_1; try clear hfz16_10; try clear hfz16_11; try clear hfz16_12; try clear hfz16_13; try clear hfz16_14; try clear hfz16_15; try clear hfz16_16; try clear hfz16_17; try clear hfz16_2; try clear hfz16_3; try clear hfz16_4; try clear hfz16_5; try clear hfz16_6; try clear hfz16_7; try clear hfz16_8; try clear hfz16_9; try clear hfz17_0; try clear hfz17_1; try clear hfz23_0; try clear hfz23_1; try clear hfz9_0; try clear hfz9_1; try clear hfz9_10; try clear hfz9_11; try clear hfz9_12; try clear hfz9_13; try clear hfz9_14; try clear hfz9_15; try clear hfz9_16; try clear hfz9_17; try clear hfz9_2; try clear hfz9_3; try clear hfz9_4; try clear hfz9_5; try clear hfz9_6; try clear hfz9_7; try clear hfz9_8; try clear hfz9_9
    obtain ⟨kq, x41_4, rfl, HA, HJ4, BK1103, BK1104, BK1112, BK1116, HB⟩ := hcut
    cases kq with
    | zero => exact absurd HA.out (by simp [torchonlaw06_GridsBack.j0])
    | succ kj4 =>
      have H := HA.out
      clear HA
      simp only [torchonlaw06_GridsBack.j0] at H
      have HC25 := Aside0.mk H
      clear H
      go_upto_if 41 with (fail)
      go_cut [] (fun wc => ∃ (kq : Nat), Aside0 (torchonlaw06_GridsBack.j1 kq a0_0 a0_1 a0_2 a0_3 a0_4 a0_5 a0_6 a0_7 a0_8 a0_9 a0_10 a0_11 a0_12 a0_13 a0_14 a0_15 a0_16 a0_17 a1_0 a1_1 = some r) ∧ Aside0 (kq ≤ kj4) ∧ Aside0 (wc.heap[gb1103]? = some (.cells #[.int .i64 a0_0, .int .i64 a0_1, .int .i64 a0_2, .int .i64 a0_3, .int .i64 a0_4, .int .i64 a0_5, .int .i64 a0_6, .int .i64 a0_7, .int .i64 a0_8, .int .i64 a0_9, .int .i64 a0_10, .int .i64 a0_11, .int .i64 a0_12, .int .i64 a0_13, .int .i64 a0_14, .int .i64 a0_15, .int .i64 a0_16, .int .i64 a0_17] 67 (0, 0))) ∧ Aside0 (wc.heap[gb1104]? = some (.cells #[.int .i64 a1_0, .int .i64 a1_1] 37 (0, 0))) ∧ Aside0 (wc.heap[gb1112]? = some (.cells #[.int .i64 t1105, .int .i64 t1106, .int .i64 t1107, .int .i64 t1108, .int .i64 t1109, .int .i64 t1110] 55 (0, 0))) ∧ Aside0 (wc.heap[gb1116]? = some (.cells #[.int .i64 t1113, .int .i64 t1114] 37 (0, 0))) ∧ Aside0 (Below w.heap.size w wc))
      case first =>
        have H := HC25.out
        clear HC25
        by_cases c26 : x41_4 = true
        · subst c26
          have H1 : ((grids_Apply.f kj4 t1105 t1106 t1107 t1108 t1109 t1110 t1113 t1114).bind fun bt1117 => (if bt1117.2.2 = 0 then (if (!(bt1117.1 == a1_0) || (!(bt1117.2.1 == a1_1))) = true then (none) else (torchonlaw06_GridsBack.j1 kj4 a0_0 a0_1 a0_2 a0_3 a0_4 a0_5 a0_6 a0_7 a0_8 a0_9 a0_10 a0_11 a0_12 a0_13 a0_14 a0_15 a0_16 a0_17 a1_0 a1_1)) else (none))) = some r := by rw [if_pos rfl] at H; exact H
          clear H
          have H := H1
          clear H1
          replace H := Option.bind_eq_some_iff.mp H
          obtain ⟨⟨t1117, t1118, t1119⟩, A270, H⟩ := H
          replace H : (if t1119 = 0 then (if (!(t1117 == a1_0) || (!(t1118 == a1_1))) = true then (none) else (torchonlaw06_GridsBack.j1 kj4 a0_0 a0_1 a0_2 a0_3 a0_4 a0_5 a0_6 a0_7 a0_8 a0_9 a0_10 a0_11 a0_12 a0_13 a0_14 a0_15 a0_16 a0_17 a1_0 a1_1)) else (none)) = some r := H
          have A27 := Aside0.mk A270
          clear A270
          by_cases c28 : t1119 = 0
          · rw [if_pos c28] at H
            have c28b0 : (t1119 == 0) = true := beq_iff_eq.mpr c28
            have c28b1 : (t1119 != 0) = false := bne_eq_false_iff_eq.mpr c28
            clear c28
            (first | rw [c28b0] | (simp only [i64_w, i32_w]; rw [c28b0]) | skip)
            by_cases c29 : (!(t1117 == a1_0) || (!(t1118 == a1_1))) = true
            · rw [if_pos c29] at H
              exact absurd H (by simp)
            · rw [if_neg c29] at H
              have c29b0 : (!(t1117 == a1_0) || (!(t1118 == a1_1))) = false := by simpa using c29
              clear c29
              have H' := Aside0.mk H
              clear H
              have hnb30 := NB1112_1103.out
              have hnc30 := NB1103_1112.out
              have hnb31 := NB1112_1104.out
              have hnc31 := NB1104_1112.out
              have hnb32 := NB1112_1116.out
              have hnc32 := NB1116_1112.out
              have ⟨hcz33_0, hcz33_1, hcz33_2, hcz33_3, hcz33_4, hcz33_5, hfz33_0, hfz33_1, hfz33_2, hfz33_3, hfz33_4, hfz33_5⟩ := cf6 BK1112
              have hnb34 := NB1116_1103.out
              have hnc34 := NB1103_1116.out
              have hnb35 := NB1116_1104.out
              have hnc35 := NB1104_1116.out
              have ⟨hcz36_0, hcz36_1, hfz36_0, hfz36_1⟩ := cf2 BK1116
              go_wp2_with (first | ((with_reducible refine gate_callee (f := 27) rfl ?_); refine gl 45 Try.func27 (grids_Apply.calls kj4 t1105 t1106 t1107 t1108 t1109 t1110 t1113 t1114 t1117 t1118 t1119 _ A27.out) ?_; rintro e w37 ⟨rfl, hb⟩; refine ⟨_, rfl, ?_⟩; replace BK1103 := bb BK1103 hb; replace BK1104 := bb BK1104 hb; replace BK1112 := bb BK1112 hb; replace BK1116 := bb BK1116 hb; replace HB := bst HB hb; clear hb) | ((with_reducible refine gate_dst (N := 9) rfl ?_); refine bx 9 #[.int .i64 0, .int .i64 0] 37 fun gb1120 hg w38 BK1120 hb => ?_; have GW1120 := gw hg HB; have GE1120 := gw hg HB; have NB1103_1120 := nlt hg BK1103; have NB1120_1103 := ngt hg BK1103; have NB1104_1120 := nlt hg BK1104; have NB1120_1104 := ngt hg BK1104; have NB1112_1120 := nlt hg BK1112; have NB1120_1112 := ngt hg BK1112; have NB1116_1120 := nlt hg BK1116; have NB1120_1116 := ngt hg BK1116; replace BK1103 := bb BK1103 hb; replace BK1104 := bb BK1104 hb; replace BK1112 := bb BK1112 hb; replace BK1116 := bb BK1116 hb; replace HB := bst HB hb; clear hb hg; have hnb39 := NB1120_1103.out; have hnc39 := NB1103_1120.out; have hnb40 := NB1120_1104.out; have hnc40 := NB1104_1120.out; have hnb41 := NB1120_1112.out; have hnc41 := NB1112_1120.out; have hnb42 := NB1120_1116.out; have hnc42 := NB1116_1120.out; have ⟨hcz43_0, hcz43_1, hfz43_0, hfz43_1⟩ := cf2 BK1120; have hnb44 := NB1104_1103.out; have hnc44 := NB1103_1104.out; have ⟨hcz45_0, hcz45_1, hfz45_0, hfz45_1⟩ := cf2 BK1104))
              go_meet
              case rel => exact ⟨_, H', ⟨by have := HJ4.out; first | omega | exact Nat.le_refl _⟩, ⟨by (with_reducible repeat (first | refine blk_drewN ?_ _ | refine blk_drew ?_ | refine blk_alloc ?_ _)); refine blk_far ?_ NB1103_1120.out _; (with_reducible repeat (first | refine blk_drewN ?_ _ | refine blk_drew ?_ | refine blk_alloc ?_ _)); refine blk_far ?_ NB1103_1120.out _; (with_reducible repeat (first | refine blk_drewN ?_ _ | refine blk_drew ?_ | refine blk_alloc ?_ _)); exact BK1103.out⟩, ⟨by (with_reducible repeat (first | refine blk_drewN ?_ _ | refine blk_drew ?_ | refine blk_alloc ?_ _)); refine blk_far ?_ NB1104_1120.out _; (with_reducible repeat (first | refine blk_drewN ?_ _ | refine blk_drew ?_ | refine blk_alloc ?_ _)); refine blk_far ?_ NB1104_1120.out _; (with_reducible repeat (first | refine blk_drewN ?_ _ | refine blk_drew ?_ | refine blk_alloc ?_ _)); exact BK1104.out⟩, ⟨by (with_reducible repeat (first | refine blk_drewN ?_ _ | refine blk_drew ?_ | refine blk_alloc ?_ _)); refine blk_far ?_ NB1112_1120.out _; (with_reducible repeat (first | refine blk_drewN ?_ _ | refine blk_drew ?_ | refine blk_alloc ?_ _)); refine blk_far ?_ NB1112_1120.out _; (with_reducible repeat (first | refine blk_drewN ?_ _ | refine blk_drew ?_ | refine blk_alloc ?_ _)); exact BK1112.out⟩, ⟨by (with_reducible repeat (first | refine blk_drewN ?_ _ | refine blk_drew ?_ | refine blk_alloc ?_ _)); refine blk_far ?_ NB1116_1120.out _; (with_reducible repeat (first | refine blk_drewN ?_ _ | refine blk_drew ?_ | refine blk_alloc ?_ _)); refine blk_far ?_ NB1116_1120.out _; (with_reducible repeat (first | refine blk_drewN ?_ _ | refine blk_drew ?_ | refine blk_alloc ?_ _)); exact BK1116.out⟩, ⟨bnow HB⟩⟩
          · rw [if_neg c28] at H
            exact absurd H (by simp)
        · replace c26 := Bool.eq_false_iff.mpr c26
          subst c26
          have H1 : (torchonlaw06_GridsBack.j1 kj4 a0_0 a0_1 a0_2 a0_3 a0_4 a0_5 a0_6 a0_7 a0_8 a0_9 a0_10 a0_11 a0_12 a0_13 a0_14 a0_15 a0_16 a0_17 a1_0 a1_1) = some r := by rw [if_neg (show ¬ (false = true) by decide)] at H; exact H
          clear H
          have H := H1
          clear H1
          have H' := Aside0.mk H
          clear H
          go_wp2
          go_meet
          case rel => exact ⟨_, H', ⟨by have := HJ4.out; first | omega | exact Nat.le_refl _⟩, ⟨pk BK1103⟩, ⟨pk BK1104⟩, ⟨pk BK1112⟩, ⟨pk BK1116⟩, ⟨bnow HB⟩⟩
      case rest =>
        clear HC25
        try clear c1; try clear c2; try clear p2; try clear c3; try clear c4; try clear c8; try clear c10; try clear c12; try clear c13; try clear c20; try clear c21; try clear c22; try clear c24; try clear c24b0; try clear c24b1; try clear c26; try clear c27; try clear c28; try clear c28b0; try clear c28b1; try clear c29; try clear c29b0; try clear c30; try clear c31; try clear c32; try clear c34; try clear c35; try clear c39; try clear c40; try clear c41; try clear c42; try clear c44; try clear hcz14_0; try clear hcz14_1; try clear hcz14_2; try clear hcz14_3; try clear hcz14_4; try clear hcz14_5; try clear hcz16_0; try clear hcz16_1; try clear hcz16_10; try clear hcz16_11; try clear hcz16_12; try clear hcz16_13; try clear hcz16_14; try clear hcz16_15; try clear hcz16_16; try clear hcz16_17; try clear hcz16_2; try clear hcz16_3; try clear hcz16_4; try clear hcz16_5; try clear hcz16_6; try clear hcz16_7; try clear hcz16_8; try clear hcz16_9; try clear hcz17_0; try clear hcz17_1; try clear hcz23_0; try clear hcz23_1; try clear hcz33_0; try clear hcz33_1; try clear hcz33_2; try clear hcz33_3; try clear hcz33_4; try clear hcz33_5; try clear hcz36_0; try clear hcz36_1; try clear hcz43_0; try clear hcz43_1; try clear hcz45_0; try clear hcz45_1; try clear hcz9_0; try clear hcz9_1; try clear hcz9_10; try clear hcz9_11; try clear hcz9_12; try clear hcz9_13; try clear hcz9_14; try clear hcz9_15; try clear hcz9_16; try clear hcz9_17; try clear hcz9_2; try clear hcz9_3; try clear hcz9_4; try clear hcz9_5; try clear hcz9_6; try clear hcz9_7; try clear hcz9_8; try clear hcz9_9; try clear hfz14_0; try clear hfz14_1; try clear hfz14_2; try clear hfz14_3; try clear hfz14_4; try clear hfz14_5; try clear hfz16_0; try clear hfz16_1; try clear hfz16_10; try clear hfz16_11; try clear hfz16_12; try clear hfz16_13; try clear hfz16_14; try clear hfz16_15; try clear hfz16_16; try clear hfz16_17; try clear hfz16_2; try clear hfz16_3; try clear hfz16_4; try clear hfz16_5; try clear hfz16_6; try clear hfz16_7; try clear hfz16_8; try clear hfz16_9; try clear hfz17_0; try clear hfz17_1; try clear hfz23_0; try clear hfz23_1; try clear hfz33_0; try clear hfz33_1; try clear hfz33_2; try clear hfz33_3; try clear hfz33_4; try clear hfz33_5; try clear hfz36_0; try clear hfz36_1; try clear hfz43_0; try clear hfz43_1; try clear hfz45_0; try clear hfz45_1; try clear hfz9_0; try clear hfz9_1; try clear hfz9_10; try clear hfz9_11; try clear hfz9_12; try clear hfz9_13; try clear hfz9_14; try clear hfz9_15; try clear hfz9_16; try clear hfz9_17; try clear hfz9_2; try clear hfz9_3; try clear hfz9_4; try clear hfz9_5; try clear hfz9_6; try clear hfz9_7; try clear hfz9_8; try clear hfz9_9; try clear p2
        obtain ⟨kq, HA, HJ24, BK1103, BK1104, BK1112, BK1116, HB⟩ := hcut
        cases kq with
        | zero => exact absurd HA.out (by simp [torchonlaw06_GridsBack.j1])
        | succ kj24 =>
          have H := HA.out
          clear HA
          simp only [torchonlaw06_GridsBack.j1] at H
          replace H := Option.bind_eq_some_iff.mp H
          obtain ⟨⟨t1121, t1122, t1123, t1124, t1125, t1126, t1127⟩, A460, H⟩ := H
          replace H : ((grids_Compose.f kj24 a0_6 a0_7 a0_8 a0_9 a0_10 a0_11 a0_12 a0_13 a0_14 a0_15 a0_16 a0_17).bind fun bt1129 => (if t1127 = 0 then (torchonlaw06_GridsBack.j2 kj24 (bt1129.2.2.2.2.2.2 != 0) a0_0 a0_1 a0_2 a0_3 a0_4 a0_5 a0_6 a0_7 a0_8 a0_9 a0_10 a0_11 a0_12 a0_13 a0_14 a0_15 a0_16 a0_17 a1_0 a1_1 t1121 t1122 t1123 t1124 t1125 t1126 bt1129.1 bt1129.2.1 bt1129.2.2.1 bt1129.2.2.2.1 bt1129.2.2.2.2.1 bt1129.2.2.2.2.2.1) else (torchonlaw06_GridsBack.j2 kj24 true a0_0 a0_1 a0_2 a0_3 a0_4 a0_5 a0_6 a0_7 a0_8 a0_9 a0_10 a0_11 a0_12 a0_13 a0_14 a0_15 a0_16 a0_17 a1_0 a1_1 t1121 t1122 t1123 t1124 t1125 t1126 bt1129.1 bt1129.2.1 bt1129.2.2.1 bt1129.2.2.2.1 bt1129.2.2.2.2.1 bt1129.2.2.2.2.2.1))) = some r := H
          have A46 := Aside0.mk A460
          clear A460
          replace H := Option.bind_eq_some_iff.mp H
          obtain ⟨⟨t1129, t1130, t1131, t1132, t1133, t1134, t1135⟩, A470, H⟩ := H
          replace H : (if t1127 = 0 then (torchonlaw06_GridsBack.j2 kj24 (t1135 != 0) a0_0 a0_1 a0_2 a0_3 a0_4 a0_5 a0_6 a0_7 a0_8 a0_9 a0_10 a0_11 a0_12 a0_13 a0_14 a0_15 a0_16 a0_17 a1_0 a1_1 t1121 t1122 t1123 t1124 t1125 t1126 t1129 t1130 t1131 t1132 t1133 t1134) else (torchonlaw06_GridsBack.j2 kj24 true a0_0 a0_1 a0_2 a0_3 a0_4 a0_5 a0_6 a0_7 a0_8 a0_9 a0_10 a0_11 a0_12 a0_13 a0_14 a0_15 a0_16 a0_17 a1_0 a1_1 t1121 t1122 t1123 t1124 t1125 t1126 t1129 t1130 t1131 t1132 t1133 t1134)) = some r := H
          have A47 := Aside0.mk A470
          clear A470
          have HC48 := Aside0.mk H
          clear H
          have hnb49 := NB1103_1104.out
          have hnc49 := NB1104_1103.out
          have hnb50 := NB1103_1112.out
          have hnc50 := NB1112_1103.out
          have hnb51 := NB1103_1116.out
          have hnc51 := NB1116_1103.out
          have ⟨hcz52_0, hcz52_1, hcz52_2, hcz52_3, hcz52_4, hcz52_5, hcz52_6, hcz52_7, hcz52_8, hcz52_9, hcz52_10, hcz52_11, hcz52_12, hcz52_13, hcz52_14, hcz52_15, hcz52_16, hcz52_17, hfz52_0, hfz52_1, hfz52_2, hfz52_3, hfz52_4, hfz52_5, hfz52_6, hfz52_7, hfz52_8, hfz52_9, hfz52_10, hfz52_11, hfz52_12, hfz52_13, hfz52_14, hfz52_15, hfz52_16, hfz52_17⟩ := cf18 BK1103
          go_upto_region 9 with (first | ((with_reducible refine gate_callee (f := 29) rfl ?_); refine gl 60 Try.func29 (grids_Compose.calls kj24 a0_0 a0_1 a0_2 a0_3 a0_4 a0_5 a0_6 a0_7 a0_8 a0_9 a0_10 a0_11 t1121 t1122 t1123 t1124 t1125 t1126 t1127 _ A46.out) ?_; rintro e w53 ⟨rfl, hb⟩; refine ⟨_, rfl, ?_⟩; replace BK1103 := bb BK1103 hb; replace BK1104 := bb BK1104 hb; replace BK1112 := bb BK1112 hb; replace BK1116 := bb BK1116 hb; replace HB := bst HB hb; clear hb) | ((with_reducible refine gate_dst (N := 11) rfl ?_); refine bx 11 #[.int .i64 0, .int .i64 0, .int .i64 0, .int .i64 0, .int .i64 0, .int .i64 0] 55 fun gb1128 hg w54 BK1128 hb => ?_; have GW1128 := gw hg HB; have GE1128 := gw hg HB; have NB1103_1128 := nlt hg BK1103; have NB1128_1103 := ngt hg BK1103; have NB1104_1128 := nlt hg BK1104; have NB1128_1104 := ngt hg BK1104; have NB1112_1128 := nlt hg BK1112; have NB1128_1112 := ngt hg BK1112; have NB1116_1128 := nlt hg BK1116; have NB1128_1116 := ngt hg BK1116; replace BK1103 := bb BK1103 hb; replace BK1104 := bb BK1104 hb; replace BK1112 := bb BK1112 hb; replace BK1116 := bb BK1116 hb; replace HB := bst HB hb; clear hb hg; have hnb55 := NB1128_1103.out; have hnc55 := NB1103_1128.out; have hnb56 := NB1128_1104.out; have hnc56 := NB1104_1128.out; have hnb57 := NB1128_1112.out; have hnc57 := NB1112_1128.out; have hnb58 := NB1128_1116.out; have hnc58 := NB1116_1128.out; have ⟨hcz59_0, hcz59_1, hcz59_2, hcz59_3, hcz59_4, hcz59_5, hfz59_0, hfz59_1, hfz59_2, hfz59_3, hfz59_4, hfz59_5⟩ := cf6 BK1128) | ((with_reducible refine gate_store (t := 55) (p := 11) rfl ?_); refine sx 55 11 (((((((w54.setCell ⟨gb1128, 0, none⟩ (.int .i64 t1121)).setCell ⟨gb1128, 1, none⟩ (.int .i64 t1122)).setCell ⟨gb1128, 2, none⟩ (.int .i64 t1123)).setCell ⟨gb1128, 3, none⟩ (.int .i64 t1124)).setCell ⟨gb1128, 4, none⟩ (.int .i64 t1125)).setCell ⟨gb1128, 5, none⟩ (.int .i64 t1126))) fun w60 hw => ?_; replace BK1103 := fw hw BK1103; replace BK1104 := fw hw BK1104; replace BK1112 := fw hw BK1112; replace BK1116 := fw hw BK1116; replace BK1128 := pw6 hw BK1128; replace HB := bw hw HB; clear hw; have ⟨hcz61_0, hcz61_1, hcz61_2, hcz61_3, hcz61_4, hcz61_5, hcz61_6, hcz61_7, hcz61_8, hcz61_9, hcz61_10, hcz61_11, hcz61_12, hcz61_13, hcz61_14, hcz61_15, hcz61_16, hcz61_17, hfz61_0, hfz61_1, hfz61_2, hfz61_3, hfz61_4, hfz61_5, hfz61_6, hfz61_7, hfz61_8, hfz61_9, hfz61_10, hfz61_11, hfz61_12, hfz61_13, hfz61_14, hfz61_15, hfz61_16, hfz61_17⟩ := cf18 BK1103) | ((with_reducible refine gate_callee (f := 29) rfl ?_); refine gl 68 Try.func29 (grids_Compose.calls kj24 a0_6 a0_7 a0_8 a0_9 a0_10 a0_11 a0_12 a0_13 a0_14 a0_15 a0_16 a0_17 t1129 t1130 t1131 t1132 t1133 t1134 t1135 _ A47.out) ?_; rintro e w62 ⟨rfl, hb⟩; refine ⟨_, rfl, ?_⟩; replace BK1103 := bb BK1103 hb; replace BK1104 := bb BK1104 hb; replace BK1112 := bb BK1112 hb; replace BK1116 := bb BK1116 hb; replace BK1128 := bb BK1128 hb; replace HB := bst HB hb; clear hb) | ((with_reducible refine gate_dst (N := 12) rfl ?_); refine bx 12 #[.int .i64 0, .int .i64 0, .int .i64 0, .int .i64 0, .int .i64 0, .int .i64 0] 55 fun gb1136 hg w63 BK1136 hb => ?_; have GW1136 := gw hg HB; have GE1136 := gw hg HB; have NB1103_1136 := nlt hg BK1103; have NB1136_1103 := ngt hg BK1103; have NB1104_1136 := nlt hg BK1104; have NB1136_1104 := ngt hg BK1104; have NB1112_1136 := nlt hg BK1112; have NB1136_1112 := ngt hg BK1112; have NB1116_1136 := nlt hg BK1116; have NB1136_1116 := ngt hg BK1116; have NB1128_1136 := nlt hg BK1128; have NB1136_1128 := ngt hg BK1128; replace BK1103 := bb BK1103 hb; replace BK1104 := bb BK1104 hb; replace BK1112 := bb BK1112 hb; replace BK1116 := bb BK1116 hb; replace BK1128 := bb BK1128 hb; replace HB := bst HB hb; clear hb hg; have hnb64 := NB1136_1103.out; have hnc64 := NB1103_1136.out; have hnb65 := NB1136_1104.out; have hnc65 := NB1104_1136.out; have hnb66 := NB1136_1112.out; have hnc66 := NB1112_1136.out; have hnb67 := NB1136_1116.out; have hnc67 := NB1116_1136.out; have hnb68 := NB1136_1128.out; have hnc68 := NB1128_1136.out; have ⟨hcz69_0, hcz69_1, hcz69_2, hcz69_3, hcz69_4, hcz69_5, hfz69_0, hfz69_1, hfz69_2, hfz69_3, hfz69_4, hfz69_5⟩ := cf6 BK1136) | ((with_reducible refine gate_store (t := 55) (p := 12) rfl ?_); refine sx 55 12 (((((((w63.setCell ⟨gb1136, 0, none⟩ (.int .i64 t1129)).setCell ⟨gb1136, 1, none⟩ (.int .i64 t1130)).setCell ⟨gb1136, 2, none⟩ (.int .i64 t1131)).setCell ⟨gb1136, 3, none⟩ (.int .i64 t1132)).setCell ⟨gb1136, 4, none⟩ (.int .i64 t1133)).setCell ⟨gb1136, 5, none⟩ (.int .i64 t1134))) fun w70 hw => ?_; replace BK1103 := fw hw BK1103; replace BK1104 := fw hw BK1104; replace BK1112 := fw hw BK1112; replace BK1116 := fw hw BK1116; replace BK1128 := fw hw BK1128; replace BK1136 := pw6 hw BK1136; replace HB := bw hw HB; clear hw))
          (try simp only [Act.put, List.setIfInBounds_toArray, List.set_cons_zero, List.set_cons_succ])
          go_cut [76] (fun v76 wc => ∃ (kq : Nat) (x76_47 : Bool), v76 = .bool x76_47 ∧ Aside0 (torchonlaw06_GridsBack.j2 kq x76_47 a0_0 a0_1 a0_2 a0_3 a0_4 a0_5 a0_6 a0_7 a0_8 a0_9 a0_10 a0_11 a0_12 a0_13 a0_14 a0_15 a0_16 a0_17 a1_0 a1_1 t1121 t1122 t1123 t1124 t1125 t1126 t1129 t1130 t1131 t1132 t1133 t1134 = some r) ∧ Aside0 (kq ≤ kj24) ∧ Aside0 (wc.heap[gb1103]? = some (.cells #[.int .i64 a0_0, .int .i64 a0_1, .int .i64 a0_2, .int .i64 a0_3, .int .i64 a0_4, .int .i64 a0_5, .int .i64 a0_6, .int .i64 a0_7, .int .i64 a0_8, .int .i64 a0_9, .int .i64 a0_10, .int .i64 a0_11, .int .i64 a0_12, .int .i64 a0_13, .int .i64 a0_14, .int .i64 a0_15, .int .i64 a0_16, .int .i64 a0_17] 67 (0, 0))) ∧ Aside0 (wc.heap[gb1104]? = some (.cells #[.int .i64 a1_0, .int .i64 a1_1] 37 (0, 0))) ∧ Aside0 (wc.heap[gb1112]? = some (.cells #[.int .i64 t1105, .int .i64 t1106, .int .i64 t1107, .int .i64 t1108, .int .i64 t1109, .int .i64 t1110] 55 (0, 0))) ∧ Aside0 (wc.heap[gb1116]? = some (.cells #[.int .i64 t1113, .int .i64 t1114] 37 (0, 0))) ∧ Aside0 (wc.heap[gb1128]? = some (.cells #[.int .i64 t1121, .int .i64 t1122, .int .i64 t1123, .int .i64 t1124, .int .i64 t1125, .int .i64 t1126] 55 (0, 0))) ∧ Aside0 (wc.heap[gb1136]? = some (.cells #[.int .i64 t1129, .int .i64 t1130, .int .i64 t1131, .int .i64 t1132, .int .i64 t1133, .int .i64 t1134] 55 (0, 0))) ∧ Aside0 (Below w.heap.size w wc))
          case first =>
            have H := HC48.out
            clear HC48
            by_cases c71 : t1127 = 0
            · rw [if_pos c71] at H
              have c71b0 : (t1127 == 0) = true := beq_iff_eq.mpr c71
              have c71b1 : (t1127 != 0) = false := bne_eq_false_iff_eq.mpr c71
              clear c71
              (first | rw [c71b0] | (simp only [i64_w, i32_w]; rw [c71b0]) | skip)
              have H' := Aside0.mk H
              clear H
              go_wp2
              go_meet
              case rel => exact ⟨_, ((t1135 != 0)), (by first | rfl | (simp; done) | (simp [*]; done)), H', ⟨by have := HJ4.out; have := HJ24.out; first | omega | exact Nat.le_refl _⟩, ⟨pk BK1103⟩, ⟨pk BK1104⟩, ⟨pk BK1112⟩, ⟨pk BK1116⟩, ⟨pk BK1128⟩, ⟨pk BK1136⟩, ⟨bnow HB⟩⟩
            · rw [if_neg c71] at H
              have c71b0 : (t1127 == 0) = false := beq_eq_false_iff_ne.mpr c71
              have c71b1 : (t1127 != 0) = true := bne_iff_ne.mpr c71
              (first | rw [c71b0] | (simp only [i64_w, i32_w]; rw [c71b0]) | skip)
              have H' := Aside0.mk H
              clear H
              go_wp2
              go_meet
              case rel => exact ⟨_, (true), (by first | rfl | (simp; done) | (simp [*]; done)), H', ⟨by have := HJ4.out; have := HJ24.out; first | omega | exact Nat.le_refl _⟩, ⟨pk BK1103⟩, ⟨pk BK1104⟩, ⟨pk BK1112⟩, ⟨pk BK1116⟩, ⟨pk BK1128⟩, ⟨pk BK1136⟩, ⟨bnow HB⟩⟩
          case rest =>
            clear HC48
            try clear c1; try clear c2; try clear p2; try clear c3; try clear c4; try clear c5; try clear c6; try clear c7; try clear c8; try clear c10; try clear c12; try clear c13; try clear c20; try clear c21; try clear c22; try clear c24; try clear c24b0; try clear c24b1; try clear c26; try clear c27; try clear c28; try clear c28b0; try clear c28b1; try clear c29; try clear c29b0; try clear c30; try clear c31; try clear c32; try clear c34; try clear c35; try clear c39; try clear c40; try clear c41; try clear c42; try clear c44; try clear c49; try clear c50; try clear c51; try clear c55; try clear c56; try clear c57; try clear c58; try clear c64; try clear c65; try clear c66; try clear c67; try clear c68; try clear c71; try clear c71b0; try clear c71b1; try clear hcz14_0; try clear hcz14_1; try clear hcz14_2; try clear hcz14_3; try clear hcz14_4; try clear hcz14_5; try clear hcz16_0; try clear hcz16_1; try clear hcz16_10; try clear hcz16_11; try clear hcz16_12; try clear hcz16_13; try clear hcz16_14; try clear hcz16_15; try clear hcz16_16; try clear hcz16_17; try clear hcz16_2; try clear hcz16_3; try clear hcz16_4; try clear hcz16_5; try clear hcz16_6; try clear hcz16_7; try clear hcz16_8; try clear hcz16_9; try clear hcz17_0; try clear hcz17_1; try clear hcz23_0; try clear hcz23_1; try clear hcz33_0; try clear hcz33_1; try clear hcz33_2; try clear hcz33_3; try clear hcz33_4; try clear hcz33_5; try clear hcz36_0; try clear hcz36_1; try clear hcz43_0; try clear hcz43_1; try clear hcz45_0; try clear hcz45_1; try clear hcz52_0; try clear hcz52_1; try clear hcz52_10; try clear hcz52_11; try clear hcz52_12; try clear hcz52_13; try clear hcz52_14; try clear hcz52_15; try clear hcz52_16; try clear hcz52_17; try clear hcz52_2; try clear hcz52_3; try clear hcz52_4; try clear hcz52_5; try clear hcz52_6; try clear hcz52_7; try clear hcz52_8; try clear hcz52_9; try clear hcz59_0; try clear hcz59_1; try clear hcz59_2; try clear hcz59_3; try clear hcz59_4; try clear hcz59_5; try clear hcz61_0; try clear hcz61_1; try clear hcz61_10; try clear hcz61_11; try clear hcz61_12; try clear hcz61_13; try clear hcz61_14; try clear hcz61_15; try clear hcz61_16; try clear hcz61_17; try clear hcz61_2; try clear hcz61_3; try clear hcz61_4; try clear hcz61_5; try clear hcz61_6; try clear hcz61_7; try clear hcz61_8; try clear hcz61_9; try clear hcz69_0; try clear hcz69_1; try clear hcz69_2; try clear hcz69_3; try clear hcz69_4; try clear hcz69_5; try clear hcz9_0; try clear hcz9_1; try clear hcz9_10; try clear hcz9_11; try clear hcz9_12; try clear hcz9_13; try clear hcz9_14; try clear hcz9_15; try clear hcz9_16; try clear hcz9_17; try clear hcz9_2; try clear hcz9_3; try clear hcz9_4; try clear hcz9_5; try clear hcz9_6; try clear hcz9_7; try clear hcz9_8; try clear hcz9_9; try clear hfz14_0; try clear hfz14_1; try clear hfz14_2; try clear hfz14_3; try clear hfz14_4; try clear hfz14_5; try clear hfz16_0; try clear hfz16_1; try clear hfz16_10; try clear hfz16_11; try clear hfz16_12; try clear hfz16_13; try clear hfz16_14; try clear hfz16_15; try clear hfz16_16; try clear hfz16_17; try clear hfz16_2; try clear hfz16_3; try clear hfz16_4; try clear hfz16_5; try clear hfz16_6; try clear hfz16_7; try clear hfz16_8; try clear hfz16_9; try clear hfz17_0; try clear hfz17_1; try clear hfz23_0; try clear hfz23_1; try clear hfz33_0; try clear hfz33_1; try clear hfz33_2; try clear hfz33_3; try clear hfz33_4; try clear hfz33_5; try clear hfz36_0; try clear hfz36_1; try clear hfz43_0; try clear hfz43_1; try clear hfz45_0; try clear hfz45_1; try clear hfz52_0; try clear hfz52_1; try clear hfz52_10; try clear hfz52_11; try clear hfz52_12; try clear hfz52_13; try clear hfz52_14; try clear hfz52_15; try clear hfz52_16; try clear hfz52_17; try clear hfz52_2; try clear hfz52_3; try clear hfz52_4; try clear hfz52_5; try clear hfz52_6; try clear hfz52_7; try clear hfz52_8; try clear hfz52_9; try clear hfz59_0; try clear hfz59_1; try clear hfz59_2; try clear hfz59_3; try clear hfz59_4; try clear hfz59_5; try clear hfz61_0; try clear hfz61_1; try clear hfz61_10; try clear hfz61_11; try clear hfz61_12; try clear hfz61_13; try clear hfz61_14; try clear hfz61_15; try clear hfz61_16; try clear hfz61_17; try clear hfz61_2; try clear hfz61_3; try clear hfz61_4; try clear hfz61_5; try clear hfz61_6; try clear hfz61_7; try clear hfz61_8; try clear hfz61_9; try clear hfz69_0; try clear hfz69_1; try clear hfz69_2; try clear hfz69_3; try clear hfz69_4; try clear hfz69_5; try clear hfz9_0; try clear hfz9_1; try clear hfz9_10; try clear hfz9_11; try clear hfz9_12; try clear hfz9_13; try clear hfz9_14; try clear hfz9_15; try clear hfz9_16; try clear hfz9_17; try clear hfz9_2; try clear hfz9_3; try clear hfz9_4; try clear hfz9_5; try clear hfz9_6; try clear hfz9_7; try clear hfz9_8; try clear hfz9_9; try clear p2
            obtain ⟨kq, x76_47, rfl, HA, HJ47, BK1103, BK1104, BK1112, BK1116, BK1128, BK1136, HB⟩ := hcut
            cases kq with
            | zero => exact absurd HA.out (by simp [torchonlaw06_GridsBack.j2])
            | succ kj47 =>
              have H := HA.out
              clear HA
              simp only [torchonlaw06_GridsBack.j2] at H
              by_cases c72 : x76_47 = true
              · subst c72
                have H1 : ((torchonlaw06_awake.f kj47).bind fun t1137 => (some t1137)) = some r := by rw [if_pos rfl] at H; exact H
                clear H
                have H := H1
                clear H1
                replace H := Option.bind_eq_some_iff.mp H
                obtain ⟨t1137, A730, H⟩ := H
                replace H : (some t1137) = some r := H
                have A73 := Aside0.mk A730
                clear A730
                obtain rfl := Option.some.inj H
                go_wp2_with (first | ((with_reducible refine gate_callee (f := 13) rfl ?_); refine gl 77 Try.func13 (torchonlaw06_awake.calls kj47  t1137 _ A73.out) ?_; rintro e w74 ⟨rfl, hb⟩; refine ⟨_, rfl, ?_⟩; replace BK1103 := bb BK1103 hb; replace BK1104 := bb BK1104 hb; replace BK1112 := bb BK1112 hb; replace BK1116 := bb BK1116 hb; replace BK1128 := bb BK1128 hb; replace BK1136 := bb BK1136 hb; replace HB := bst HB hb; clear hb))
                go_ret
                exact rt HB
              · replace c72 := Bool.eq_false_iff.mpr c72
                subst c72
                have H1 : ((grids_Compose.f kj47 t1121 t1122 t1123 t1124 t1125 t1126 a0_12 a0_13 a0_14 a0_15 a0_16 a0_17).bind fun bt1138 => ((grids_Compose.f kj47 a0_0 a0_1 a0_2 a0_3 a0_4 a0_5 t1129 t1130 t1131 t1132 t1133 t1134).bind fun bt1146 => (if bt1138.2.2.2.2.2.2 = 0 then (if bt1146.2.2.2.2.2.2 = 0 then (if ((!(bt1138.1 == bt1146.1) || (!(bt1138.2.1 == bt1146.2.1) || (!(bt1138.2.2.1 == bt1146.2.2.1) || (!(bt1138.2.2.2.1 == bt1146.2.2.2.1))))) || ((!(bt1138.2.2.2.2.1 == bt1146.2.2.2.2.1) || (!(bt1138.2.2.2.2.2.1 == bt1146.2.2.2.2.2.1))))) = true then (torchonlaw06_GridsBack.j3 kj47 true a0_0 a0_1 a0_2 a0_3 a0_4 a0_5 a0_6 a0_7 a0_8 a0_9 a0_10 a0_11 a0_12 a0_13 a0_14 a0_15 a0_16 a0_17 a1_0 a1_1 t1121 t1122 t1123 t1124 t1125 t1126) else (torchonlaw06_GridsBack.j3 kj47 (bt1138.2.2.2.2.2.2 != bt1146.2.2.2.2.2.2) a0_0 a0_1 a0_2 a0_3 a0_4 a0_5 a0_6 a0_7 a0_8 a0_9 a0_10 a0_11 a0_12 a0_13 a0_14 a0_15 a0_16 a0_17 a1_0 a1_1 t1121 t1122 t1123 t1124 t1125 t1126)) else (torchonlaw06_GridsBack.j3 kj47 (bt1138.2.2.2.2.2.2 != bt1146.2.2.2.2.2.2) a0_0 a0_1 a0_2 a0_3 a0_4 a0_5 a0_6 a0_7 a0_8 a0_9 a0_10 a0_11 a0_12 a0_13 a0_14 a0_15 a0_16 a0_17 a1_0 a1_1 t1121 t1122 t1123 t1124 t1125 t1126)) else (torchonlaw06_GridsBack.j3 kj47 (bt1138.2.2.2.2.2.2 != bt1146.2.2.2.2.2.2) a0_0 a0_1 a0_2 a0_3 a0_4 a0_5 a0_6 a0_7 a0_8 a0_9 a0_10 a0_11 a0_12 a0_13 a0_14 a0_15 a0_16 a0_17 a1_0 a1_1 t1121 t1122 t1123 t1124 t1125 t1126)))) = some r := by rw [if_neg (show ¬ (false = true) by decide)] at H; exact H
                clear H
                have H := H1
                clear H1
                replace H := Option.bind_eq_some_iff.mp H
                obtain ⟨⟨t1138, t1139, t1140, t1141, t1142, t1143, t1144⟩, A750, H⟩ := H
                replace H : ((grids_Compose.f kj47 a0_0 a0_1 a0_2 a0_3 a0_4 a0_5 t1129 t1130 t1131 t1132 t1133 t1134).bind fun bt1146 => (if t1144 = 0 then (if bt1146.2.2.2.2.2.2 = 0 then (if ((!(t1138 == bt1146.1) || (!(t1139 == bt1146.2.1) || (!(t1140 == bt1146.2.2.1) || (!(t1141 == bt1146.2.2.2.1))))) || ((!(t1142 == bt1146.2.2.2.2.1) || (!(t1143 == bt1146.2.2.2.2.2.1))))) = true then (torchonlaw06_GridsBack.j3 kj47 true a0_0 a0_1 a0_2 a0_3 a0_4 a0_5 a0_6 a0_7 a0_8 a0_9 a0_10 a0_11 a0_12 a0_13 a0_14 a0_15 a0_16 a0_17 a1_0 a1_1 t1121 t1122 t1123 t1124 t1125 t1126) else (torchonlaw06_GridsBack.j3 kj47 (t1144 != bt1146.2.2.2.2.2.2) a0_0 a0_1 a0_2 a0_3 a0_4 a0_5 a0_6 a0_7 a0_8 a0_9 a0_10 a0_11 a0_12 a0_13 a0_14 a0_15 a0_16 a0_17 a1_0 a1_1 t1121 t1122 t1123 t1124 t1125 t1126)) else (torchonlaw06_GridsBack.j3 kj47 (t1144 != bt1146.2.2.2.2.2.2) a0_0 a0_1 a0_2 a0_3 a0_4 a0_5 a0_6 a0_7 a0_8 a0_9 a0_10 a0_11 a0_12 a0_13 a0_14 a0_15 a0_16 a0_17 a1_0 a1_1 t1121 t1122 t1123 t1124 t1125 t1126)) else (torchonlaw06_GridsBack.j3 kj47 (t1144 != bt1146.2.2.2.2.2.2) a0_0 a0_1 a0_2 a0_3 a0_4 a0_5 a0_6 a0_7 a0_8 a0_9 a0_10 a0_11 a0_12 a0_13 a0_14 a0_15 a0_16 a0_17 a1_0 a1_1 t1121 t1122 t1123 t1124 t1125 t1126))) = some r := H
                have A75 := Aside0.mk A750
                clear A750
                replace H := Option.bind_eq_some_iff.mp H
                obtain ⟨⟨t1146, t1147, t1148, t1149, t1150, t1151, t1152⟩, A760, H⟩ := H
                replace H : (if t1144 = 0 then (if t1152 = 0 then (if ((!(t1138 == t1146) || (!(t1139 == t1147) || (!(t1140 == t1148) || (!(t1141 == t1149))))) || ((!(t1142 == t1150) || (!(t1143 == t1151))))) = true then (torchonlaw06_GridsBack.j3 kj47 true a0_0 a0_1 a0_2 a0_3 a0_4 a0_5 a0_6 a0_7 a0_8 a0_9 a0_10 a0_11 a0_12 a0_13 a0_14 a0_15 a0_16 a0_17 a1_0 a1_1 t1121 t1122 t1123 t1124 t1125 t1126) else (torchonlaw06_GridsBack.j3 kj47 (t1144 != t1152) a0_0 a0_1 a0_2 a0_3 a0_4 a0_5 a0_6 a0_7 a0_8 a0_9 a0_10 a0_11 a0_12 a0_13 a0_14 a0_15 a0_16 a0_17 a1_0 a1_1 t1121 t1122 t1123 t1124 t1125 t1126)) else (torchonlaw06_GridsBack.j3 kj47 (t1144 != t1152) a0_0 a0_1 a0_2 a0_3 a0_4 a0_5 a0_6 a0_7 a0_8 a0_9 a0_10 a0_11 a0_12 a0_13 a0_14 a0_15 a0_16 a0_17 a1_0 a1_1 t1121 t1122 t1123 t1124 t1125 t1126)) else (torchonlaw06_GridsBack.j3 kj47 (t1144 != t1152) a0_0 a0_1 a0_2 a0_3 a0_4 a0_5 a0_6 a0_7 a0_8 a0_9 a0_10 a0_11 a0_12 a0_13 a0_14 a0_15 a0_16 a0_17 a1_0 a1_1 t1121 t1122 t1123 t1124 t1125 t1126)) = some r := H
                have A76 := Aside0.mk A760
                clear A760
                have HC77 := Aside0.mk H
                clear H
                have hnb78 := NB1128_1103.out
                have hnc78 := NB1103_1128.out
                have hnb79 := NB1128_1104.out
                have hnc79 := NB1104_1128.out
                have hnb80 := NB1128_1112.out
                have hnc80 := NB1112_1128.out
                have hnb81 := NB1128_1116.out
                have hnc81 := NB1116_1128.out
                have hnb82 := NB1128_1136.out
                have hnc82 := NB1136_1128.out
                have ⟨hcz83_0, hcz83_1, hcz83_2, hcz83_3, hcz83_4, hcz83_5, hfz83_0, hfz83_1, hfz83_2, hfz83_3, hfz83_4, hfz83_5⟩ := cf6 BK1128
                have hnb84 := NB1103_1104.out
                have hnc84 := NB1104_1103.out
                have hnb85 := NB1103_1112.out
                have hnc85 := NB1112_1103.out
                have hnb86 := NB1103_1116.out
                have hnc86 := NB1116_1103.out
                have hnb87 := NB1103_1136.out
                have hnc87 := NB1136_1103.out
                have ⟨hcz88_0, hcz88_1, hcz88_2, hcz88_3, hcz88_4, hcz88_5, hcz88_6, hcz88_7, hcz88_8, hcz88_9, hcz88_10, hcz88_11, hcz88_12, hcz88_13, hcz88_14, hcz88_15, hcz88_16, hcz88_17, hfz88_0, hfz88_1, hfz88_2, hfz88_3, hfz88_4, hfz88_5, hfz88_6, hfz88_7, hfz88_8, hfz88_9, hfz88_10, hfz88_11, hfz88_12, hfz88_13, hfz88_14, hfz88_15, hfz88_16, hfz88_17⟩ := cf18 BK1103
                go_upto_region 13 with (first | ((with_reducible refine gate_callee (f := 29) rfl ?_); refine gl 82 Try.func29 (grids_Compose.calls kj47 t1121 t1122 t1123 t1124 t1125 t1126 a0_12 a0_13 a0_14 a0_15 a0_16 a0_17 t1138 t1139 t1140 t1141 t1142 t1143 t1144 _ A75.out) ?_; rintro e w89 ⟨rfl, hb⟩; refine ⟨_, rfl, ?_⟩; replace BK1103 := bb BK1103 hb; replace BK1104 := bb BK1104 hb; replace BK1112 := bb BK1112 hb; replace BK1116 := bb BK1116 hb; replace BK1128 := bb BK1128 hb; replace BK1136 := bb BK1136 hb; replace HB := bst HB hb; clear hb) | ((with_reducible refine gate_dst (N := 13) rfl ?_); refine bx 13 #[.int .i64 0, .int .i64 0, .int .i64 0, .int .i64 0, .int .i64 0, .int .i64 0] 55 fun gb1145 hg w90 BK1145 hb => ?_; have GW1145 := gw hg HB; have GE1145 := gw hg HB; have NB1103_1145 := nlt hg BK1103; have NB1145_1103 := ngt hg BK1103; have NB1104_1145 := nlt hg BK1104; have NB1145_1104 := ngt hg BK1104; have NB1112_1145 := nlt hg BK1112; have NB1145_1112 := ngt hg BK1112; have NB1116_1145 := nlt hg BK1116; have NB1145_1116 := ngt hg BK1116; have NB1128_1145 := nlt hg BK1128; have NB1145_1128 := ngt hg BK1128; have NB1136_1145 := nlt hg BK1136; have NB1145_1136 := ngt hg BK1136; replace BK1103 := bb BK1103 hb; replace BK1104 := bb BK1104 hb; replace BK1112 := bb BK1112 hb; replace BK1116 := bb BK1116 hb; replace BK1128 := bb BK1128 hb; replace BK1136 := bb BK1136 hb; replace HB := bst HB hb; clear hb hg; have hnb91 := NB1145_1103.out; have hnc91 := NB1103_1145.out; have hnb92 := NB1145_1104.out; have hnc92 := NB1104_1145.out; have hnb93 := NB1145_1112.out; have hnc93 := NB1112_1145.out; have hnb94 := NB1145_1116.out; have hnc94 := NB1116_1145.out; have hnb95 := NB1145_1128.out; have hnc95 := NB1128_1145.out; have hnb96 := NB1145_1136.out; have hnc96 := NB1136_1145.out; have ⟨hcz97_0, hcz97_1, hcz97_2, hcz97_3, hcz97_4, hcz97_5, hfz97_0, hfz97_1, hfz97_2, hfz97_3, hfz97_4, hfz97_5⟩ := cf6 BK1145) | ((with_reducible refine gate_store (t := 55) (p := 13) rfl ?_); refine sx 55 13 (((((((w90.setCell ⟨gb1145, 0, none⟩ (.int .i64 t1138)).setCell ⟨gb1145, 1, none⟩ (.int .i64 t1139)).setCell ⟨gb1145, 2, none⟩ (.int .i64 t1140)).setCell ⟨gb1145, 3, none⟩ (.int .i64 t1141)).setCell ⟨gb1145, 4, none⟩ (.int .i64 t1142)).setCell ⟨gb1145, 5, none⟩ (.int .i64 t1143))) fun w98 hw => ?_; replace BK1103 := fw hw BK1103; replace BK1104 := fw hw BK1104; replace BK1112 := fw hw BK1112; replace BK1116 := fw hw BK1116; replace BK1128 := fw hw BK1128; replace BK1136 := fw hw BK1136; replace BK1145 := pw6 hw BK1145; replace HB := bw hw HB; clear hw; have ⟨hcz99_0, hcz99_1, hcz99_2, hcz99_3, hcz99_4, hcz99_5, hcz99_6, hcz99_7, hcz99_8, hcz99_9, hcz99_10, hcz99_11, hcz99_12, hcz99_13, hcz99_14, hcz99_15, hcz99_16, hcz99_17, hfz99_0, hfz99_1, hfz99_2, hfz99_3, hfz99_4, hfz99_5, hfz99_6, hfz99_7, hfz99_8, hfz99_9, hfz99_10, hfz99_11, hfz99_12, hfz99_13, hfz99_14, hfz99_15, hfz99_16, hfz99_17⟩ := cf18 BK1103; have hnb100 := NB1136_1104.out; have hnc100 := NB1104_1136.out; have hnb101 := NB1136_1112.out; have hnc101 := NB1112_1136.out; have hnb102 := NB1136_1116.out; have hnc102 := NB1116_1136.out; have ⟨hcz103_0, hcz103_1, hcz103_2, hcz103_3, hcz103_4, hcz103_5, hfz103_0, hfz103_1, hfz103_2, hfz103_3, hfz103_4, hfz103_5⟩ := cf6 BK1136) | ((with_reducible refine gate_callee (f := 29) rfl ?_); refine gl 89 Try.func29 (grids_Compose.calls kj47 a0_0 a0_1 a0_2 a0_3 a0_4 a0_5 t1129 t1130 t1131 t1132 t1133 t1134 t1146 t1147 t1148 t1149 t1150 t1151 t1152 _ A76.out) ?_; rintro e w104 ⟨rfl, hb⟩; refine ⟨_, rfl, ?_⟩; replace BK1103 := bb BK1103 hb; replace BK1104 := bb BK1104 hb; replace BK1112 := bb BK1112 hb; replace BK1116 := bb BK1116 hb; replace BK1128 := bb BK1128 hb; replace BK1136 := bb BK1136 hb; replace BK1145 := bb BK1145 hb; replace HB := bst HB hb; clear hb) | ((with_reducible refine gate_dst (N := 15) rfl ?_); refine bx 15 #[.int .i64 0, .int .i64 0, .int .i64 0, .int .i64 0, .int .i64 0, .int .i64 0] 55 fun gb1153 hg w105 BK1153 hb => ?_; have GW1153 := gw hg HB; have GE1153 := gw hg HB; have NB1103_1153 := nlt hg BK1103; have NB1153_1103 := ngt hg BK1103; have NB1104_1153 := nlt hg BK1104; have NB1153_1104 := ngt hg BK1104; have NB1112_1153 := nlt hg BK1112; have NB1153_1112 := ngt hg BK1112; have NB1116_1153 := nlt hg BK1116; have NB1153_1116 := ngt hg BK1116; have NB1128_1153 := nlt hg BK1128; have NB1153_1128 := ngt hg BK1128; have NB1136_1153 := nlt hg BK1136; have NB1153_1136 := ngt hg BK1136; have NB1145_1153 := nlt hg BK1145; have NB1153_1145 := ngt hg BK1145; replace BK1103 := bb BK1103 hb; replace BK1104 := bb BK1104 hb; replace BK1112 := bb BK1112 hb; replace BK1116 := bb BK1116 hb; replace BK1128 := bb BK1128 hb; replace BK1136 := bb BK1136 hb; replace BK1145 := bb BK1145 hb; replace HB := bst HB hb; clear hb hg; have hnb106 := NB1153_1103.out; have hnc106 := NB1103_1153.out; have hnb107 := NB1153_1104.out; have hnc107 := NB1104_1153.out; have hnb108 := NB1153_1112.out; have hnc108 := NB1112_1153.out; have hnb109 := NB1153_1116.out; have hnc109 := NB1116_1153.out; have hnb110 := NB1153_1128.out; have hnc110 := NB1128_1153.out; have hnb111 := NB1153_1136.out; have hnc111 := NB1136_1153.out; have hnb112 := NB1153_1145.out; have hnc112 := NB1145_1153.out; have ⟨hcz113_0, hcz113_1, hcz113_2, hcz113_3, hcz113_4, hcz113_5, hfz113_0, hfz113_1, hfz113_2, hfz113_3, hfz113_4, hfz113_5⟩ := cf6 BK1153) | ((with_reducible refine gate_store (t := 55) (p := 15) rfl ?_); refine sx 55 15 (((((((w105.setCell ⟨gb1153, 0, none⟩ (.int .i64 t1146)).setCell ⟨gb1153, 1, none⟩ (.int .i64 t1147)).setCell ⟨gb1153, 2, none⟩ (.int .i64 t1148)).setCell ⟨gb1153, 3, none⟩ (.int .i64 t1149)).setCell ⟨gb1153, 4, none⟩ (.int .i64 t1150)).setCell ⟨gb1153, 5, none⟩ (.int .i64 t1151))) fun w114 hw => ?_; replace BK1103 := fw hw BK1103; replace BK1104 := fw hw BK1104; replace BK1112 := fw hw BK1112; replace BK1116 := fw hw BK1116; replace BK1128 := fw hw BK1128; replace BK1136 := fw hw BK1136; replace BK1145 := fw hw BK1145; replace BK1153 := pw6 hw BK1153; replace HB := bw hw HB; clear hw))
                (try simp only [Act.put, List.setIfInBounds_toArray, List.set_cons_zero, List.set_cons_succ])
                go_cut [107] (fun v107 wc => ∃ (kq : Nat) (x107_76 : Bool), v107 = .bool x107_76 ∧ Aside0 (torchonlaw06_GridsBack.j3 kq x107_76 a0_0 a0_1 a0_2 a0_3 a0_4 a0_5 a0_6 a0_7 a0_8 a0_9 a0_10 a0_11 a0_12 a0_13 a0_14 a0_15 a0_16 a0_17 a1_0 a1_1 t1121 t1122 t1123 t1124 t1125 t1126 = some r) ∧ Aside0 (kq ≤ kj47) ∧ Aside0 (wc.heap[gb1103]? = some (.cells #[.int .i64 a0_0, .int .i64 a0_1, .int .i64 a0_2, .int .i64 a0_3, .int .i64 a0_4, .int .i64 a0_5, .int .i64 a0_6, .int .i64 a0_7, .int .i64 a0_8, .int .i64 a0_9, .int .i64 a0_10, .int .i64 a0_11, .int .i64 a0_12, .int .i64 a0_13, .int .i64 a0_14, .int .i64 a0_15, .int .i64 a0_16, .int .i64 a0_17] 67 (0, 0))) ∧ Aside0 (wc.heap[gb1104]? = some (.cells #[.int .i64 a1_0, .int .i64 a1_1] 37 (0, 0))) ∧ Aside0 (wc.heap[gb1112]? = some (.cells #[.int .i64 t1105, .int .i64 t1106, .int .i64 t1107, .int .i64 t1108, .int .i64 t1109, .int .i64 t1110] 55 (0, 0))) ∧ Aside0 (wc.heap[gb1116]? = some (.cells #[.int .i64 t1113, .int .i64 t1114] 37 (0, 0))) ∧ Aside0 (wc.heap[gb1128]? = some (.cells #[.int .i64 t1121, .int .i64 t1122, .int .i64 t1123, .int .i64 t1124, .int .i64 t1125, .int .i64 t1126] 55 (0, 0))) ∧ Aside0 (wc.heap[gb1136]? = some (.cells #[.int .i64 t1129, .int .i64 t1130, .int .i64 t1131, .int .i64 t1132, .int .i64 t1133, .int .i64 t1134] 55 (0, 0))) ∧ Aside0 (wc.heap[gb1145]? = some (.cells #[.int .i64 t1138, .int .i64 t1139, .int .i64 t1140, .int .i64 t1141, .int .i64 t1142, .int .i64 t1143] 55 (0, 0))) ∧ Aside0 (wc.heap[gb1153]? = some (.cells #[.int .i64 t1146, .int .i64 t1147, .int .i64 t1148, .int .i64 t1149, .int .i64 t1150, .int .i64 t1151] 55 (0, 0))) ∧ Aside0 (Below w.heap.size w wc))
                case first =>
                  have H := HC77.out
                  clear HC77
                  by_cases c115 : t1144 = 0
                  · rw [if_pos c115] at H
                    have c115b0 : (t1144 == 0) = true := beq_iff_eq.mpr c115
                    have c115b1 : (t1144 != 0) = false := bne_eq_false_iff_eq.mpr c115
                    clear c115
                    (first | rw [c115b0] | (simp only [i64_w, i32_w]; rw [c115b0]) | skip)
                    by_cases c116 : t1152 = 0
                    · rw [if_pos c116] at H
                      have c116b0 : (t1152 == 0) = true := beq_iff_eq.mpr c116
                      have c116b1 : (t1152 != 0) = false := bne_eq_false_iff_eq.mpr c116
                      clear c116
                      by_cases c117 : ((!(t1138 == t1146) || (!(t1139 == t1147) || (!(t1140 == t1148) || (!(t1141 == t1149))))) || ((!(t1142 == t1150) || (!(t1143 == t1151))))) = true
                      · rw [if_pos c117] at H
                        have c117b0 : ((!(t1138 == t1146) || (!(t1139 == t1147) || (!(t1140 == t1148) || (!(t1141 == t1149))))) || ((!(t1142 == t1150) || (!(t1143 == t1151))))) = true := c117
                        clear c117
                        have H' := Aside0.mk H
                        clear H
                        have hnb118 := NB1145_1103.out
                        have hnc118 := NB1103_1145.out
                        have hnb119 := NB1145_1104.out
                        have hnc119 := NB1104_1145.out
                        have hnb120 := NB1145_1112.out
                        have hnc120 := NB1112_1145.out
                        have hnb121 := NB1145_1116.out
                        have hnc121 := NB1116_1145.out
                        have hnb122 := NB1145_1128.out
                        have hnc122 := NB1128_1145.out
                        have hnb123 := NB1145_1136.out
                        have hnc123 := NB1136_1145.out
                        have hnb124 := NB1145_1153.out
                        have hnc124 := NB1153_1145.out
                        have ⟨hcz125_0, hcz125_1, hcz125_2, hcz125_3, hcz125_4, hcz125_5, hfz125_0, hfz125_1, hfz125_2, hfz125_3, hfz125_4, hfz125_5⟩ := cf6 BK1145
                        have hnb126 := NB1153_1103.out
                        have hnc126 := NB1103_1153.out
                        have hnb127 := NB1153_1104.out
                        have hnc127 := NB1104_1153.out
                        have hnb128 := NB1153_1112.out
                        have hnc128 := NB1112_1153.out
                        have hnb129 := NB1153_1116.out
                        have hnc129 := NB1116_1153.out
                        have hnb130 := NB1153_1128.out
                        have hnc130 := NB1128_1153.out
                        have hnb131 := NB1153_1136.out
                        have hnc131 := NB1136_1153.out
                        have ⟨hcz132_0, hcz132_1, hcz132_2, hcz132_3, hcz132_4, hcz132_5, hfz132_0, hfz132_1, hfz132_2, hfz132_3, hfz132_4, hfz132_5⟩ := cf6 BK1153
                        go_wp2
                        go_meet
                        case rel => exact ⟨_, (true), (by first | rfl | (simp; done) | (simp [*]; done)), H', ⟨by have := HJ4.out; have := HJ24.out; have := HJ47.out; first | omega | exact Nat.le_refl _⟩, ⟨pk BK1103⟩, ⟨pk BK1104⟩, ⟨pk BK1112⟩, ⟨pk BK1116⟩, ⟨pk BK1128⟩, ⟨pk BK1136⟩, ⟨pk BK1145⟩, ⟨pk BK1153⟩, ⟨bnow HB⟩⟩
                      · rw [if_neg c117] at H
                        have c117b0 : ((!(t1138 == t1146) || (!(t1139 == t1147) || (!(t1140 == t1148) || (!(t1141 == t1149))))) || ((!(t1142 == t1150) || (!(t1143 == t1151))))) = false := by simpa using c117
                        clear c117
                        have H' := Aside0.mk H
                        clear H
                        have hnb133 := NB1145_1103.out
                        have hnc133 := NB1103_1145.out
                        have hnb134 := NB1145_1104.out
                        have hnc134 := NB1104_1145.out
                        have hnb135 := NB1145_1112.out
                        have hnc135 := NB1112_1145.out
                        have hnb136 := NB1145_1116.out
                        have hnc136 := NB1116_1145.out
                        have hnb137 := NB1145_1128.out
                        have hnc137 := NB1128_1145.out
                        have hnb138 := NB1145_1136.out
                        have hnc138 := NB1136_1145.out
                        have hnb139 := NB1145_1153.out
                        have hnc139 := NB1153_1145.out
                        have ⟨hcz140_0, hcz140_1, hcz140_2, hcz140_3, hcz140_4, hcz140_5, hfz140_0, hfz140_1, hfz140_2, hfz140_3, hfz140_4, hfz140_5⟩ := cf6 BK1145
                        have hnb141 := NB1153_1103.out
                        have hnc141 := NB1103_1153.out
                        have hnb142 := NB1153_1104.out
                        have hnc142 := NB1104_1153.out
                        have hnb143 := NB1153_1112.out
                        have hnc143 := NB1112_1153.out
                        have hnb144 := NB1153_1116.out
                        have hnc144 := NB1116_1153.out
                        have hnb145 := NB1153_1128.out
                        have hnc145 := NB1128_1153.out
                        have hnb146 := NB1153_1136.out
                        have hnc146 := NB1136_1153.out
                        have ⟨hcz147_0, hcz147_1, hcz147_2, hcz147_3, hcz147_4, hcz147_5, hfz147_0, hfz147_1, hfz147_2, hfz147_3, hfz147_4, hfz147_5⟩ := cf6 BK1153
                        go_wp2
                        go_meet
                        case rel => exact ⟨_, ((t1144 != t1152)), (by first | rfl | (simp; done) | (simp [*]; done)), H', ⟨by have := HJ4.out; have := HJ24.out; have := HJ47.out; first | omega | exact Nat.le_refl _⟩, ⟨pk BK1103⟩, ⟨pk BK1104⟩, ⟨pk BK1112⟩, ⟨pk BK1116⟩, ⟨pk BK1128⟩, ⟨pk BK1136⟩, ⟨pk BK1145⟩, ⟨pk BK1153⟩, ⟨bnow HB⟩⟩
                    · rw [if_neg c116] at H
                      have c116b0 : (t1152 == 0) = false := beq_eq_false_iff_ne.mpr c116
                      have c116b1 : (t1152 != 0) = true := bne_iff_ne.mpr c116
                      have H' := Aside0.mk H
                      clear H
                      go_wp2
                      go_meet
                      case rel => exact ⟨_, ((t1144 != t1152)), (by first | rfl | (simp; done) | (simp [*]; done)), H', ⟨by have := HJ4.out; have := HJ24.out; have := HJ47.out; first | omega | exact Nat.le_refl _⟩, ⟨pk BK1103⟩, ⟨pk BK1104⟩, ⟨pk BK1112⟩, ⟨pk BK1116⟩, ⟨pk BK1128⟩, ⟨pk BK1136⟩, ⟨pk BK1145⟩, ⟨pk BK1153⟩, ⟨bnow HB⟩⟩
                  · rw [if_neg c115] at H
                    have c115b0 : (t1144 == 0) = false := beq_eq_false_iff_ne.mpr c115
                    have c115b1 : (t1144 != 0) = true := bne_iff_ne.mpr c115
                    (first | rw [c115b0] | (simp only [i64_w, i32_w]; rw [c115b0]) | skip)
                    have H' := Aside0.mk H
                    clear H
                    go_wp2
                    go_meet
                    case rel => exact ⟨_, ((t1144 != t1152)), (by first | rfl | (simp; done) | (simp [*]; done)), H', ⟨by have := HJ4.out; have := HJ24.out; have := HJ47.out; first | omega | exact Nat.le_refl _⟩, ⟨pk BK1103⟩, ⟨pk BK1104⟩, ⟨pk BK1112⟩, ⟨pk BK1116⟩, ⟨pk BK1128⟩, ⟨pk BK1136⟩, ⟨pk BK1145⟩, ⟨pk BK1153⟩, ⟨bnow HB⟩⟩
                case rest =>
                  clear HC77
                  try clear c1; try clear c2; try clear p2; try clear c3; try clear c4; try clear c5; try clear c6; try clear c7; try clear c8; try clear c9; try clear c10; try clear c11; try clear c12; try clear c13; try clear c14; try clear c20; try clear c21; try clear c22; try clear c24; try clear c24b0; try clear c24b1; try clear c26; try clear c27; try clear c28; try clear c28b0; try clear c28b1; try clear c29; try clear c29b0; try clear c30; try clear c31; try clear c32; try clear c34; try clear c35; try clear c39; try clear c40; try clear c41; try clear c42; try clear c44; try clear c49; try clear c50; try clear c51; try clear c55; try clear c56; try clear c57; try clear c58; try clear c64; try clear c65; try clear c66; try clear c67; try clear c68; try clear c71; try clear c71b0; try clear c71b1; try clear c72; try clear c78; try clear c79; try clear c80; try clear c81; try clear c82; try clear c84; try clear c85; try clear c86; try clear c87; try clear c91; try clear c92; try clear c93; try clear c94; try clear c95; try clear c96; try clear c100; try clear c101; try clear c102; try clear c106; try clear c107; try clear c108; try clear c109; try clear c110; try clear c111; try clear c112; try clear c115; try clear c115b0; try clear c115b1; try clear c116; try clear c116b0; try clear c116b1; try clear c117; try clear c117b0; try clear c118; try clear c119; try clear c120; try clear c121; try clear c122; try clear c123; try clear c124; try clear c126; try clear c127; try clear c128; try clear c129; try clear c130; try clear c131; try clear c133; try clear c134; try clear c135; try clear c136; try clear c137; try clear c138; try clear c139; try clear c141; try clear c142; try clear c143; try clear c144; try clear c145; try clear c146; try clear hcz103_0; try clear hcz103_1; try clear hcz103_2; try clear hcz103_3; try clear hcz103_4; try clear hcz103_5; try clear hcz113_0; try clear hcz113_1; try clear hcz113_2; try clear hcz113_3; try clear hcz113_4; try clear hcz113_5; try clear hcz125_0; try clear hcz125_1; try clear hcz125_2; try clear hcz125_3; try clear hcz125_4; try clear hcz125_5; try clear hcz132_0; try clear hcz132_1; try clear hcz132_2; try clear hcz132_3; try clear hcz132_4; try clear hcz132_5; try clear hcz140_0; try clear hcz140_1; try clear hcz140_2; try clear hcz140_3; try clear hcz140_4; try clear hcz140_5; try clear hcz147_0; try clear hcz147_1; try clear hcz147_2; try clear hcz147_3; try clear hcz147_4; try clear hcz147_5; try clear hcz14_0; try clear hcz14_1; try clear hcz14_2; try clear hcz14_3; try clear hcz14_4; try clear hcz14_5; try clear hcz16_0; try clear hcz16_1; try clear hcz16_10; try clear hcz16_11; try clear hcz16_12; try clear hcz16_13; try clear hcz16_14; try clear hcz16_15; try clear hcz16_16; try clear hcz16_17; try clear hcz16_2; try clear hcz16_3; try clear hcz16_4; try clear hcz16_5; try clear hcz16_6; try clear hcz16_7; try clear hcz16_8; try clear hcz16_9; try clear hcz17_0; try clear hcz17_1; try clear hcz23_0; try clear hcz23_1; try clear hcz33_0; try clear hcz33_1; try clear hcz33_2; try clear hcz33_3; try clear hcz33_4; try clear hcz33_5; try clear hcz36_0; try clear hcz36_1; try clear hcz43_0; try clear hcz43_1; try clear hcz45_0; try clear hcz45_1; try clear hcz52_0; try clear hcz52_1; try clear hcz52_10; try clear hcz52_11; try clear hcz52_12; try clear hcz52_13; try clear hcz52_14; try clear hcz52_15; try clear hcz52_16; try clear hcz52_17; try clear hcz52_2; try clear hcz52_3; try clear hcz52_4; try clear hcz52_5; try clear hcz52_6; try clear hcz52_7; try clear hcz52_8; try clear hcz52_9; try clear hcz59_0; try clear hcz59_1; try clear hcz59_2; try clear hcz59_3; try clear hcz59_4; try clear hcz59_5; try clear hcz61_0; try clear hcz61_1; try clear hcz61_10; try clear hcz61_11; try clear hcz61_12; try clear hcz61_13; try clear hcz61_14; try clear hcz61_15; try clear hcz61_16; try clear hcz61_17; try clear hcz61_2; try clear hcz61_3; try clear hcz61_4; try clear hcz61_5; try clear hcz61_6; try clear hcz61_7; try clear hcz61_8; try clear hcz61_9; try clear hcz69_0; try clear hcz69_1; try clear hcz69_2; try clear hcz69_3; try clear hcz69_4; try clear hcz69_5; try clear hcz83_0; try clear hcz83_1; try clear hcz83_2; try clear hcz83_3; try clear hcz83_4; try clear hcz83_5; try clear hcz88_0; try clear hcz88_1; try clear hcz88_10; try clear hcz88_11; try clear hcz88_12; try clear hcz88_13; try clear hcz88_14; try clear hcz88_15; try clear hcz88_16; try clear hcz88_17; try clear hcz88_2; try clear hcz88_3; try clear hcz88_4; try clear hcz88_5; try clear hcz88_6; try clear hcz88_7; try clear hcz88_8; try clear hcz88_9; try clear hcz97_0; try clear hcz97_1; try clear hcz97_2; try clear hcz97_3; try clear hcz97_4; try clear hcz97_5; try clear hcz99_0; try clear hcz99_1; try clear hcz99_10; try clear hcz99_11; try clear hcz99_12; try clear hcz99_13; try clear hcz99_14; try clear hcz99_15; try clear hcz99_16; try clear hcz99_17; try clear hcz99_2; try clear hcz99_3; try clear hcz99_4; try clear hcz99_5; try clear hcz99_6; try clear hcz99_7; try clear hcz99_8; try clear hcz99_9; try clear hcz9_0; try clear hcz9_1; try clear hcz9_10; try clear hcz9_11; try clear hcz9_12; try clear hcz9_13; try clear hcz9_14; try clear hcz9_15; try clear hcz9_16; try clear hcz9_17; try clear hcz9_2; try clear hcz9_3; try clear hcz9_4; try clear hcz9_5; try clear hcz9_6; try clear hcz9_7; try clear hcz9_8; try clear hcz9_9; try clear hfz103_0; try clear hfz103_1; try clear hfz103_2; try clear hfz103_3; try clear hfz103_4; try clear hfz103_5; try clear hfz113_0; try clear hfz113_1; try clear hfz113_2; try clear hfz113_3; try clear hfz113_4; try clear hfz113_5; try clear hfz125_0; try clear hfz125_1; try clear hfz125_2; try clear hfz125_3; try clear hfz125_4; try clear hfz125_5; try clear hfz132_0; try clear hfz132_1; try clear hfz132_2; try clear hfz132_3; try clear hfz132_4; try clear hfz132_5; try clear hfz140_0; try clear hfz140_1; try clear hfz140_2; try clear hfz140_3; try clear hfz140_4; try clear hfz140_5; try clear hfz147_0; try clear hfz147_1; try clear hfz147_2; try clear hfz147_3; try clear hfz147_4; try clear hfz147_5; try clear hfz14_0; try clear hfz14_1; try clear hfz14_2; try clear hfz14_3; try clear hfz14_4; try clear hfz14_5; try clear hfz16_0; try clear hfz16_1; try clear hfz16_10; try clear hfz16_11; try clear hfz16_12; try clear hfz16_13; try clear hfz16_14; try clear hfz16_15; try clear hfz16_16; try clear hfz16_17; try clear hfz16_2; try clear hfz16_3; try clear hfz16_4; try clear hfz16_5; try clear hfz16_6; try clear hfz16_7; try clear hfz16_8; try clear hfz16_9; try clear hfz17_0; try clear hfz17_1; try clear hfz23_0; try clear hfz23_1; try clear hfz33_0; try clear hfz33_1; try clear hfz33_2; try clear hfz33_3; try clear hfz33_4; try clear hfz33_5; try clear hfz36_0; try clear hfz36_1; try clear hfz43_0; try clear hfz43_1; try clear hfz45_0; try clear hfz45_1; try clear hfz52_0; try clear hfz52_1; try clear hfz52_10; try clear hfz52_11; try clear hfz52_12; try clear hfz52_13; try clear hfz52_14; try clear hfz52_15; try clear hfz52_16; try clear hfz52_17; try clear hfz52_2; try clear hfz52_3; try clear hfz52_4; try clear hfz52_5; try clear hfz52_6; try clear hfz52_7; try clear hfz52_8; try clear hfz52_9; try clear hfz59_0; try clear hfz59_1; try clear hfz59_2; try clear hfz59_3; try clear hfz59_4; try clear hfz59_5; try clear hfz61_0; try clear hfz61_1; try clear hfz61_10; try clear hfz61_11; try clear hfz61_12; try clear hfz61_13; try clear hfz61_14; try clear hfz61_15; try clear hfz61_16; try clear hfz61_17; try clear hfz61_2; try clear hfz61_3; try clear hfz61_4; try clear hfz61_5; try clear hfz61_6; try clear hfz61_7; try clear hfz61_8; try clear hfz61_9; try clear hfz69_0; try clear hfz69_1; try clear hfz69_2; try clear hfz69_3; try clear hfz69_4; try clear hfz69_5; try clear hfz83_0; try clear hfz83_1; try clear hfz83_2; try clear hfz83_3; try clear hfz83_4; try clear hfz83_5; try clear hfz88_0; try clear hfz88_1; try clear hfz88_10; try clear hfz88_11; try clear hfz88_12; try clear hfz88_13; try clear hfz88_14; try clear hfz88_15; try clear hfz88_16; try clear hfz88_17; try clear hfz88_2; try clear hfz88_3; try clear hfz88_4; try clear hfz88_5; try clear hfz88_6; try clear hfz88_7; try clear hfz88_8; try clear hfz88_9; try clear hfz97_0; try clear hfz97_1; try clear hfz97_2; try clear hfz97_3; try clear hfz97_4; try clear hfz97_5; try clear hfz99_0; try clear hfz99_1; try clear hfz99_10; try clear hfz99_11; try clear hfz99_12; try clear hfz99_13; try clear hfz99_14; try clear hfz99_15; try clear hfz99_16; try clear hfz99_17; try clear hfz99_2; try clear hfz99_3; try clear hfz99_4; try clear hfz99_5; try clear hfz99_6; try clear hfz99_7; try clear hfz99_8; try clear hfz99_9; try clear hfz9_0; try clear hfz9_1; try clear hfz9_10; try clear hfz9_11; try clear hfz9_12; try clear hfz9_13; try clear hfz9_14; try clear hfz9_15; try clear hfz9_16; try clear hfz9_17; try clear hfz9_2; try clear hfz9_3; try clear hfz9_4; try clear hfz9_5; try clear hfz9_6; try clear hfz9_7; try clear hfz9_8; try clear hfz9_9; try clear p2
                  obtain ⟨kq, x107_76, rfl, HA, HJ76, BK1103, BK1104, BK1112, BK1116, BK1128, BK1136, BK1145, BK1153, HB⟩ := hcut
                  cases kq with
                  | zero => exact absurd HA.out (by simp [torchonlaw06_GridsBack.j3])
                  | succ kj76 =>
                    have H := HA.out
                    clear HA
                    simp only [torchonlaw06_GridsBack.j3] at H
                    by_cases c148 : x107_76 = true
                    · subst c148
                      have H1 : (none) = some r := by rw [if_pos rfl] at H; exact H
                      clear H
                      have H := H1
                      clear H1
                      exact absurd H (by simp)
                    · replace c148 := Bool.eq_false_iff.mpr c148
                      subst c148
                      have H1 : ((grids_Apply.f kj76 a0_6 a0_7 a0_8 a0_9 a0_10 a0_11 a1_0 a1_1).bind fun bt1154 => ((grids_Apply.f kj76 a0_0 a0_1 a0_2 a0_3 a0_4 a0_5 bt1154.1 bt1154.2.1).bind fun bt1158 => ((grids_Apply.f kj76 t1121 t1122 t1123 t1124 t1125 t1126 a1_0 a1_1).bind fun bt1162 => (if bt1154.2.2 = 0 then (if bt1158.2.2 = bt1162.2.2 then (if (bt1158.1 == bt1162.1 && (bt1158.2.1 == bt1162.2.1)) = true then ((torchonlaw06_awake.f kj76).bind fun t1166 => (some t1166)) else (none)) else (none)) else ((torchonlaw06_awake.f kj76).bind fun t1167 => (some t1167)))))) = some r := by rw [if_neg (show ¬ (false = true) by decide)] at H; exact H
                      clear H
                      have H := H1
                      clear H1
                      replace H := Option.bind_eq_some_iff.mp H
                      obtain ⟨⟨t1154, t1155, t1156⟩, A1490, H⟩ := H
                      replace H : ((grids_Apply.f kj76 a0_0 a0_1 a0_2 a0_3 a0_4 a0_5 t1154 t1155).bind fun bt1158 => ((grids_Apply.f kj76 t1121 t1122 t1123 t1124 t1125 t1126 a1_0 a1_1).bind fun bt1162 => (if t1156 = 0 then (if bt1158.2.2 = bt1162.2.2 then (if (bt1158.1 == bt1162.1 && (bt1158.2.1 == bt1162.2.1)) = true then ((torchonlaw06_awake.f kj76).bind fun t1166 => (some t1166)) else (none)) else (none)) else ((torchonlaw06_awake.f kj76).bind fun t1167 => (some t1167))))) = some r := H
                      have A149 := Aside0.mk A1490
                      clear A1490
                      replace H := Option.bind_eq_some_iff.mp H
                      obtain ⟨⟨t1158, t1159, t1160⟩, A1500, H⟩ := H
                      replace H : ((grids_Apply.f kj76 t1121 t1122 t1123 t1124 t1125 t1126 a1_0 a1_1).bind fun bt1162 => (if t1156 = 0 then (if t1160 = bt1162.2.2 then (if (t1158 == bt1162.1 && (t1159 == bt1162.2.1)) = true then ((torchonlaw06_awake.f kj76).bind fun t1166 => (some t1166)) else (none)) else (none)) else ((torchonlaw06_awake.f kj76).bind fun t1167 => (some t1167)))) = some r := H
                      have A150 := Aside0.mk A1500
                      clear A1500
                      replace H := Option.bind_eq_some_iff.mp H
                      obtain ⟨⟨t1162, t1163, t1164⟩, A1510, H⟩ := H
                      replace H : (if t1156 = 0 then (if t1160 = t1164 then (if (t1158 == t1162 && (t1159 == t1163)) = true then ((torchonlaw06_awake.f kj76).bind fun t1166 => (some t1166)) else (none)) else (none)) else ((torchonlaw06_awake.f kj76).bind fun t1167 => (some t1167))) = some r := H
                      have A151 := Aside0.mk A1510
                      clear A1510
                      by_cases c152 : t1156 = 0
                      · rw [if_pos c152] at H
                        have c152b0 : (t1156 == 0) = true := beq_iff_eq.mpr c152
                        have c152b1 : (t1156 != 0) = false := bne_eq_false_iff_eq.mpr c152
                        clear c152
                        by_cases c153 : t1160 = t1164
                        · rw [if_pos c153] at H
                          have c153b0 : (t1160 == t1164) = true := beq_iff_eq.mpr c153
                          have c153b1 : (t1160 != t1164) = false := bne_eq_false_iff_eq.mpr c153
                          clear c153
                          by_cases c154 : (t1158 == t1162 && (t1159 == t1163)) = true
                          · rw [if_pos c154] at H
                            have c154b0 : (t1158 == t1162 && (t1159 == t1163)) = true := c154
                            (try (have c154b1 : decide (t1158 = t1162 && (t1159 == t1163)) = true := by simpa using c154))
                            (try (have c154b2 : (t1158 == t1162 && (t1159 == t1163)) = true := by simpa using c154))
                            clear c154
                            replace H := Option.bind_eq_some_iff.mp H
                            obtain ⟨t1166, A1550, H⟩ := H
                            replace H : (some t1166) = some r := H
                            have A155 := Aside0.mk A1550
                            clear A1550
                            obtain rfl := Option.some.inj H
                            have hnb156 := NB1103_1104.out
                            have hnc156 := NB1104_1103.out
                            have hnb157 := NB1103_1112.out
                            have hnc157 := NB1112_1103.out
                            have hnb158 := NB1103_1116.out
                            have hnc158 := NB1116_1103.out
                            have hnb159 := NB1103_1128.out
                            have hnc159 := NB1128_1103.out
                            have hnb160 := NB1103_1136.out
                            have hnc160 := NB1136_1103.out
                            have hnb161 := NB1103_1145.out
                            have hnc161 := NB1145_1103.out
                            have hnb162 := NB1103_1153.out
                            have hnc162 := NB1153_1103.out
                            have ⟨hcz163_0, hcz163_1, hcz163_2, hcz163_3, hcz163_4, hcz163_5, hcz163_6, hcz163_7, hcz163_8, hcz163_9, hcz163_10, hcz163_11, hcz163_12, hcz163_13, hcz163_14, hcz163_15, hcz163_16, hcz163_17, hfz163_0, hfz163_1, hfz163_2, hfz163_3, hfz163_4, hfz163_5, hfz163_6, hfz163_7, hfz163_8, hfz163_9, hfz163_10, hfz163_11, hfz163_12, hfz163_13, hfz163_14, hfz163_15, hfz163_16, hfz163_17⟩ := cf18 BK1103
                            have hnb164 := NB1104_1112.out
                            have hnc164 := NB1112_1104.out
                            have hnb165 := NB1104_1116.out
                            have hnc165 := NB1116_1104.out
                            have hnb166 := NB1104_1128.out
                            have hnc166 := NB1128_1104.out
                            have hnb167 := NB1104_1136.out
                            have hnc167 := NB1136_1104.out
                            have hnb168 := NB1104_1145.out
                            have hnc168 := NB1145_1104.out
                            have hnb169 := NB1104_1153.out
                            have hnc169 := NB1153_1104.out
                            have ⟨hcz170_0, hcz170_1, hfz170_0, hfz170_1⟩ := cf2 BK1104
                            go_wp2_with (first | ((with_reducible refine gate_callee (f := 27) rfl ?_); refine gl 112 Try.func27 (grids_Apply.calls kj76 a0_6 a0_7 a0_8 a0_9 a0_10 a0_11 a1_0 a1_1 t1154 t1155 t1156 _ A149.out) ?_; rintro e w171 ⟨rfl, hb⟩; refine ⟨_, rfl, ?_⟩; replace BK1103 := bb BK1103 hb; replace BK1104 := bb BK1104 hb; replace BK1112 := bb BK1112 hb; replace BK1116 := bb BK1116 hb; replace BK1128 := bb BK1128 hb; replace BK1136 := bb BK1136 hb; replace BK1145 := bb BK1145 hb; replace BK1153 := bb BK1153 hb; replace HB := bst HB hb; clear hb) | ((with_reducible refine gate_dst (N := 17) rfl ?_); refine bx 17 #[.int .i64 0, .int .i64 0] 37 fun gb1157 hg w172 BK1157 hb => ?_; have GW1157 := gw hg HB; have GE1157 := gw hg HB; have NB1103_1157 := nlt hg BK1103; have NB1157_1103 := ngt hg BK1103; have NB1104_1157 := nlt hg BK1104; have NB1157_1104 := ngt hg BK1104; have NB1112_1157 := nlt hg BK1112; have NB1157_1112 := ngt hg BK1112; have NB1116_1157 := nlt hg BK1116; have NB1157_1116 := ngt hg BK1116; have NB1128_1157 := nlt hg BK1128; have NB1157_1128 := ngt hg BK1128; have NB1136_1157 := nlt hg BK1136; have NB1157_1136 := ngt hg BK1136; have NB1145_1157 := nlt hg BK1145; have NB1157_1145 := ngt hg BK1145; have NB1153_1157 := nlt hg BK1153; have NB1157_1153 := ngt hg BK1153; replace BK1103 := bb BK1103 hb; replace BK1104 := bb BK1104 hb; replace BK1112 := bb BK1112 hb; replace BK1116 := bb BK1116 hb; replace BK1128 := bb BK1128 hb; replace BK1136 := bb BK1136 hb; replace BK1145 := bb BK1145 hb; replace BK1153 := bb BK1153 hb; replace HB := bst HB hb; clear hb hg; have hnb173 := NB1157_1103.out; have hnc173 := NB1103_1157.out; have hnb174 := NB1157_1104.out; have hnc174 := NB1104_1157.out; have hnb175 := NB1157_1112.out; have hnc175 := NB1112_1157.out; have hnb176 := NB1157_1116.out; have hnc176 := NB1116_1157.out; have hnb177 := NB1157_1128.out; have hnc177 := NB1128_1157.out; have hnb178 := NB1157_1136.out; have hnc178 := NB1136_1157.out; have hnb179 := NB1157_1145.out; have hnc179 := NB1145_1157.out; have hnb180 := NB1157_1153.out; have hnc180 := NB1153_1157.out; have ⟨hcz181_0, hcz181_1, hfz181_0, hfz181_1⟩ := cf2 BK1157; have ⟨hcz182_0, hcz182_1, hcz182_2, hcz182_3, hcz182_4, hcz182_5, hcz182_6, hcz182_7, hcz182_8, hcz182_9, hcz182_10, hcz182_11, hcz182_12, hcz182_13, hcz182_14, hcz182_15, hcz182_16, hcz182_17, hfz182_0, hfz182_1, hfz182_2, hfz182_3, hfz182_4, hfz182_5, hfz182_6, hfz182_7, hfz182_8, hfz182_9, hfz182_10, hfz182_11, hfz182_12, hfz182_13, hfz182_14, hfz182_15, hfz182_16, hfz182_17⟩ := cf18 BK1103) | ((with_reducible refine gate_callee (f := 27) rfl ?_); refine gl 119 Try.func27 (grids_Apply.calls kj76 a0_0 a0_1 a0_2 a0_3 a0_4 a0_5 t1154 t1155 t1158 t1159 t1160 _ A150.out) ?_; rintro e w183 ⟨rfl, hb⟩; refine ⟨_, rfl, ?_⟩; replace BK1103 := Aside0.mk (blk_below (g := gb1103) (o := .cells #[.int .i64 a0_0, .int .i64 a0_1, .int .i64 a0_2, .int .i64 a0_3, .int .i64 a0_4, .int .i64 a0_5, .int .i64 a0_6, .int .i64 a0_7, .int .i64 a0_8, .int .i64 a0_9, .int .i64 a0_10, .int .i64 a0_11, .int .i64 a0_12, .int .i64 a0_13, .int .i64 a0_14, .int .i64 a0_15, .int .i64 a0_16, .int .i64 a0_17] 67 (0, 0)) (by (with_reducible repeat (first | refine blk_drewN ?_ _ | refine blk_drew ?_ | refine blk_alloc ?_ _)); refine blk_far ?_ NB1103_1157.out _; (with_reducible repeat (first | refine blk_drewN ?_ _ | refine blk_drew ?_ | refine blk_alloc ?_ _)); refine blk_far ?_ NB1103_1157.out _; (with_reducible repeat (first | refine blk_drewN ?_ _ | refine blk_drew ?_ | refine blk_alloc ?_ _)); exact BK1103.out) hb); replace BK1104 := Aside0.mk (blk_below (g := gb1104) (o := .cells #[.int .i64 a1_0, .int .i64 a1_1] 37 (0, 0)) (by (with_reducible repeat (first | refine blk_drewN ?_ _ | refine blk_drew ?_ | refine blk_alloc ?_ _)); refine blk_far ?_ NB1104_1157.out _; (with_reducible repeat (first | refine blk_drewN ?_ _ | refine blk_drew ?_ | refine blk_alloc ?_ _)); refine blk_far ?_ NB1104_1157.out _; (with_reducible repeat (first | refine blk_drewN ?_ _ | refine blk_drew ?_ | refine blk_alloc ?_ _)); exact BK1104.out) hb); replace BK1112 := Aside0.mk (blk_below (g := gb1112) (o := .cells #[.int .i64 t1105, .int .i64 t1106, .int .i64 t1107, .int .i64 t1108, .int .i64 t1109, .int .i64 t1110] 55 (0, 0)) (by (with_reducible repeat (first | refine blk_drewN ?_ _ | refine blk_drew ?_ | refine blk_alloc ?_ _)); refine blk_far ?_ NB1112_1157.out _; (with_reducible repeat (first | refine blk_drewN ?_ _ | refine blk_drew ?_ | refine blk_alloc ?_ _)); refine blk_far ?_ NB1112_1157.out _; (with_reducible repeat (first | refine blk_drewN ?_ _ | refine blk_drew ?_ | refine blk_alloc ?_ _)); exact BK1112.out) hb); replace BK1116 := Aside0.mk (blk_below (g := gb1116) (o := .cells #[.int .i64 t1113, .int .i64 t1114] 37 (0, 0)) (by (with_reducible repeat (first | refine blk_drewN ?_ _ | refine blk_drew ?_ | refine blk_alloc ?_ _)); refine blk_far ?_ NB1116_1157.out _; (with_reducible repeat (first | refine blk_drewN ?_ _ | refine blk_drew ?_ | refine blk_alloc ?_ _)); refine blk_far ?_ NB1116_1157.out _; (with_reducible repeat (first | refine blk_drewN ?_ _ | refine blk_drew ?_ | refine blk_alloc ?_ _)); exact BK1116.out) hb); replace BK1128 := Aside0.mk (blk_below (g := gb1128) (o := .cells #[.int .i64 t1121, .int .i64 t1122, .int .i64 t1123, .int .i64 t1124, .int .i64 t1125, .int .i64 t1126] 55 (0, 0)) (by (with_reducible repeat (first | refine blk_drewN ?_ _ | refine blk_drew ?_ | refine blk_alloc ?_ _)); refine blk_far ?_ NB1128_1157.out _; (with_reducible repeat (first | refine blk_drewN ?_ _ | refine blk_drew ?_ | refine blk_alloc ?_ _)); refine blk_far ?_ NB1128_1157.out _; (with_reducible repeat (first | refine blk_drewN ?_ _ | refine blk_drew ?_ | refine blk_alloc ?_ _)); exact BK1128.out) hb); replace BK1136 := Aside0.mk (blk_below (g := gb1136) (o := .cells #[.int .i64 t1129, .int .i64 t1130, .int .i64 t1131, .int .i64 t1132, .int .i64 t1133, .int .i64 t1134] 55 (0, 0)) (by (with_reducible repeat (first | refine blk_drewN ?_ _ | refine blk_drew ?_ | refine blk_alloc ?_ _)); refine blk_far ?_ NB1136_1157.out _; (with_reducible repeat (first | refine blk_drewN ?_ _ | refine blk_drew ?_ | refine blk_alloc ?_ _)); refine blk_far ?_ NB1136_1157.out _; (with_reducible repeat (first | refine blk_drewN ?_ _ | refine blk_drew ?_ | refine blk_alloc ?_ _)); exact BK1136.out) hb); replace BK1145 := Aside0.mk (blk_below (g := gb1145) (o := .cells #[.int .i64 t1138, .int .i64 t1139, .int .i64 t1140, .int .i64 t1141, .int .i64 t1142, .int .i64 t1143] 55 (0, 0)) (by (with_reducible repeat (first | refine blk_drewN ?_ _ | refine blk_drew ?_ | refine blk_alloc ?_ _)); refine blk_far ?_ NB1145_1157.out _; (with_reducible repeat (first | refine blk_drewN ?_ _ | refine blk_drew ?_ | refine blk_alloc ?_ _)); refine blk_far ?_ NB1145_1157.out _; (with_reducible repeat (first | refine blk_drewN ?_ _ | refine blk_drew ?_ | refine blk_alloc ?_ _)); exact BK1145.out) hb); replace BK1153 := Aside0.mk (blk_below (g := gb1153) (o := .cells #[.int .i64 t1146, .int .i64 t1147, .int .i64 t1148, .int .i64 t1149, .int .i64 t1150, .int .i64 t1151] 55 (0, 0)) (by (with_reducible repeat (first | refine blk_drewN ?_ _ | refine blk_drew ?_ | refine blk_alloc ?_ _)); refine blk_far ?_ NB1153_1157.out _; (with_reducible repeat (first | refine blk_drewN ?_ _ | refine blk_drew ?_ | refine blk_alloc ?_ _)); refine blk_far ?_ NB1153_1157.out _; (with_reducible repeat (first | refine blk_drewN ?_ _ | refine blk_drew ?_ | refine blk_alloc ?_ _)); exact BK1153.out) hb); replace BK1157 := Aside0.mk (blk_below (g := gb1157) (o := .cells #[.int .i64 t1154, .int .i64 t1155] 37 (0, 0)) (by (with_reducible repeat (first | refine blk_drewN ?_ _ | refine blk_drew ?_ | refine blk_alloc ?_ _)); refine blk_put (cs := #[.int .i64 t1154, .int .i64 0]) ?_ 1 _ rfl; (with_reducible repeat (first | refine blk_drewN ?_ _ | refine blk_drew ?_ | refine blk_alloc ?_ _)); refine blk_put (cs := #[.int .i64 0, .int .i64 0]) ?_ 0 _ rfl; (with_reducible repeat (first | refine blk_drewN ?_ _ | refine blk_drew ?_ | refine blk_alloc ?_ _)); exact BK1157.out) hb); replace HB := bst HB hb; (try clear hb); (try clear hb2); (try clear hk); (try clear hi)) | ((with_reducible refine gate_dst (N := 19) rfl ?_); refine bx 19 #[.int .i64 0, .int .i64 0] 37 fun gb1161 hg w184 BK1161 hb => ?_; have GW1161 := gw hg HB; have GE1161 := gw hg HB; have NB1103_1161 := nlt hg BK1103; have NB1161_1103 := ngt hg BK1103; have NB1104_1161 := nlt hg BK1104; have NB1161_1104 := ngt hg BK1104; have NB1112_1161 := nlt hg BK1112; have NB1161_1112 := ngt hg BK1112; have NB1116_1161 := nlt hg BK1116; have NB1161_1116 := ngt hg BK1116; have NB1128_1161 := nlt hg BK1128; have NB1161_1128 := ngt hg BK1128; have NB1136_1161 := nlt hg BK1136; have NB1161_1136 := ngt hg BK1136; have NB1145_1161 := nlt hg BK1145; have NB1161_1145 := ngt hg BK1145; have NB1153_1161 := nlt hg BK1153; have NB1161_1153 := ngt hg BK1153; have NB1157_1161 := nlt hg BK1157; have NB1161_1157 := ngt hg BK1157; replace BK1103 := bb BK1103 hb; replace BK1104 := bb BK1104 hb; replace BK1112 := bb BK1112 hb; replace BK1116 := bb BK1116 hb; replace BK1128 := bb BK1128 hb; replace BK1136 := bb BK1136 hb; replace BK1145 := bb BK1145 hb; replace BK1153 := bb BK1153 hb; replace BK1157 := bb BK1157 hb; replace HB := bst HB hb; clear hb hg; have hnb185 := NB1161_1103.out; have hnc185 := NB1103_1161.out; have hnb186 := NB1161_1104.out; have hnc186 := NB1104_1161.out; have hnb187 := NB1161_1112.out; have hnc187 := NB1112_1161.out; have hnb188 := NB1161_1116.out; have hnc188 := NB1116_1161.out; have hnb189 := NB1161_1128.out; have hnc189 := NB1128_1161.out; have hnb190 := NB1161_1136.out; have hnc190 := NB1136_1161.out; have hnb191 := NB1161_1145.out; have hnc191 := NB1145_1161.out; have hnb192 := NB1161_1153.out; have hnc192 := NB1153_1161.out; have hnb193 := NB1161_1157.out; have hnc193 := NB1157_1161.out; have ⟨hcz194_0, hcz194_1, hfz194_0, hfz194_1⟩ := cf2 BK1161; have hnb195 := NB1128_1112.out; have hnc195 := NB1112_1128.out; have hnb196 := NB1128_1116.out; have hnc196 := NB1116_1128.out; have hnb197 := NB1128_1136.out; have hnc197 := NB1136_1128.out; have hnb198 := NB1128_1145.out; have hnc198 := NB1145_1128.out; have hnb199 := NB1128_1153.out; have hnc199 := NB1153_1128.out; have ⟨hcz200_0, hcz200_1, hcz200_2, hcz200_3, hcz200_4, hcz200_5, hfz200_0, hfz200_1, hfz200_2, hfz200_3, hfz200_4, hfz200_5⟩ := cf6 BK1128; have ⟨hcz201_0, hcz201_1, hfz201_0, hfz201_1⟩ := cf2 BK1104) | ((with_reducible refine gate_callee (f := 27) rfl ?_); refine gl 125 Try.func27 (grids_Apply.calls kj76 t1121 t1122 t1123 t1124 t1125 t1126 a1_0 a1_1 t1162 t1163 t1164 _ A151.out) ?_; rintro e w202 ⟨rfl, hb⟩; refine ⟨_, rfl, ?_⟩; replace BK1103 := Aside0.mk (blk_below (g := gb1103) (o := .cells #[.int .i64 a0_0, .int .i64 a0_1, .int .i64 a0_2, .int .i64 a0_3, .int .i64 a0_4, .int .i64 a0_5, .int .i64 a0_6, .int .i64 a0_7, .int .i64 a0_8, .int .i64 a0_9, .int .i64 a0_10, .int .i64 a0_11, .int .i64 a0_12, .int .i64 a0_13, .int .i64 a0_14, .int .i64 a0_15, .int .i64 a0_16, .int .i64 a0_17] 67 (0, 0)) (by (with_reducible repeat (first | refine blk_drewN ?_ _ | refine blk_drew ?_ | refine blk_alloc ?_ _)); refine blk_far ?_ NB1103_1161.out _; (with_reducible repeat (first | refine blk_drewN ?_ _ | refine blk_drew ?_ | refine blk_alloc ?_ _)); refine blk_far ?_ NB1103_1161.out _; (with_reducible repeat (first | refine blk_drewN ?_ _ | refine blk_drew ?_ | refine blk_alloc ?_ _)); exact BK1103.out) hb); replace BK1104 := Aside0.mk (blk_below (g := gb1104) (o := .cells #[.int .i64 a1_0, .int .i64 a1_1] 37 (0, 0)) (by (with_reducible repeat (first | refine blk_drewN ?_ _ | refine blk_drew ?_ | refine blk_alloc ?_ _)); refine blk_far ?_ NB1104_1161.out _; (with_reducible repeat (first | refine blk_drewN ?_ _ | refine blk_drew ?_ | refine blk_alloc ?_ _)); refine blk_far ?_ NB1104_1161.out _; (with_reducible repeat (first | refine blk_drewN ?_ _ | refine blk_drew ?_ | refine blk_alloc ?_ _)); exact BK1104.out) hb); replace BK1112 := Aside0.mk (blk_below (g := gb1112) (o := .cells #[.int .i64 t1105, .int .i64 t1106, .int .i64 t1107, .int .i64 t1108, .int .i64 t1109, .int .i64 t1110] 55 (0, 0)) (by (with_reducible repeat (first | refine blk_drewN ?_ _ | refine blk_drew ?_ | refine blk_alloc ?_ _)); refine blk_far ?_ NB1112_1161.out _; (with_reducible repeat (first | refine blk_drewN ?_ _ | refine blk_drew ?_ | refine blk_alloc ?_ _)); refine blk_far ?_ NB1112_1161.out _; (with_reducible repeat (first | refine blk_drewN ?_ _ | refine blk_drew ?_ | refine blk_alloc ?_ _)); exact BK1112.out) hb); replace BK1116 := Aside0.mk (blk_below (g := gb1116) (o := .cells #[.int .i64 t1113, .int .i64 t1114] 37 (0, 0)) (by (with_reducible repeat (first | refine blk_drewN ?_ _ | refine blk_drew ?_ | refine blk_alloc ?_ _)); refine blk_far ?_ NB1116_1161.out _; (with_reducible repeat (first | refine blk_drewN ?_ _ | refine blk_drew ?_ | refine blk_alloc ?_ _)); refine blk_far ?_ NB1116_1161.out _; (with_reducible repeat (first | refine blk_drewN ?_ _ | refine blk_drew ?_ | refine blk_alloc ?_ _)); exact BK1116.out) hb); replace BK1128 := Aside0.mk (blk_below (g := gb1128) (o := .cells #[.int .i64 t1121, .int .i64 t1122, .int .i64 t1123, .int .i64 t1124, .int .i64 t1125, .int .i64 t1126] 55 (0, 0)) (by (with_reducible repeat (first | refine blk_drewN ?_ _ | refine blk_drew ?_ | refine blk_alloc ?_ _)); refine blk_far ?_ NB1128_1161.out _; (with_reducible repeat (first | refine blk_drewN ?_ _ | refine blk_drew ?_ | refine blk_alloc ?_ _)); refine blk_far ?_ NB1128_1161.out _; (with_reducible repeat (first | refine blk_drewN ?_ _ | refine blk_drew ?_ | refine blk_alloc ?_ _)); exact BK1128.out) hb); replace BK1136 := Aside0.mk (blk_below (g := gb1136) (o := .cells #[.int .i64 t1129, .int .i64 t1130, .int .i64 t1131, .int .i64 t1132, .int .i64 t1133, .int .i64 t1134] 55 (0, 0)) (by (with_reducible repeat (first | refine blk_drewN ?_ _ | refine blk_drew ?_ | refine blk_alloc ?_ _)); refine blk_far ?_ NB1136_1161.out _; (with_reducible repeat (first | refine blk_drewN ?_ _ | refine blk_drew ?_ | refine blk_alloc ?_ _)); refine blk_far ?_ NB1136_1161.out _; (with_reducible repeat (first | refine blk_drewN ?_ _ | refine blk_drew ?_ | refine blk_alloc ?_ _)); exact BK1136.out) hb); replace BK1145 := Aside0.mk (blk_below (g := gb1145) (o := .cells #[.int .i64 t1138, .int .i64 t1139, .int .i64 t1140, .int .i64 t1141, .int .i64 t1142, .int .i64 t1143] 55 (0, 0)) (by (with_reducible repeat (first | refine blk_drewN ?_ _ | refine blk_drew ?_ | refine blk_alloc ?_ _)); refine blk_far ?_ NB1145_1161.out _; (with_reducible repeat (first | refine blk_drewN ?_ _ | refine blk_drew ?_ | refine blk_alloc ?_ _)); refine blk_far ?_ NB1145_1161.out _; (with_reducible repeat (first | refine blk_drewN ?_ _ | refine blk_drew ?_ | refine blk_alloc ?_ _)); exact BK1145.out) hb); replace BK1153 := Aside0.mk (blk_below (g := gb1153) (o := .cells #[.int .i64 t1146, .int .i64 t1147, .int .i64 t1148, .int .i64 t1149, .int .i64 t1150, .int .i64 t1151] 55 (0, 0)) (by (with_reducible repeat (first | refine blk_drewN ?_ _ | refine blk_drew ?_ | refine blk_alloc ?_ _)); refine blk_far ?_ NB1153_1161.out _; (with_reducible repeat (first | refine blk_drewN ?_ _ | refine blk_drew ?_ | refine blk_alloc ?_ _)); refine blk_far ?_ NB1153_1161.out _; (with_reducible repeat (first | refine blk_drewN ?_ _ | refine blk_drew ?_ | refine blk_alloc ?_ _)); exact BK1153.out) hb); replace BK1157 := Aside0.mk (blk_below (g := gb1157) (o := .cells #[.int .i64 t1154, .int .i64 t1155] 37 (0, 0)) (by (with_reducible repeat (first | refine blk_drewN ?_ _ | refine blk_drew ?_ | refine blk_alloc ?_ _)); refine blk_far ?_ NB1157_1161.out _; (with_reducible repeat (first | refine blk_drewN ?_ _ | refine blk_drew ?_ | refine blk_alloc ?_ _)); refine blk_far ?_ NB1157_1161.out _; (with_reducible repeat (first | refine blk_drewN ?_ _ | refine blk_drew ?_ | refine blk_alloc ?_ _)); exact BK1157.out) hb); replace BK1161 := Aside0.mk (blk_below (g := gb1161) (o := .cells #[.int .i64 t1158, .int .i64 t1159] 37 (0, 0)) (by (with_reducible repeat (first | refine blk_drewN ?_ _ | refine blk_drew ?_ | refine blk_alloc ?_ _)); refine blk_put (cs := #[.int .i64 t1158, .int .i64 0]) ?_ 1 _ rfl; (with_reducible repeat (first | refine blk_drewN ?_ _ | refine blk_drew ?_ | refine blk_alloc ?_ _)); refine blk_put (cs := #[.int .i64 0, .int .i64 0]) ?_ 0 _ rfl; (with_reducible repeat (first | refine blk_drewN ?_ _ | refine blk_drew ?_ | refine blk_alloc ?_ _)); exact BK1161.out) hb); replace HB := bst HB hb; (try clear hb); (try clear hb2); (try clear hk); (try clear hi)) | ((with_reducible refine gate_dst (N := 21) rfl ?_); refine bx 21 #[.int .i64 0, .int .i64 0] 37 fun gb1165 hg w203 BK1165 hb => ?_; have GW1165 := gw hg HB; have GE1165 := gw hg HB; have NB1103_1165 := nlt hg BK1103; have NB1165_1103 := ngt hg BK1103; have NB1104_1165 := nlt hg BK1104; have NB1165_1104 := ngt hg BK1104; have NB1112_1165 := nlt hg BK1112; have NB1165_1112 := ngt hg BK1112; have NB1116_1165 := nlt hg BK1116; have NB1165_1116 := ngt hg BK1116; have NB1128_1165 := nlt hg BK1128; have NB1165_1128 := ngt hg BK1128; have NB1136_1165 := nlt hg BK1136; have NB1165_1136 := ngt hg BK1136; have NB1145_1165 := nlt hg BK1145; have NB1165_1145 := ngt hg BK1145; have NB1153_1165 := nlt hg BK1153; have NB1165_1153 := ngt hg BK1153; have NB1157_1165 := nlt hg BK1157; have NB1165_1157 := ngt hg BK1157; have NB1161_1165 := nlt hg BK1161; have NB1165_1161 := ngt hg BK1161; replace BK1103 := bb BK1103 hb; replace BK1104 := bb BK1104 hb; replace BK1112 := bb BK1112 hb; replace BK1116 := bb BK1116 hb; replace BK1128 := bb BK1128 hb; replace BK1136 := bb BK1136 hb; replace BK1145 := bb BK1145 hb; replace BK1153 := bb BK1153 hb; replace BK1157 := bb BK1157 hb; replace BK1161 := bb BK1161 hb; replace HB := bst HB hb; clear hb hg; have hnb204 := NB1165_1103.out; have hnc204 := NB1103_1165.out; have hnb205 := NB1165_1104.out; have hnc205 := NB1104_1165.out; have hnb206 := NB1165_1112.out; have hnc206 := NB1112_1165.out; have hnb207 := NB1165_1116.out; have hnc207 := NB1116_1165.out; have hnb208 := NB1165_1128.out; have hnc208 := NB1128_1165.out; have hnb209 := NB1165_1136.out; have hnc209 := NB1136_1165.out; have hnb210 := NB1165_1145.out; have hnc210 := NB1145_1165.out; have hnb211 := NB1165_1153.out; have hnc211 := NB1153_1165.out; have hnb212 := NB1165_1157.out; have hnc212 := NB1157_1165.out; have hnb213 := NB1165_1161.out; have hnc213 := NB1161_1165.out; have ⟨hcz214_0, hcz214_1, hfz214_0, hfz214_1⟩ := cf2 BK1165; have ⟨hcz215_0, hcz215_1, hfz215_0, hfz215_1⟩ := cf2 BK1161) | (go_at_call 13; (with_reducible refine (torchonlaw06_awake.calls kj76  t1166 _ A155.out).mono ?_); rintro e w216 ⟨rfl, hb⟩; replace BK1103 := Aside0.mk (blk_below (g := gb1103) (o := .cells #[.int .i64 a0_0, .int .i64 a0_1, .int .i64 a0_2, .int .i64 a0_3, .int .i64 a0_4, .int .i64 a0_5, .int .i64 a0_6, .int .i64 a0_7, .int .i64 a0_8, .int .i64 a0_9, .int .i64 a0_10, .int .i64 a0_11, .int .i64 a0_12, .int .i64 a0_13, .int .i64 a0_14, .int .i64 a0_15, .int .i64 a0_16, .int .i64 a0_17] 67 (0, 0)) (by (with_reducible repeat (first | refine blk_drewN ?_ _ | refine blk_drew ?_ | refine blk_alloc ?_ _)); refine blk_far ?_ NB1103_1165.out _; (with_reducible repeat (first | refine blk_drewN ?_ _ | refine blk_drew ?_ | refine blk_alloc ?_ _)); refine blk_far ?_ NB1103_1165.out _; (with_reducible repeat (first | refine blk_drewN ?_ _ | refine blk_drew ?_ | refine blk_alloc ?_ _)); exact BK1103.out) hb); replace BK1104 := Aside0.mk (blk_below (g := gb1104) (o := .cells #[.int .i64 a1_0, .int .i64 a1_1] 37 (0, 0)) (by (with_reducible repeat (first | refine blk_drewN ?_ _ | refine blk_drew ?_ | refine blk_alloc ?_ _)); refine blk_far ?_ NB1104_1165.out _; (with_reducible repeat (first | refine blk_drewN ?_ _ | refine blk_drew ?_ | refine blk_alloc ?_ _)); refine blk_far ?_ NB1104_1165.out _; (with_reducible repeat (first | refine blk_drewN ?_ _ | refine blk_drew ?_ | refine blk_alloc ?_ _)); exact BK1104.out) hb); replace BK1112 := Aside0.mk (blk_below (g := gb1112) (o := .cells #[.int .i64 t1105, .int .i64 t1106, .int .i64 t1107, .int .i64 t1108, .int .i64 t1109, .int .i64 t1110] 55 (0, 0)) (by (with_reducible repeat (first | refine blk_drewN ?_ _ | refine blk_drew ?_ | refine blk_alloc ?_ _)); refine blk_far ?_ NB1112_1165.out _; (with_reducible repeat (first | refine blk_drewN ?_ _ | refine blk_drew ?_ | refine blk_alloc ?_ _)); refine blk_far ?_ NB1112_1165.out _; (with_reducible repeat (first | refine blk_drewN ?_ _ | refine blk_drew ?_ | refine blk_alloc ?_ _)); exact BK1112.out) hb); replace BK1116 := Aside0.mk (blk_below (g := gb1116) (o := .cells #[.int .i64 t1113, .int .i64 t1114] 37 (0, 0)) (by (with_reducible repeat (first | refine blk_drewN ?_ _ | refine blk_drew ?_ | refine blk_alloc ?_ _)); refine blk_far ?_ NB1116_1165.out _; (with_reducible repeat (first | refine blk_drewN ?_ _ | refine blk_drew ?_ | refine blk_alloc ?_ _)); refine blk_far ?_ NB1116_1165.out _; (with_reducible repeat (first | refine blk_drewN ?_ _ | refine blk_drew ?_ | refine blk_alloc ?_ _)); exact BK1116.out) hb); replace BK1128 := Aside0.mk (blk_below (g := gb1128) (o := .cells #[.int .i64 t1121, .int .i64 t1122, .int .i64 t1123, .int .i64 t1124, .int .i64 t1125, .int .i64 t1126] 55 (0, 0)) (by (with_reducible repeat (first | refine blk_drewN ?_ _ | refine blk_drew ?_ | refine blk_alloc ?_ _)); refine blk_far ?_ NB1128_1165.out _; (with_reducible repeat (first | refine blk_drewN ?_ _ | refine blk_drew ?_ | refine blk_alloc ?_ _)); refine blk_far ?_ NB1128_1165.out _; (with_reducible repeat (first | refine blk_drewN ?_ _ | refine blk_drew ?_ | refine blk_alloc ?_ _)); exact BK1128.out) hb); replace BK1136 := Aside0.mk (blk_below (g := gb1136) (o := .cells #[.int .i64 t1129, .int .i64 t1130, .int .i64 t1131, .int .i64 t1132, .int .i64 t1133, .int .i64 t1134] 55 (0, 0)) (by (with_reducible repeat (first | refine blk_drewN ?_ _ | refine blk_drew ?_ | refine blk_alloc ?_ _)); refine blk_far ?_ NB1136_1165.out _; (with_reducible repeat (first | refine blk_drewN ?_ _ | refine blk_drew ?_ | refine blk_alloc ?_ _)); refine blk_far ?_ NB1136_1165.out _; (with_reducible repeat (first | refine blk_drewN ?_ _ | refine blk_drew ?_ | refine blk_alloc ?_ _)); exact BK1136.out) hb); replace BK1145 := Aside0.mk (blk_below (g := gb1145) (o := .cells #[.int .i64 t1138, .int .i64 t1139, .int .i64 t1140, .int .i64 t1141, .int .i64 t1142, .int .i64 t1143] 55 (0, 0)) (by (with_reducible repeat (first | refine blk_drewN ?_ _ | refine blk_drew ?_ | refine blk_alloc ?_ _)); refine blk_far ?_ NB1145_1165.out _; (with_reducible repeat (first | refine blk_drewN ?_ _ | refine blk_drew ?_ | refine blk_alloc ?_ _)); refine blk_far ?_ NB1145_1165.out _; (with_reducible repeat (first | refine blk_drewN ?_ _ | refine blk_drew ?_ | refine blk_alloc ?_ _)); exact BK1145.out) hb); replace BK1153 := Aside0.mk (blk_below (g := gb1153) (o := .cells #[.int .i64 t1146, .int .i64 t1147, .int .i64 t1148, .int .i64 t1149, .int .i64 t1150, .int .i64 t1151] 55 (0, 0)) (by (with_reducible repeat (first | refine blk_drewN ?_ _ | refine blk_drew ?_ | refine blk_alloc ?_ _)); refine blk_far ?_ NB1153_1165.out _; (with_reducible repeat (first | refine blk_drewN ?_ _ | refine blk_drew ?_ | refine blk_alloc ?_ _)); refine blk_far ?_ NB1153_1165.out _; (with_reducible repeat (first | refine blk_drewN ?_ _ | refine blk_drew ?_ | refine blk_alloc ?_ _)); exact BK1153.out) hb); replace BK1157 := Aside0.mk (blk_below (g := gb1157) (o := .cells #[.int .i64 t1154, .int .i64 t1155] 37 (0, 0)) (by (with_reducible repeat (first | refine blk_drewN ?_ _ | refine blk_drew ?_ | refine blk_alloc ?_ _)); refine blk_far ?_ NB1157_1165.out _; (with_reducible repeat (first | refine blk_drewN ?_ _ | refine blk_drew ?_ | refine blk_alloc ?_ _)); refine blk_far ?_ NB1157_1165.out _; (with_reducible repeat (first | refine blk_drewN ?_ _ | refine blk_drew ?_ | refine blk_alloc ?_ _)); exact BK1157.out) hb); replace BK1161 := Aside0.mk (blk_below (g := gb1161) (o := .cells #[.int .i64 t1158, .int .i64 t1159] 37 (0, 0)) (by (with_reducible repeat (first | refine blk_drewN ?_ _ | refine blk_drew ?_ | refine blk_alloc ?_ _)); refine blk_far ?_ NB1161_1165.out _; (with_reducible repeat (first | refine blk_drewN ?_ _ | refine blk_drew ?_ | refine blk_alloc ?_ _)); refine blk_far ?_ NB1161_1165.out _; (with_reducible repeat (first | refine blk_drewN ?_ _ | refine blk_drew ?_ | refine blk_alloc ?_ _)); exact BK1161.out) hb); replace BK1165 := Aside0.mk (blk_below (g := gb1165) (o := .cells #[.int .i64 t1162, .int .i64 t1163] 37 (0, 0)) (by (with_reducible repeat (first | refine blk_drewN ?_ _ | refine blk_drew ?_ | refine blk_alloc ?_ _)); refine blk_put (cs := #[.int .i64 t1162, .int .i64 0]) ?_ 1 _ rfl; (with_reducible repeat (first | refine blk_drewN ?_ _ | refine blk_drew ?_ | refine blk_alloc ?_ _)); refine blk_put (cs := #[.int .i64 0, .int .i64 0]) ?_ 0 _ rfl; (with_reducible repeat (first | refine blk_drewN ?_ _ | refine blk_drew ?_ | refine blk_alloc ?_ _)); exact BK1165.out) hb); replace HB := bst HB hb; (try clear hb); (try clear hb2); (try clear hk); (try clear hi)))
                            go_ret
                            exact rt HB
                          · rw [if_neg c154] at H
                            exact absurd H (by simp)
                        · rw [if_neg c153] at H
                          exact absurd H (by simp)
                      · rw [if_neg c152] at H
                        have c152b0 : (t1156 == 0) = false := beq_eq_false_iff_ne.mpr c152
                        have c152b1 : (t1156 != 0) = true := bne_iff_ne.mpr c152
                        replace H := Option.bind_eq_some_iff.mp H
                        obtain ⟨t1167, A2170, H⟩ := H
                        replace H : (some t1167) = some r := H
                        have A217 := Aside0.mk A2170
                        clear A2170
                        obtain rfl := Option.some.inj H
                        have hnb218 := NB1103_1104.out
                        have hnc218 := NB1104_1103.out
                        have hnb219 := NB1103_1112.out
                        have hnc219 := NB1112_1103.out
                        have hnb220 := NB1103_1116.out
                        have hnc220 := NB1116_1103.out
                        have hnb221 := NB1103_1128.out
                        have hnc221 := NB1128_1103.out
                        have hnb222 := NB1103_1136.out
                        have hnc222 := NB1136_1103.out
                        have hnb223 := NB1103_1145.out
                        have hnc223 := NB1145_1103.out
                        have hnb224 := NB1103_1153.out
                        have hnc224 := NB1153_1103.out
                        have ⟨hcz225_0, hcz225_1, hcz225_2, hcz225_3, hcz225_4, hcz225_5, hcz225_6, hcz225_7, hcz225_8, hcz225_9, hcz225_10, hcz225_11, hcz225_12, hcz225_13, hcz225_14, hcz225_15, hcz225_16, hcz225_17, hfz225_0, hfz225_1, hfz225_2, hfz225_3, hfz225_4, hfz225_5, hfz225_6, hfz225_7, hfz225_8, hfz225_9, hfz225_10, hfz225_11, hfz225_12, hfz225_13, hfz225_14, hfz225_15, hfz225_16, hfz225_17⟩ := cf18 BK1103
                        have hnb226 := NB1104_1112.out
                        have hnc226 := NB1112_1104.out
                        have hnb227 := NB1104_1116.out
                        have hnc227 := NB1116_1104.out
                        have hnb228 := NB1104_1128.out
                        have hnc228 := NB1128_1104.out
                        have hnb229 := NB1104_1136.out
                        have hnc229 := NB1136_1104.out
                        have hnb230 := NB1104_1145.out
                        have hnc230 := NB1145_1104.out
                        have hnb231 := NB1104_1153.out
                        have hnc231 := NB1153_1104.out
                        have ⟨hcz232_0, hcz232_1, hfz232_0, hfz232_1⟩ := cf2 BK1104
                        go_wp2_with (first | ((with_reducible refine gate_callee (f := 27) rfl ?_); refine gl 112 Try.func27 (grids_Apply.calls kj76 a0_6 a0_7 a0_8 a0_9 a0_10 a0_11 a1_0 a1_1 t1154 t1155 t1156 _ A149.out) ?_; rintro e w233 ⟨rfl, hb⟩; refine ⟨_, rfl, ?_⟩; replace BK1103 := bb BK1103 hb; replace BK1104 := bb BK1104 hb; replace BK1112 := bb BK1112 hb; replace BK1116 := bb BK1116 hb; replace BK1128 := bb BK1128 hb; replace BK1136 := bb BK1136 hb; replace BK1145 := bb BK1145 hb; replace BK1153 := bb BK1153 hb; replace HB := bst HB hb; clear hb) | ((with_reducible refine gate_dst (N := 17) rfl ?_); refine bx 17 #[.int .i64 0, .int .i64 0] 37 fun gb1157 hg w234 BK1157 hb => ?_; have GW1157 := gw hg HB; have GE1157 := gw hg HB; have NB1103_1157 := nlt hg BK1103; have NB1157_1103 := ngt hg BK1103; have NB1104_1157 := nlt hg BK1104; have NB1157_1104 := ngt hg BK1104; have NB1112_1157 := nlt hg BK1112; have NB1157_1112 := ngt hg BK1112; have NB1116_1157 := nlt hg BK1116; have NB1157_1116 := ngt hg BK1116; have NB1128_1157 := nlt hg BK1128; have NB1157_1128 := ngt hg BK1128; have NB1136_1157 := nlt hg BK1136; have NB1157_1136 := ngt hg BK1136; have NB1145_1157 := nlt hg BK1145; have NB1157_1145 := ngt hg BK1145; have NB1153_1157 := nlt hg BK1153; have NB1157_1153 := ngt hg BK1153; replace BK1103 := bb BK1103 hb; replace BK1104 := bb BK1104 hb; replace BK1112 := bb BK1112 hb; replace BK1116 := bb BK1116 hb; replace BK1128 := bb BK1128 hb; replace BK1136 := bb BK1136 hb; replace BK1145 := bb BK1145 hb; replace BK1153 := bb BK1153 hb; replace HB := bst HB hb; clear hb hg; have hnb235 := NB1157_1103.out; have hnc235 := NB1103_1157.out; have hnb236 := NB1157_1104.out; have hnc236 := NB1104_1157.out; have hnb237 := NB1157_1112.out; have hnc237 := NB1112_1157.out; have hnb238 := NB1157_1116.out; have hnc238 := NB1116_1157.out; have hnb239 := NB1157_1128.out; have hnc239 := NB1128_1157.out; have hnb240 := NB1157_1136.out; have hnc240 := NB1136_1157.out; have hnb241 := NB1157_1145.out; have hnc241 := NB1145_1157.out; have hnb242 := NB1157_1153.out; have hnc242 := NB1153_1157.out; have ⟨hcz243_0, hcz243_1, hfz243_0, hfz243_1⟩ := cf2 BK1157; have ⟨hcz244_0, hcz244_1, hcz244_2, hcz244_3, hcz244_4, hcz244_5, hcz244_6, hcz244_7, hcz244_8, hcz244_9, hcz244_10, hcz244_11, hcz244_12, hcz244_13, hcz244_14, hcz244_15, hcz244_16, hcz244_17, hfz244_0, hfz244_1, hfz244_2, hfz244_3, hfz244_4, hfz244_5, hfz244_6, hfz244_7, hfz244_8, hfz244_9, hfz244_10, hfz244_11, hfz244_12, hfz244_13, hfz244_14, hfz244_15, hfz244_16, hfz244_17⟩ := cf18 BK1103) | ((with_reducible refine gate_callee (f := 27) rfl ?_); refine gl 119 Try.func27 (grids_Apply.calls kj76 a0_0 a0_1 a0_2 a0_3 a0_4 a0_5 t1154 t1155 t1158 t1159 t1160 _ A150.out) ?_; rintro e w245 ⟨rfl, hb⟩; refine ⟨_, rfl, ?_⟩; replace BK1103 := Aside0.mk (blk_below (g := gb1103) (o := .cells #[.int .i64 a0_0, .int .i64 a0_1, .int .i64 a0_2, .int .i64 a0_3, .int .i64 a0_4, .int .i64 a0_5, .int .i64 a0_6, .int .i64 a0_7, .int .i64 a0_8, .int .i64 a0_9, .int .i64 a0_10, .int .i64 a0_11, .int .i64 a0_12, .int .i64 a0_13, .int .i64 a0_14, .int .i64 a0_15, .int .i64 a0_16, .int .i64 a0_17] 67 (0, 0)) (by (with_reducible repeat (first | refine blk_drewN ?_ _ | refine blk_drew ?_ | refine blk_alloc ?_ _)); refine blk_far ?_ NB1103_1157.out _; (with_reducible repeat (first | refine blk_drewN ?_ _ | refine blk_drew ?_ | refine blk_alloc ?_ _)); refine blk_far ?_ NB1103_1157.out _; (with_reducible repeat (first | refine blk_drewN ?_ _ | refine blk_drew ?_ | refine blk_alloc ?_ _)); exact BK1103.out) hb); replace BK1104 := Aside0.mk (blk_below (g := gb1104) (o := .cells #[.int .i64 a1_0, .int .i64 a1_1] 37 (0, 0)) (by (with_reducible repeat (first | refine blk_drewN ?_ _ | refine blk_drew ?_ | refine blk_alloc ?_ _)); refine blk_far ?_ NB1104_1157.out _; (with_reducible repeat (first | refine blk_drewN ?_ _ | refine blk_drew ?_ | refine blk_alloc ?_ _)); refine blk_far ?_ NB1104_1157.out _; (with_reducible repeat (first | refine blk_drewN ?_ _ | refine blk_drew ?_ | refine blk_alloc ?_ _)); exact BK1104.out) hb); replace BK1112 := Aside0.mk (blk_below (g := gb1112) (o := .cells #[.int .i64 t1105, .int .i64 t1106, .int .i64 t1107, .int .i64 t1108, .int .i64 t1109, .int .i64 t1110] 55 (0, 0)) (by (with_reducible repeat (first | refine blk_drewN ?_ _ | refine blk_drew ?_ | refine blk_alloc ?_ _)); refine blk_far ?_ NB1112_1157.out _; (with_reducible repeat (first | refine blk_drewN ?_ _ | refine blk_drew ?_ | refine blk_alloc ?_ _)); refine blk_far ?_ NB1112_1157.out _; (with_reducible repeat (first | refine blk_drewN ?_ _ | refine blk_drew ?_ | refine blk_alloc ?_ _)); exact BK1112.out) hb); replace BK1116 := Aside0.mk (blk_below (g := gb1116) (o := .cells #[.int .i64 t1113, .int .i64 t1114] 37 (0, 0)) (by (with_reducible repeat (first | refine blk_drewN ?_ _ | refine blk_drew ?_ | refine blk_alloc ?_ _)); refine blk_far ?_ NB1116_1157.out _; (with_reducible repeat (first | refine blk_drewN ?_ _ | refine blk_drew ?_ | refine blk_alloc ?_ _)); refine blk_far ?_ NB1116_1157.out _; (with_reducible repeat (first | refine blk_drewN ?_ _ | refine blk_drew ?_ | refine blk_alloc ?_ _)); exact BK1116.out) hb); replace BK1128 := Aside0.mk (blk_below (g := gb1128) (o := .cells #[.int .i64 t1121, .int .i64 t1122, .int .i64 t1123, .int .i64 t1124, .int .i64 t1125, .int .i64 t1126] 55 (0, 0)) (by (with_reducible repeat (first | refine blk_drewN ?_ _ | refine blk_drew ?_ | refine blk_alloc ?_ _)); refine blk_far ?_ NB1128_1157.out _; (with_reducible repeat (first | refine blk_drewN ?_ _ | refine blk_drew ?_ | refine blk_alloc ?_ _)); refine blk_far ?_ NB1128_1157.out _; (with_reducible repeat (first | refine blk_drewN ?_ _ | refine blk_drew ?_ | refine blk_alloc ?_ _)); exact BK1128.out) hb); replace BK1136 := Aside0.mk (blk_below (g := gb1136) (o := .cells #[.int .i64 t1129, .int .i64 t1130, .int .i64 t1131, .int .i64 t1132, .int .i64 t1133, .int .i64 t1134] 55 (0, 0)) (by (with_reducible repeat (first | refine blk_drewN ?_ _ | refine blk_drew ?_ | refine blk_alloc ?_ _)); refine blk_far ?_ NB1136_1157.out _; (with_reducible repeat (first | refine blk_drewN ?_ _ | refine blk_drew ?_ | refine blk_alloc ?_ _)); refine blk_far ?_ NB1136_1157.out _; (with_reducible repeat (first | refine blk_drewN ?_ _ | refine blk_drew ?_ | refine blk_alloc ?_ _)); exact BK1136.out) hb); replace BK1145 := Aside0.mk (blk_below (g := gb1145) (o := .cells #[.int .i64 t1138, .int .i64 t1139, .int .i64 t1140, .int .i64 t1141, .int .i64 t1142, .int .i64 t1143] 55 (0, 0)) (by (with_reducible repeat (first | refine blk_drewN ?_ _ | refine blk_drew ?_ | refine blk_alloc ?_ _)); refine blk_far ?_ NB1145_1157.out _; (with_reducible repeat (first | refine blk_drewN ?_ _ | refine blk_drew ?_ | refine blk_alloc ?_ _)); refine blk_far ?_ NB1145_1157.out _; (with_reducible repeat (first | refine blk_drewN ?_ _ | refine blk_drew ?_ | refine blk_alloc ?_ _)); exact BK1145.out) hb); replace BK1153 := Aside0.mk (blk_below (g := gb1153) (o := .cells #[.int .i64 t1146, .int .i64 t1147, .int .i64 t1148, .int .i64 t1149, .int .i64 t1150, .int .i64 t1151] 55 (0, 0)) (by (with_reducible repeat (first | refine blk_drewN ?_ _ | refine blk_drew ?_ | refine blk_alloc ?_ _)); refine blk_far ?_ NB1153_1157.out _; (with_reducible repeat (first | refine blk_drewN ?_ _ | refine blk_drew ?_ | refine blk_alloc ?_ _)); refine blk_far ?_ NB1153_1157.out _; (with_reducible repeat (first | refine blk_drewN ?_ _ | refine blk_drew ?_ | refine blk_alloc ?_ _)); exact BK1153.out) hb); replace BK1157 := Aside0.mk (blk_below (g := gb1157) (o := .cells #[.int .i64 t1154, .int .i64 t1155] 37 (0, 0)) (by (with_reducible repeat (first | refine blk_drewN ?_ _ | refine blk_drew ?_ | refine blk_alloc ?_ _)); refine blk_put (cs := #[.int .i64 t1154, .int .i64 0]) ?_ 1 _ rfl; (with_reducible repeat (first | refine blk_drewN ?_ _ | refine blk_drew ?_ | refine blk_alloc ?_ _)); refine blk_put (cs := #[.int .i64 0, .int .i64 0]) ?_ 0 _ rfl; (with_reducible repeat (first | refine blk_drewN ?_ _ | refine blk_drew ?_ | refine blk_alloc ?_ _)); exact BK1157.out) hb); replace HB := bst HB hb; (try clear hb); (try clear hb2); (try clear hk); (try clear hi)) | ((with_reducible refine gate_dst (N := 19) rfl ?_); refine bx 19 #[.int .i64 0, .int .i64 0] 37 fun gb1161 hg w246 BK1161 hb => ?_; have GW1161 := gw hg HB; have GE1161 := gw hg HB; have NB1103_1161 := nlt hg BK1103; have NB1161_1103 := ngt hg BK1103; have NB1104_1161 := nlt hg BK1104; have NB1161_1104 := ngt hg BK1104; have NB1112_1161 := nlt hg BK1112; have NB1161_1112 := ngt hg BK1112; have NB1116_1161 := nlt hg BK1116; have NB1161_1116 := ngt hg BK1116; have NB1128_1161 := nlt hg BK1128; have NB1161_1128 := ngt hg BK1128; have NB1136_1161 := nlt hg BK1136; have NB1161_1136 := ngt hg BK1136; have NB1145_1161 := nlt hg BK1145; have NB1161_1145 := ngt hg BK1145; have NB1153_1161 := nlt hg BK1153; have NB1161_1153 := ngt hg BK1153; have NB1157_1161 := nlt hg BK1157; have NB1161_1157 := ngt hg BK1157; replace BK1103 := bb BK1103 hb; replace BK1104 := bb BK1104 hb; replace BK1112 := bb BK1112 hb; replace BK1116 := bb BK1116 hb; replace BK1128 := bb BK1128 hb; replace BK1136 := bb BK1136 hb; replace BK1145 := bb BK1145 hb; replace BK1153 := bb BK1153 hb; replace BK1157 := bb BK1157 hb; replace HB := bst HB hb; clear hb hg; have hnb247 := NB1161_1103.out; have hnc247 := NB1103_1161.out; have hnb248 := NB1161_1104.out; have hnc248 := NB1104_1161.out; have hnb249 := NB1161_1112.out; have hnc249 := NB1112_1161.out; have hnb250 := NB1161_1116.out; have hnc250 := NB1116_1161.out; have hnb251 := NB1161_1128.out; have hnc251 := NB1128_1161.out; have hnb252 := NB1161_1136.out; have hnc252 := NB1136_1161.out; have hnb253 := NB1161_1145.out; have hnc253 := NB1145_1161.out; have hnb254 := NB1161_1153.out; have hnc254 := NB1153_1161.out; have hnb255 := NB1161_1157.out; have hnc255 := NB1157_1161.out; have ⟨hcz256_0, hcz256_1, hfz256_0, hfz256_1⟩ := cf2 BK1161; have hnb257 := NB1128_1112.out; have hnc257 := NB1112_1128.out; have hnb258 := NB1128_1116.out; have hnc258 := NB1116_1128.out; have hnb259 := NB1128_1136.out; have hnc259 := NB1136_1128.out; have hnb260 := NB1128_1145.out; have hnc260 := NB1145_1128.out; have hnb261 := NB1128_1153.out; have hnc261 := NB1153_1128.out; have ⟨hcz262_0, hcz262_1, hcz262_2, hcz262_3, hcz262_4, hcz262_5, hfz262_0, hfz262_1, hfz262_2, hfz262_3, hfz262_4, hfz262_5⟩ := cf6 BK1128; have ⟨hcz263_0, hcz263_1, hfz263_0, hfz263_1⟩ := cf2 BK1104) | ((with_reducible refine gate_callee (f := 27) rfl ?_); refine gl 125 Try.func27 (grids_Apply.calls kj76 t1121 t1122 t1123 t1124 t1125 t1126 a1_0 a1_1 t1162 t1163 t1164 _ A151.out) ?_; rintro e w264 ⟨rfl, hb⟩; refine ⟨_, rfl, ?_⟩; replace BK1103 := Aside0.mk (blk_below (g := gb1103) (o := .cells #[.int .i64 a0_0, .int .i64 a0_1, .int .i64 a0_2, .int .i64 a0_3, .int .i64 a0_4, .int .i64 a0_5, .int .i64 a0_6, .int .i64 a0_7, .int .i64 a0_8, .int .i64 a0_9, .int .i64 a0_10, .int .i64 a0_11, .int .i64 a0_12, .int .i64 a0_13, .int .i64 a0_14, .int .i64 a0_15, .int .i64 a0_16, .int .i64 a0_17] 67 (0, 0)) (by (with_reducible repeat (first | refine blk_drewN ?_ _ | refine blk_drew ?_ | refine blk_alloc ?_ _)); refine blk_far ?_ NB1103_1161.out _; (with_reducible repeat (first | refine blk_drewN ?_ _ | refine blk_drew ?_ | refine blk_alloc ?_ _)); refine blk_far ?_ NB1103_1161.out _; (with_reducible repeat (first | refine blk_drewN ?_ _ | refine blk_drew ?_ | refine blk_alloc ?_ _)); exact BK1103.out) hb); replace BK1104 := Aside0.mk (blk_below (g := gb1104) (o := .cells #[.int .i64 a1_0, .int .i64 a1_1] 37 (0, 0)) (by (with_reducible repeat (first | refine blk_drewN ?_ _ | refine blk_drew ?_ | refine blk_alloc ?_ _)); refine blk_far ?_ NB1104_1161.out _; (with_reducible repeat (first | refine blk_drewN ?_ _ | refine blk_drew ?_ | refine blk_alloc ?_ _)); refine blk_far ?_ NB1104_1161.out _; (with_reducible repeat (first | refine blk_drewN ?_ _ | refine blk_drew ?_ | refine blk_alloc ?_ _)); exact BK1104.out) hb); replace BK1112 := Aside0.mk (blk_below (g := gb1112) (o := .cells #[.int .i64 t1105, .int .i64 t1106, .int .i64 t1107, .int .i64 t1108, .int .i64 t1109, .int .i64 t1110] 55 (0, 0)) (by (with_reducible repeat (first | refine blk_drewN ?_ _ | refine blk_drew ?_ | refine blk_alloc ?_ _)); refine blk_far ?_ NB1112_1161.out _; (with_reducible repeat (first | refine blk_drewN ?_ _ | refine blk_drew ?_ | refine blk_alloc ?_ _)); refine blk_far ?_ NB1112_1161.out _; (with_reducible repeat (first | refine blk_drewN ?_ _ | refine blk_drew ?_ | refine blk_alloc ?_ _)); exact BK1112.out) hb); replace BK1116 := Aside0.mk (blk_below (g := gb1116) (o := .cells #[.int .i64 t1113, .int .i64 t1114] 37 (0, 0)) (by (with_reducible repeat (first | refine blk_drewN ?_ _ | refine blk_drew ?_ | refine blk_alloc ?_ _)); refine blk_far ?_ NB1116_1161.out _; (with_reducible repeat (first | refine blk_drewN ?_ _ | refine blk_drew ?_ | refine blk_alloc ?_ _)); refine blk_far ?_ NB1116_1161.out _; (with_reducible repeat (first | refine blk_drewN ?_ _ | refine blk_drew ?_ | refine blk_alloc ?_ _)); exact BK1116.out) hb); replace BK1128 := Aside0.mk (blk_below (g := gb1128) (o := .cells #[.int .i64 t1121, .int .i64 t1122, .int .i64 t1123, .int .i64 t1124, .int .i64 t1125, .int .i64 t1126] 55 (0, 0)) (by (with_reducible repeat (first | refine blk_drewN ?_ _ | refine blk_drew ?_ | refine blk_alloc ?_ _)); refine blk_far ?_ NB1128_1161.out _; (with_reducible repeat (first | refine blk_drewN ?_ _ | refine blk_drew ?_ | refine blk_alloc ?_ _)); refine blk_far ?_ NB1128_1161.out _; (with_reducible repeat (first | refine blk_drewN ?_ _ | refine blk_drew ?_ | refine blk_alloc ?_ _)); exact BK1128.out) hb); replace BK1136 := Aside0.mk (blk_below (g := gb1136) (o := .cells #[.int .i64 t1129, .int .i64 t1130, .int .i64 t1131, .int .i64 t1132, .int .i64 t1133, .int .i64 t1134] 55 (0, 0)) (by (with_reducible repeat (first | refine blk_drewN ?_ _ | refine blk_drew ?_ | refine blk_alloc ?_ _)); refine blk_far ?_ NB1136_1161.out _; (with_reducible repeat (first | refine blk_drewN ?_ _ | refine blk_drew ?_ | refine blk_alloc ?_ _)); refine blk_far ?_ NB1136_1161.out _; (with_reducible repeat (first | refine blk_drewN ?_ _ | refine blk_drew ?_ | refine blk_alloc ?_ _)); exact BK1136.out) hb); replace BK1145 := Aside0.mk (blk_below (g := gb1145) (o := .cells #[.int .i64 t1138, .int .i64 t1139, .int .i64 t1140, .int .i64 t1141, .int .i64 t1142, .int .i64 t1143] 55 (0, 0)) (by (with_reducible repeat (first | refine blk_drewN ?_ _ | refine blk_drew ?_ | refine blk_alloc ?_ _)); refine blk_far ?_ NB1145_1161.out _; (with_reducible repeat (first | refine blk_drewN ?_ _ | refine blk_drew ?_ | refine blk_alloc ?_ _)); refine blk_far ?_ NB1145_1161.out _; (with_reducible repeat (first | refine blk_drewN ?_ _ | refine blk_drew ?_ | refine blk_alloc ?_ _)); exact BK1145.out) hb); replace BK1153 := Aside0.mk (blk_below (g := gb1153) (o := .cells #[.int .i64 t1146, .int .i64 t1147, .int .i64 t1148, .int .i64 t1149, .int .i64 t1150, .int .i64 t1151] 55 (0, 0)) (by (with_reducible repeat (first | refine blk_drewN ?_ _ | refine blk_drew ?_ | refine blk_alloc ?_ _)); refine blk_far ?_ NB1153_1161.out _; (with_reducible repeat (first | refine blk_drewN ?_ _ | refine blk_drew ?_ | refine blk_alloc ?_ _)); refine blk_far ?_ NB1153_1161.out _; (with_reducible repeat (first | refine blk_drewN ?_ _ | refine blk_drew ?_ | refine blk_alloc ?_ _)); exact BK1153.out) hb); replace BK1157 := Aside0.mk (blk_below (g := gb1157) (o := .cells #[.int .i64 t1154, .int .i64 t1155] 37 (0, 0)) (by (with_reducible repeat (first | refine blk_drewN ?_ _ | refine blk_drew ?_ | refine blk_alloc ?_ _)); refine blk_far ?_ NB1157_1161.out _; (with_reducible repeat (first | refine blk_drewN ?_ _ | refine blk_drew ?_ | refine blk_alloc ?_ _)); refine blk_far ?_ NB1157_1161.out _; (with_reducible repeat (first | refine blk_drewN ?_ _ | refine blk_drew ?_ | refine blk_alloc ?_ _)); exact BK1157.out) hb); replace BK1161 := Aside0.mk (blk_below (g := gb1161) (o := .cells #[.int .i64 t1158, .int .i64 t1159] 37 (0, 0)) (by (with_reducible repeat (first | refine blk_drewN ?_ _ | refine blk_drew ?_ | refine blk_alloc ?_ _)); refine blk_put (cs := #[.int .i64 t1158, .int .i64 0]) ?_ 1 _ rfl; (with_reducible repeat (first | refine blk_drewN ?_ _ | refine blk_drew ?_ | refine blk_alloc ?_ _)); refine blk_put (cs := #[.int .i64 0, .int .i64 0]) ?_ 0 _ rfl; (with_reducible repeat (first | refine blk_drewN ?_ _ | refine blk_drew ?_ | refine blk_alloc ?_ _)); exact BK1161.out) hb); replace HB := bst HB hb; (try clear hb); (try clear hb2); (try clear hk); (try clear hi)) | ((with_reducible refine gate_dst (N := 21) rfl ?_); refine bx 21 #[.int .i64 0, .int .i64 0] 37 fun gb1165 hg w265 BK1165 hb => ?_; have GW1165 := gw hg HB; have GE1165 := gw hg HB; have NB1103_1165 := nlt hg BK1103; have NB1165_1103 := ngt hg BK1103; have NB1104_1165 := nlt hg BK1104; have NB1165_1104 := ngt hg BK1104; have NB1112_1165 := nlt hg BK1112; have NB1165_1112 := ngt hg BK1112; have NB1116_1165 := nlt hg BK1116; have NB1165_1116 := ngt hg BK1116; have NB1128_1165 := nlt hg BK1128; have NB1165_1128 := ngt hg BK1128; have NB1136_1165 := nlt hg BK1136; have NB1165_1136 := ngt hg BK1136; have NB1145_1165 := nlt hg BK1145; have NB1165_1145 := ngt hg BK1145; have NB1153_1165 := nlt hg BK1153; have NB1165_1153 := ngt hg BK1153; have NB1157_1165 := nlt hg BK1157; have NB1165_1157 := ngt hg BK1157; have NB1161_1165 := nlt hg BK1161; have NB1165_1161 := ngt hg BK1161; replace BK1103 := bb BK1103 hb; replace BK1104 := bb BK1104 hb; replace BK1112 := bb BK1112 hb; replace BK1116 := bb BK1116 hb; replace BK1128 := bb BK1128 hb; replace BK1136 := bb BK1136 hb; replace BK1145 := bb BK1145 hb; replace BK1153 := bb BK1153 hb; replace BK1157 := bb BK1157 hb; replace BK1161 := bb BK1161 hb; replace HB := bst HB hb; clear hb hg; have hnb266 := NB1165_1103.out; have hnc266 := NB1103_1165.out; have hnb267 := NB1165_1104.out; have hnc267 := NB1104_1165.out; have hnb268 := NB1165_1112.out; have hnc268 := NB1112_1165.out; have hnb269 := NB1165_1116.out; have hnc269 := NB1116_1165.out; have hnb270 := NB1165_1128.out; have hnc270 := NB1128_1165.out; have hnb271 := NB1165_1136.out; have hnc271 := NB1136_1165.out; have hnb272 := NB1165_1145.out; have hnc272 := NB1145_1165.out; have hnb273 := NB1165_1153.out; have hnc273 := NB1153_1165.out; have hnb274 := NB1165_1157.out; have hnc274 := NB1157_1165.out; have hnb275 := NB1165_1161.out; have hnc275 := NB1161_1165.out; have ⟨hcz276_0, hcz276_1, hfz276_0, hfz276_1⟩ := cf2 BK1165) | (go_at_call 13; (with_reducible refine (torchonlaw06_awake.calls kj76  t1167 _ A217.out).mono ?_); rintro e w277 ⟨rfl, hb⟩; replace BK1103 := Aside0.mk (blk_below (g := gb1103) (o := .cells #[.int .i64 a0_0, .int .i64 a0_1, .int .i64 a0_2, .int .i64 a0_3, .int .i64 a0_4, .int .i64 a0_5, .int .i64 a0_6, .int .i64 a0_7, .int .i64 a0_8, .int .i64 a0_9, .int .i64 a0_10, .int .i64 a0_11, .int .i64 a0_12, .int .i64 a0_13, .int .i64 a0_14, .int .i64 a0_15, .int .i64 a0_16, .int .i64 a0_17] 67 (0, 0)) (by (with_reducible repeat (first | refine blk_drewN ?_ _ | refine blk_drew ?_ | refine blk_alloc ?_ _)); refine blk_far ?_ NB1103_1165.out _; (with_reducible repeat (first | refine blk_drewN ?_ _ | refine blk_drew ?_ | refine blk_alloc ?_ _)); refine blk_far ?_ NB1103_1165.out _; (with_reducible repeat (first | refine blk_drewN ?_ _ | refine blk_drew ?_ | refine blk_alloc ?_ _)); exact BK1103.out) hb); replace BK1104 := Aside0.mk (blk_below (g := gb1104) (o := .cells #[.int .i64 a1_0, .int .i64 a1_1] 37 (0, 0)) (by (with_reducible repeat (first | refine blk_drewN ?_ _ | refine blk_drew ?_ | refine blk_alloc ?_ _)); refine blk_far ?_ NB1104_1165.out _; (with_reducible repeat (first | refine blk_drewN ?_ _ | refine blk_drew ?_ | refine blk_alloc ?_ _)); refine blk_far ?_ NB1104_1165.out _; (with_reducible repeat (first | refine blk_drewN ?_ _ | refine blk_drew ?_ | refine blk_alloc ?_ _)); exact BK1104.out) hb); replace BK1112 := Aside0.mk (blk_below (g := gb1112) (o := .cells #[.int .i64 t1105, .int .i64 t1106, .int .i64 t1107, .int .i64 t1108, .int .i64 t1109, .int .i64 t1110] 55 (0, 0)) (by (with_reducible repeat (first | refine blk_drewN ?_ _ | refine blk_drew ?_ | refine blk_alloc ?_ _)); refine blk_far ?_ NB1112_1165.out _; (with_reducible repeat (first | refine blk_drewN ?_ _ | refine blk_drew ?_ | refine blk_alloc ?_ _)); refine blk_far ?_ NB1112_1165.out _; (with_reducible repeat (first | refine blk_drewN ?_ _ | refine blk_drew ?_ | refine blk_alloc ?_ _)); exact BK1112.out) hb); replace BK1116 := Aside0.mk (blk_below (g := gb1116) (o := .cells #[.int .i64 t1113, .int .i64 t1114] 37 (0, 0)) (by (with_reducible repeat (first | refine blk_drewN ?_ _ | refine blk_drew ?_ | refine blk_alloc ?_ _)); refine blk_far ?_ NB1116_1165.out _; (with_reducible repeat (first | refine blk_drewN ?_ _ | refine blk_drew ?_ | refine blk_alloc ?_ _)); refine blk_far ?_ NB1116_1165.out _; (with_reducible repeat (first | refine blk_drewN ?_ _ | refine blk_drew ?_ | refine blk_alloc ?_ _)); exact BK1116.out) hb); replace BK1128 := Aside0.mk (blk_below (g := gb1128) (o := .cells #[.int .i64 t1121, .int .i64 t1122, .int .i64 t1123, .int .i64 t1124, .int .i64 t1125, .int .i64 t1126] 55 (0, 0)) (by (with_reducible repeat (first | refine blk_drewN ?_ _ | refine blk_drew ?_ | refine blk_alloc ?_ _)); refine blk_far ?_ NB1128_1165.out _; (with_reducible repeat (first | refine blk_drewN ?_ _ | refine blk_drew ?_ | refine blk_alloc ?_ _)); refine blk_far ?_ NB1128_1165.out _; (with_reducible repeat (first | refine blk_drewN ?_ _ | refine blk_drew ?_ | refine blk_alloc ?_ _)); exact BK1128.out) hb); replace BK1136 := Aside0.mk (blk_below (g := gb1136) (o := .cells #[.int .i64 t1129, .int .i64 t1130, .int .i64 t1131, .int .i64 t1132, .int .i64 t1133, .int .i64 t1134] 55 (0, 0)) (by (with_reducible repeat (first | refine blk_drewN ?_ _ | refine blk_drew ?_ | refine blk_alloc ?_ _)); refine blk_far ?_ NB1136_1165.out _; (with_reducible repeat (first | refine blk_drewN ?_ _ | refine blk_drew ?_ | refine blk_alloc ?_ _)); refine blk_far ?_ NB1136_1165.out _; (with_reducible repeat (first | refine blk_drewN ?_ _ | refine blk_drew ?_ | refine blk_alloc ?_ _)); exact BK1136.out) hb); replace BK1145 := Aside0.mk (blk_below (g := gb1145) (o := .cells #[.int .i64 t1138, .int .i64 t1139, .int .i64 t1140, .int .i64 t1141, .int .i64 t1142, .int .i64 t1143] 55 (0, 0)) (by (with_reducible repeat (first | refine blk_drewN ?_ _ | refine blk_drew ?_ | refine blk_alloc ?_ _)); refine blk_far ?_ NB1145_1165.out _; (with_reducible repeat (first | refine blk_drewN ?_ _ | refine blk_drew ?_ | refine blk_alloc ?_ _)); refine blk_far ?_ NB1145_1165.out _; (with_reducible repeat (first | refine blk_drewN ?_ _ | refine blk_drew ?_ | refine blk_alloc ?_ _)); exact BK1145.out) hb); replace BK1153 := Aside0.mk (blk_below (g := gb1153) (o := .cells #[.int .i64 t1146, .int .i64 t1147, .int .i64 t1148, .int .i64 t1149, .int .i64 t1150, .int .i64 t1151] 55 (0, 0)) (by (with_reducible repeat (first | refine blk_drewN ?_ _ | refine blk_drew ?_ | refine blk_alloc ?_ _)); refine blk_far ?_ NB1153_1165.out _; (with_reducible repeat (first | refine blk_drewN ?_ _ | refine blk_drew ?_ | refine blk_alloc ?_ _)); refine blk_far ?_ NB1153_1165.out _; (with_reducible repeat (first | refine blk_drewN ?_ _ | refine blk_drew ?_ | refine blk_alloc ?_ _)); exact BK1153.out) hb); replace BK1157 := Aside0.mk (blk_below (g := gb1157) (o := .cells #[.int .i64 t1154, .int .i64 t1155] 37 (0, 0)) (by (with_reducible repeat (first | refine blk_drewN ?_ _ | refine blk_drew ?_ | refine blk_alloc ?_ _)); refine blk_far ?_ NB1157_1165.out _; (with_reducible repeat (first | refine blk_drewN ?_ _ | refine blk_drew ?_ | refine blk_alloc ?_ _)); refine blk_far ?_ NB1157_1165.out _; (with_reducible repeat (first | refine blk_drewN ?_ _ | refine blk_drew ?_ | refine blk_alloc ?_ _)); exact BK1157.out) hb); replace BK1161 := Aside0.mk (blk_below (g := gb1161) (o := .cells #[.int .i64 t1158, .int .i64 t1159] 37 (0, 0)) (by (with_reducible repeat (first | refine blk_drewN ?_ _ | refine blk_drew ?_ | refine blk_alloc ?_ _)); refine blk_far ?_ NB1161_1165.out _; (with_reducible repeat (first | refine blk_drewN ?_ _ | refine blk_drew ?_ | refine blk_alloc ?_ _)); refine blk_far ?_ NB1161_1165.out _; (with_reducible repeat (first | refine blk_drewN ?_ _ | refine blk_drew ?_ | refine blk_alloc ?_ _)); exact BK1161.out) hb); replace BK1165 := Aside0.mk (blk_below (g := gb1165) (o := .cells #[.int .i64 t1162, .int .i64 t1163] 37 (0, 0)) (by (with_reducible repeat (first | refine blk_drewN ?_ _ | refine blk_drew ?_ | refine blk_alloc ?_ _)); refine blk_put (cs := #[.int .i64 t1162, .int .i64 0]) ?_ 1 _ rfl; (with_reducible repeat (first | refine blk_drewN ?_ _ | refine blk_drew ?_ | refine blk_alloc ?_ _)); refine blk_put (cs := #[.int .i64 0, .int .i64 0]) ?_ 0 _ rfl; (with_reducible repeat (first | refine blk_drewN ?_ _ | refine blk_drew ?_ | refine blk_alloc ?_ _)); exact BK1165.out) hb); replace HB := bst HB hb; (try clear hb); (try clear hb2); (try clear hk); (try clear hi)))
                        go_ret
                        exact rt HB
end
end Go.Proofs.Ytmcajdepoohlhaa.G
