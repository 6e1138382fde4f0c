/- Functions of the program as plain Lean functions, and their contracts (printed by a program of this session). No condition beyond what each states. -/
import Derived.Test.YtmcajdepoohlhaaCGrpY
import Derived.Test.YtmcajdepoohlhaaCGrpP0
import Derived.Test.YtmcajdepoohlhaaCGrpP1
import Derived.Test.YtmcajdepoohlhaaCGrpP2
namespace Go.Proofs.Ytmcajdepoohlhaa.G
open Go.RowKit Go.Proofs.YtmcajdepoohlhaaW.PrintWords Go.Proofs.YtmcajdepoohlhaaW.PrintLast Go.Proofs.YtmcajdepoohlhaaW.PrintMore
attribute [local go_sem] max2_int min2_int max_two min_two max_three min_three max_four min_four
set_option linter.unusedVariables false
set_option linter.unusedSimpArgs false
section
attribute [local go_sem high] eqA37
/-! ### grids_Turn: function 18 -/
def grids_Turn.j0 : Nat → Bool → Int → Int → Int → Int → Int → Int → Int → Int → Option (Int × Int)
 | 0, _, _, _, _, _, _, _, _, _ => none
 | k + 1, x34, x421000, x421001, x422000, x422001, x423000, x423001, x424000, x424001 => if x34 = true then (some (0, 2)) else ((grids_to.f x421000 x421001 x422000 x422001).bind fun jx => ((grids_to.f x421000 x421001 x423000 x423001).bind fun jy => ((grids_to.f x421000 x421001 x424000 x424001).bind fun jz => ((grids_step_half.f k jx.1 jx.2 jy.1 jy.2).bind fun jZ => ((grids_step_half.f k jx.1 jx.2 jz.1 jz.2).bind fun g0 => ((cmp_Compare_int.f jZ g0).bind fun jv => ((grids_step_cross.f jy.1 jy.2 jz.1 jz.2).bind fun g1 => ((cmp_Compare_int64.f 0 g1).bind fun jw => ((cmp_Or_int.f k (([jv, jw] : List Int))).bind fun jX => (some (jX, 0)))))))))))
def grids_Turn.f (k : Nat) (a0_0 : Int) (a0_1 : Int) (a1_0 : Int) (a1_1 : Int) (a2_0 : Int) (a2_1 : Int) (a3_0 : Int) (a3_1 : Int) : Option (Int × Int) := (grids_point.f k (([(⟨a0_0, a0_1⟩ : S37), (⟨a1_0, a1_1⟩ : S37), (⟨a2_0, a2_1⟩ : S37), (⟨a3_0, a3_1⟩ : S37)] : List (S37)))).bind fun jW => (if jW = true then (if (a1_0 == a0_0 && (a1_1 == a0_1)) = true then (grids_Turn.j0 k true a0_0 a0_1 a1_0 a1_1 a2_0 a2_1 a3_0 a3_1) else (if (a2_0 == a0_0 && (a2_1 == a0_1)) = true then (grids_Turn.j0 k true a0_0 a0_1 a1_0 a1_1 a2_0 a2_1 a3_0 a3_1) else (grids_Turn.j0 k (a3_0 == a0_0 && (a3_1 == a0_1)) a0_0 a0_1 a1_0 a1_1 a2_0 a2_1 a3_0 a3_1))) else (grids_Turn.j0 k true a0_0 a0_1 a1_0 a1_1 a2_0 a2_1 a3_0 a3_1))
theorem grids_Turn.mono_l : ∀ k, (∀ y0 y1 y2 y3 y4 y5 y6 y7 y8, LeO (grids_Turn.j0 k y0 y1 y2 y3 y4 y5 y6 y7 y8) (grids_Turn.j0 (k + 1) y0 y1 y2 y3 y4 y5 y6 y7 y8))
 | 0 => fun _ _ _ _ _ _ _ _ _ r h => by simp [grids_Turn.j0] at h
 | k + 1 => by
  have ih0 := grids_Turn.mono_l k
  ·intro y0 y1 y2 y3 y4 y5 y6 y7 y8
   unfold grids_Turn.j0
   repeat' first
   | (with_reducible exact ih0 _ _ _ _ _ _ _ _ _)
   | (with_reducible exact cmp_Or_int.mono _ _)
   | (with_reducible exact grids_point.mono _ _)
   | (with_reducible exact grids_step_half.mono _ _ _ _ _)
   | (with_reducible exact LeO.refl _)
   | (with_reducible exact LeO.none _)
   | (with_reducible refine LeO.ite ?_ ?_)
   | (with_reducible refine LeO.bind ?_ (fun _ => ?_))
   | exact ih0 _ _ _ _ _ _ _ _ _
   | exact cmp_Or_int.mono _ _
   | exact grids_point.mono _ _
   | exact grids_step_half.mono _ _ _ _ _
   | exact LeO.none _
   | refine LeO.ite ?_ ?_
   | refine LeO.bind ?_ (fun _ => ?_)
theorem grids_Turn.mono : ∀ a0 a1 a2 a3 a4 a5 a6 a7 k, LeO (grids_Turn.f k a0 a1 a2 a3 a4 a5 a6 a7) (grids_Turn.f (k + 1) a0 a1 a2 a3 a4 a5 a6 a7) := by
 intro a0 a1 a2 a3 a4 a5 a6 a7 k
 have ih0 := grids_Turn.mono_l k
 unfold grids_Turn.f
 repeat' first
   | (with_reducible exact ih0 _ _ _ _ _ _ _ _ _)
   | (with_reducible exact cmp_Or_int.mono _ _)
   | (with_reducible exact grids_point.mono _ _)
   | (with_reducible exact grids_step_half.mono _ _ _ _ _)
   | (with_reducible exact LeO.refl _)
   | (with_reducible exact LeO.none _)
   | (with_reducible refine LeO.ite ?_ ?_)
   | (with_reducible refine LeO.bind ?_ (fun _ => ?_))
   | exact ih0 _ _ _ _ _ _ _ _ _
   | exact cmp_Or_int.mono _ _
   | exact grids_point.mono _ _
   | exact grids_step_half.mono _ _ _ _ _
   | exact LeO.none _
   | refine LeO.ite ?_ ?_
   | refine LeO.bind ?_ (fun _ => ?_)
def grids_Turn.T3 : Bool × List (List Nat × List Nat) := (true, [([], []), ([], []), ([0, 1], [0, 1]), ([], []), ([], []), ([3, 4, 2], [3, 4]), ([], []), ([], []), ([6, 7, 5], [6, 7]), ([], []), ([], []), ([], []), ([9, 2, 8, 0, 1, 2, 9, 10, 11], [2, 9]), ([10, 5, 12, 0, 1, 2, 3, 4, 5, 9, 10, 11, 12], [5, 10]), ([11, 8, 13, 0, 1, 2, 3, 4, 5, 6, 7, 8, 9, 10, 11, 12, 13], [8, 11])])
def grids_Turn.B3 : List Nat := [0, 0, 3, 0, 0, 31, 0, 0, 255, 0, 0, 0, 4095, 8191, 16383]
theorem grids_Turn.tab3 : rtab .any (opsOf Try.f18 3) = grids_Turn.T3 := by kernel_rfl
theorem grids_Turn.bits3 : waitsOk grids_Turn.T3.2 grids_Turn.B3 = true := by kernel_rfl
def grids_Turn.T4 : Bool × List (List Nat × List Nat) := (true, [([], []), ([], []), ([0, 1], [0, 1]), ([], []), ([], []), ([3, 4, 2], [3, 4]), ([2, 5, 5], [2, 5]), ([], []), ([], []), ([7, 8, 6], [7, 8]), ([9, 9], [9]), ([6, 10], [6, 10]), ([11, 10], [11]), ([12, 12, 0, 1, 2, 3, 4, 5, 6, 7, 8, 9, 10, 11, 12], [12]), ([13, 0, 1, 2, 3, 4, 5, 6, 7, 8, 9, 10, 11, 12, 13], [])])
def grids_Turn.B4 : List Nat := [0, 0, 3, 0, 0, 31, 63, 0, 0, 511, 1023, 2047, 4095, 8191, 16383]
theorem grids_Turn.tab4 : rtab .any (opsOf Try.f18 4) = grids_Turn.T4 := by kernel_rfl
theorem grids_Turn.bits4 : waitsOk grids_Turn.T4.2 grids_Turn.B4 = true := by kernel_rfl
set_option maxHeartbeats 8000000 in
set_option maxRecDepth 100000 in
theorem grids_Turn.calls (k : Nat) (a0_0 : Int) (a0_1 : Int) (a1_0 : Int) (a1_1 : Int) (a2_0 : Int) (a2_1 : Int) (a3_0 : Int) (a3_1 : Int) (r1 : Int) (r2 : Int) (w : World) (h : grids_Turn.f k a0_0 a0_1 a1_0 a1_1 a2_0 a2_1 a3_0 a3_1 = some (r1, r2)) :
  Calls Try.prog 18 #[.agg #[.int .i64 a0_0, .int .i64 a0_1], .agg #[.int .i64 a1_0, .int .i64 a1_1], .agg #[.int .i64 a2_0, .int .i64 a2_1], .agg #[.int .i64 a3_0, .int .i64 a3_1]] w fun e w' => e = .returned (.tuple #[.int .i64 r1, .int .i64 r2]) ∧ Below w.heap.size w w' := by
 have hu37 := Try.underlying37
 have hu81 := Try.underlying81
 have HB := Aside0.mk (Below.refl w.heap.size w)
 have H : ((grids_point.f k (([(⟨a0_0, a0_1⟩ : S37), (⟨a1_0, a1_1⟩ : S37), (⟨a2_0, a2_1⟩ : S37), (⟨a3_0, a3_1⟩ : S37)] : List (S37)))).bind fun jW => (if jW = true then (if (a1_0 == a0_0 && (a1_1 == a0_1)) = true then (grids_Turn.j0 k true a0_0 a0_1 a1_0 a1_1 a2_0 a2_1 a3_0 a3_1) else (if (a2_0 == a0_0 && (a2_1 == a0_1)) = true then (grids_Turn.j0 k true a0_0 a0_1 a1_0 a1_1 a2_0 a2_1 a3_0 a3_1) else (grids_Turn.j0 k (a3_0 == a0_0 && (a3_1 == a0_1)) a0_0 a0_1 a1_0 a1_1 a2_0 a2_1 a3_0 a3_1))) else (grids_Turn.j0 k true a0_0 a0_1 a1_0 a1_1 a2_0 a2_1 a3_0 a3_1))) = some (r1, r2) := h
 clear h
 have HC5 := Aside0.mk H
 clear H
 go_enter Try.func18, Try.ntmps18
 go_upto_region 1 with (first | ((with_reducible refine gate_dst (N := 4) rfl ?_); refine bx 4 #[.int .i64 a0_0, .int .i64 a0_1] 37 fun qX hg w6 q0 hb => ?_; have Jt := gw hg HB; have Jp := gw hg HB; replace HB := bst HB hb; clear hb hg) | ((with_reducible refine gate_dst (N := 5) rfl ?_); refine bx 5 #[.int .i64 a1_0, .int .i64 a1_1] 37 fun qY hg w7 q1 hb => ?_; have Ju := gw hg HB; have Jq := gw hg HB; have g7 := nlt hg q0; have ga := ngt hg q0; replace q0 := bb q0 hb; replace HB := bst HB hb; clear hb hg) | ((with_reducible refine gate_dst (N := 6) rfl ?_); refine bx 6 #[.int .i64 a2_0, .int .i64 a2_1] 37 fun qZ hg w8 q2 hb => ?_; have Jv := gw hg HB; have Jr := gw hg HB; have g8 := nlt hg q0; have gd := ngt hg q0; have gb := nlt hg q1; have ge := ngt hg q1; replace q0 := bb q0 hb; replace q1 := bb q1 hb; replace HB := bst HB hb; clear hb hg) | ((with_reducible refine gate_dst (N := 7) rfl ?_); refine bx 7 #[.int .i64 a3_0, .int .i64 a3_1] 37 fun j0 hg w9 q3 hb => ?_; have Jw := gw hg HB; have Js := gw hg HB; have g9 := nlt hg q0; have gg := ngt hg q0; have gc := nlt hg q1; have gh := ngt hg q1; have gf := nlt hg q2; have gi := ngt hg q2; replace q0 := bb q0 hb; replace q1 := bb q1 hb; replace q2 := bb q2 hb; replace HB := bst HB hb; clear hb hg))
 (try simp only [Act.put, List.setIfInBounds_toArray, List.set_cons_zero, List.set_cons_succ])
 go_cut [34] (fun v34 wc => ∃ (kq : Nat) (x34_4 : Bool), v34 = .bool x34_4 ∧ Aside0 (grids_Turn.j0 kq x34_4 a0_0 a0_1 a1_0 a1_1 a2_0 a2_1 a3_0 a3_1 = some (r1, r2)) ∧ Aside0 (kq ≤ k) ∧ Aside0 (wc.heap[qX]? = some (.cells #[.int .i64 a0_0, .int .i64 a0_1] 37 (0, 0))) ∧ Aside0 (wc.heap[qY]? = some (.cells #[.int .i64 a1_0, .int .i64 a1_1] 37 (0, 0))) ∧ Aside0 (wc.heap[qZ]? = some (.cells #[.int .i64 a2_0, .int .i64 a2_1] 37 (0, 0))) ∧ Aside0 (wc.heap[j0]? = some (.cells #[.int .i64 a3_0, .int .i64 a3_1] 37 (0, 0))) ∧ Aside0 (Below w.heap.size w wc))
 case first =>
  have H := HC5.out
  clear HC5
  obtain ⟨jD, hy424⟩ : ∃ y_ : List (S37), y_ = (([(⟨a0_0, a0_1⟩ : S37), (⟨a1_0, a1_1⟩ : S37), (⟨a2_0, a2_1⟩ : S37), (⟨a3_0, a3_1⟩ : S37)] : List (S37))) := ⟨_, rfl⟩
  replace H : ((grids_point.f k jD).bind fun jW => (if jW = true then (if (a1_0 == a0_0 && (a1_1 == a0_1)) = true then (grids_Turn.j0 k true a0_0 a0_1 a1_0 a1_1 a2_0 a2_1 a3_0 a3_1) else (if (a2_0 == a0_0 && (a2_1 == a0_1)) = true then (grids_Turn.j0 k true a0_0 a0_1 a1_0 a1_1 a2_0 a2_1 a3_0 a3_1) else (grids_Turn.j0 k (a3_0 == a0_0 && (a3_1 == a0_1)) a0_0 a0_1 a1_0 a1_1 a2_0 a2_1 a3_0 a3_1))) else (grids_Turn.j0 k true a0_0 a0_1 a1_0 a1_1 a2_0 a2_1 a3_0 a3_1))) = some (r1, r2) := by first | (rw [hy424]; with_reducible exact H) | (have H2_ := (Option.bind_some _ _).symm.trans H; rw [hy424]; with_reducible exact H2_) | (have H2_ := (Option.bind_some _ _).symm.trans H; with_reducible exact H2_) | with_reducible exact H | (rw [hy424]; exact H) | exact H
  have Ny424 := Aside0.mk hy424
  clear hy424
  obtain ⟨jW, A10, H⟩ := ob H
  by_cases c11 : jW = true
  ·subst c11
   have H1 : (if (a1_0 == a0_0 && (a1_1 == a0_1)) = true then (grids_Turn.j0 k true a0_0 a0_1 a1_0 a1_1 a2_0 a2_1 a3_0 a3_1) else (if (a2_0 == a0_0 && (a2_1 == a0_1)) = true then (grids_Turn.j0 k true a0_0 a0_1 a1_0 a1_1 a2_0 a2_1 a3_0 a3_1) else (grids_Turn.j0 k (a3_0 == a0_0 && (a3_1 == a0_1)) a0_0 a0_1 a1_0 a1_1 a2_0 a2_1 a3_0 a3_1))) = some (r1, r2) := by rw [if_pos rfl] at H; exact H
   clear H
   have H := H1
   clear H1
   by_cases c12 : (a1_0 == a0_0 && (a1_1 == a0_1)) = true
   ·rw [if_pos c12] at H
    have jY : (a1_0 == a0_0 && (a1_1 == a0_1)) = true := c12
    (try (have gq : decide (a1_0 = a0_0 && (a1_1 == a0_1)) = true := by simpa using c12))
    (try (have gr : (a1_0 == a0_0 && (a1_1 == a0_1)) = true := by simpa using c12))
    clear c12
    (first | rw [jY] | (simp only [i64_w, i32_w]; rw [jY]) | skip)
    have H' := Aside0.mk H
    clear H
    have Gg := g7.out
    have GE := ga.out
    have Gh := g8.out
    have GF := gd.out
    have Gi := g9.out
    have GG := gg.out
    have ⟨gL, gM, Qz, QA⟩ := cf2 q0
    have Gj := gb.out
    have GH := ge.out
    have Gk := gc.out
    have GI := gh.out
    have ⟨gN, gO, QB, QC⟩ := cf2 q1
    have Gl := gf.out
    have GJ := gi.out
    have ⟨gP, gQ, QD, QE⟩ := cf2 q2
    have ⟨gR, gS, QF, QG⟩ := cf2 q3
    go_wp2_with (first | ((with_reducible refine gate_dst (N := 17) rfl ?_); refine Kd.R_lit k37 _ 37 ?hg (N := 17) ?hd (xs := ([(⟨a0_0, a0_1⟩ : S37), (⟨a1_0, a1_1⟩ : S37), (⟨a2_0, a2_1⟩ : S37), (⟨a3_0, a3_1⟩ : S37)] : List (S37))) (inner := [.int .i64 a0_0, .int .i64 a0_1, .int .i64 a1_0, .int .i64 a1_1, .int .i64 a2_0, .int .i64 a2_1, .int .i64 a3_0, .int .i64 a3_1]) (ok := fun _ => True) (okp := fun _ => True) ?hr ?hp (fun _ hk => hk) trivial (Below.refl _ _) (Nat.le_refl _) (by simp) ?_; (case hd => rfl); (case hg => rfl); (case hr => first | (go_simp; done) | (go_simp; rfl)); (case hp => exact (Reps.c2 (show Kd.M k37 _ _ _ (⟨a0_0, a0_1⟩ : S37) [.int .i64 a0_0, .int .i64 a0_1] from (k37_mkM _ _ _ (⟨a0_0, a0_1⟩ : S37) )) (Reps.c2 (show Kd.M k37 _ _ _ (⟨a1_0, a1_1⟩ : S37) [.int .i64 a1_0, .int .i64 a1_1] from (k37_mkM _ _ _ (⟨a1_0, a1_1⟩ : S37) )) (Reps.c2 (show Kd.M k37 _ _ _ (⟨a2_0, a2_1⟩ : S37) [.int .i64 a2_0, .int .i64 a2_1] from (k37_mkM _ _ _ (⟨a2_0, a2_1⟩ : S37) )) (Reps.c2 (show Kd.M k37 _ _ _ (⟨a3_0, a3_1⟩ : S37) [.int .i64 a3_0, .int .i64 a3_1] from (k37_mkM _ _ _ (⟨a3_0, a3_1⟩ : S37) )) (Reps.none _ _)))))); intro v425 w23 g3 hb hg_ hnew_; clear hg_ hnew_; (first | rw [← Ny424.out] at g3 | (simp only [Int.reduceToNat] at g3; rw [← Ny424.out] at g3)); have qT := Aside0.mk (Kd.R_lower (Kd.R_newB (Kd.R_newB (Kd.R_newB (Kd.R_newB g3 (g := qX) (o := .cells #[.int .i64 a0_0, .int .i64 a0_1] 37 (0, 0)) (pk q0)) (g := qY) (o := .cells #[.int .i64 a1_0, .int .i64 a1_1] 37 (0, 0)) (pk q1)) (g := qZ) (o := .cells #[.int .i64 a2_0, .int .i64 a2_1] 37 (0, 0)) (pk q2)) (g := j0) (o := .cells #[.int .i64 a3_0, .int .i64 a3_1] 37 (0, 0)) (pk q3)) (below_size (bnow HB))); replace q0 := bb q0 hb; replace q1 := bb q1 hb; replace q2 := bb q2 hb; replace q3 := bb q3 hb; replace HB := bst HB hb; clear hb g3; obtain ⟨gz, gD, gH⟩ := Kd.R_slice qT.out; subst gH) | ((with_reducible refine gate_callee (f := 49) rfl ?_); refine goesL_ (some 18) rfl rfl Try.func49 (by kernel_rfl) rfl #[.slice gz jD.length gD] rfl am ?_; (with_reducible refine (grids_point.calls k _ _ jD true _ ?side1 ?side2 A10.out).mono ?_); (case side1 => repeat (first | exact (Kd.R_reads' qT.out).2.2 | (with_reducible refine Kd.C_alloc ?_ _) | (with_reducible refine Kd.C_drewN ?_ _) | (with_reducible refine Kd.C_drew ?_))); (case side2 => exact (Kd.R_reads' qT.out).2.1); rintro e w26 ⟨rfl, hb⟩; refine ⟨_, rfl, ?_⟩; replace qT := Aside0.mk (Kd.R_below (by (with_reducible repeat (first | apply Kd.R_alloc | apply Kd.R_drewN | apply Kd.R_drew)); exact qT.out) hb); replace q0 := bb q0 hb; replace q1 := bb q1 hb; replace q2 := bb q2 hb; replace q3 := bb q3 hb; replace HB := bst HB hb; (try clear hb); (try clear hb2); (try clear hk); (try clear hi); have ⟨gT, gU, QH, QI⟩ := cf2 q1; have ⟨gV, gW, QJ, QK⟩ := cf2 q0))
    go_meet
    case rel => exact ⟨_, (true), (by first | rfl | (simp; done) | (simp [*]; done)), H', ⟨by first | omega | exact Nat.le_refl _⟩, ⟨pk q0⟩, ⟨pk q1⟩, ⟨pk q2⟩, ⟨pk q3⟩, ⟨bnow HB⟩⟩
   ·rw [if_neg c12] at H
    have jY : (a1_0 == a0_0 && (a1_1 == a0_1)) = false := by simpa using c12
    (try (have gq : decide (a1_0 = a0_0 && (a1_1 == a0_1)) = false := by simpa using c12))
    (try (have gr : (a1_0 == a0_0 && (a1_1 == a0_1)) = false := by simpa using c12))
    (try (have Jx : ¬ (a1_0 = a0_0 && (a1_1 == a0_1)) := by simpa using c12))
    clear c12
    (first | rw [jY] | (simp only [i64_w, i32_w]; rw [jY]) | skip)
    by_cases c29 : (a2_0 == a0_0 && (a2_1 == a0_1)) = true
    ·rw [if_pos c29] at H
     have gt : (a2_0 == a0_0 && (a2_1 == a0_1)) = true := c29
     (try (have gu : decide (a2_0 = a0_0 && (a2_1 == a0_1)) = true := by simpa using c29))
     (try (have gv : (a2_0 == a0_0 && (a2_1 == a0_1)) = true := by simpa using c29))
     clear c29
     have H' := Aside0.mk H
     clear H
     have Gm := g7.out
     have GK := ga.out
     have Gn := g8.out
     have GL := gd.out
     have Go := g9.out
     have GM := gg.out
     have ⟨gX, gY, QL, QM⟩ := cf2 q0
     have Gp := gb.out
     have GN := ge.out
     have Gq := gc.out
     have GO := gh.out
     have ⟨gZ, Q0, QN, QO⟩ := cf2 q1
     have Gr := gf.out
     have GP := gi.out
     have ⟨Q1, Q2, QP, QQ⟩ := cf2 q2
     have ⟨Q3, Q4, QR, QS⟩ := cf2 q3
     go_wp2_with (first | ((with_reducible refine gate_dst (N := 17) rfl ?_); refine Kd.R_lit k37 _ 37 ?hg (N := 17) ?hd (xs := ([(⟨a0_0, a0_1⟩ : S37), (⟨a1_0, a1_1⟩ : S37), (⟨a2_0, a2_1⟩ : S37), (⟨a3_0, a3_1⟩ : S37)] : List (S37))) (inner := [.int .i64 a0_0, .int .i64 a0_1, .int .i64 a1_0, .int .i64 a1_1, .int .i64 a2_0, .int .i64 a2_1, .int .i64 a3_0, .int .i64 a3_1]) (ok := fun _ => True) (okp := fun _ => True) ?hr ?hp (fun _ hk => hk) trivial (Below.refl _ _) (Nat.le_refl _) (by simp) ?_; (case hd => rfl); (case hg => rfl); (case hr => first | (go_simp; done) | (go_simp; rfl)); (case hp => exact (Reps.c2 (show Kd.M k37 _ _ _ (⟨a0_0, a0_1⟩ : S37) [.int .i64 a0_0, .int .i64 a0_1] from (k37_mkM _ _ _ (⟨a0_0, a0_1⟩ : S37) )) (Reps.c2 (show Kd.M k37 _ _ _ (⟨a1_0, a1_1⟩ : S37) [.int .i64 a1_0, .int .i64 a1_1] from (k37_mkM _ _ _ (⟨a1_0, a1_1⟩ : S37) )) (Reps.c2 (show Kd.M k37 _ _ _ (⟨a2_0, a2_1⟩ : S37) [.int .i64 a2_0, .int .i64 a2_1] from (k37_mkM _ _ _ (⟨a2_0, a2_1⟩ : S37) )) (Reps.c2 (show Kd.M k37 _ _ _ (⟨a3_0, a3_1⟩ : S37) [.int .i64 a3_0, .int .i64 a3_1] from (k37_mkM _ _ _ (⟨a3_0, a3_1⟩ : S37) )) (Reps.none _ _)))))); intro v425 w40 g4 hb hg_ hnew_; clear hg_ hnew_; (first | rw [← Ny424.out] at g4 | (simp only [Int.reduceToNat] at g4; rw [← Ny424.out] at g4)); have qT := Aside0.mk (Kd.R_lower (Kd.R_newB (Kd.R_newB (Kd.R_newB (Kd.R_newB g4 (g := qX) (o := .cells #[.int .i64 a0_0, .int .i64 a0_1] 37 (0, 0)) (pk q0)) (g := qY) (o := .cells #[.int .i64 a1_0, .int .i64 a1_1] 37 (0, 0)) (pk q1)) (g := qZ) (o := .cells #[.int .i64 a2_0, .int .i64 a2_1] 37 (0, 0)) (pk q2)) (g := j0) (o := .cells #[.int .i64 a3_0, .int .i64 a3_1] 37 (0, 0)) (pk q3)) (below_size (bnow HB))); replace q0 := bb q0 hb; replace q1 := bb q1 hb; replace q2 := bb q2 hb; replace q3 := bb q3 hb; replace HB := bst HB hb; clear hb g4; obtain ⟨gA, gE, gI⟩ := Kd.R_slice qT.out; subst gI) | ((with_reducible refine gate_callee (f := 49) rfl ?_); refine goesL_ (some 18) rfl rfl Try.func49 (by kernel_rfl) rfl #[.slice gA jD.length gE] rfl am ?_; (with_reducible refine (grids_point.calls k _ _ jD true _ ?side1 ?side2 A10.out).mono ?_); (case side1 => repeat (first | exact (Kd.R_reads' qT.out).2.2 | (with_reducible refine Kd.C_alloc ?_ _) | (with_reducible refine Kd.C_drewN ?_ _) | (with_reducible refine Kd.C_drew ?_))); (case side2 => exact (Kd.R_reads' qT.out).2.1); rintro e w43 ⟨rfl, hb⟩; refine ⟨_, rfl, ?_⟩; replace qT := Aside0.mk (Kd.R_below (by (with_reducible repeat (first | apply Kd.R_alloc | apply Kd.R_drewN | apply Kd.R_drew)); exact qT.out) hb); replace q0 := bb q0 hb; replace q1 := bb q1 hb; replace q2 := bb q2 hb; replace q3 := bb q3 hb; replace HB := bst HB hb; (try clear hb); (try clear hb2); (try clear hk); (try clear hi); have ⟨Q5, Q6, QT, QU⟩ := cf2 q1; have ⟨Q7, Q8, QV, QW⟩ := cf2 q0; have ⟨Q9, Qa, QX, QY⟩ := cf2 q2))
     go_meet
     case rel => exact ⟨_, (true), (by first | rfl | (simp; done) | (simp [*]; done)), H', ⟨by first | omega | exact Nat.le_refl _⟩, ⟨pk q0⟩, ⟨pk q1⟩, ⟨pk q2⟩, ⟨pk q3⟩, ⟨bnow HB⟩⟩
    ·rw [if_neg c29] at H
     have gt : (a2_0 == a0_0 && (a2_1 == a0_1)) = false := by simpa using c29
     (try (have gu : decide (a2_0 = a0_0 && (a2_1 == a0_1)) = false := by simpa using c29))
     (try (have gv : (a2_0 == a0_0 && (a2_1 == a0_1)) = false := by simpa using c29))
     (try (have Jy : ¬ (a2_0 = a0_0 && (a2_1 == a0_1)) := by simpa using c29))
     clear c29
     have H' := Aside0.mk H
     clear H
     have Gs := g7.out
     have GQ := ga.out
     have Gt := g8.out
     have GR := gd.out
     have Gu := g9.out
     have GS := gg.out
     have ⟨Qb, Qc, QZ, J0⟩ := cf2 q0
     have Gv := gb.out
     have GT := ge.out
     have Gw := gc.out
     have GU := gh.out
     have ⟨Qd, Qe, J1, J2⟩ := cf2 q1
     have Gx := gf.out
     have GV := gi.out
     have ⟨Qf, Qg, J3, J4⟩ := cf2 q2
     have ⟨Qh, Qi, J5, J6⟩ := cf2 q3
     go_wp2_with (first | ((with_reducible refine gate_dst (N := 17) rfl ?_); refine Kd.R_lit k37 _ 37 ?hg (N := 17) ?hd (xs := ([(⟨a0_0, a0_1⟩ : S37), (⟨a1_0, a1_1⟩ : S37), (⟨a2_0, a2_1⟩ : S37), (⟨a3_0, a3_1⟩ : S37)] : List (S37))) (inner := [.int .i64 a0_0, .int .i64 a0_1, .int .i64 a1_0, .int .i64 a1_1, .int .i64 a2_0, .int .i64 a2_1, .int .i64 a3_0, .int .i64 a3_1]) (ok := fun _ => True) (okp := fun _ => True) ?hr ?hp (fun _ hk => hk) trivial (Below.refl _ _) (Nat.le_refl _) (by simp) ?_; (case hd => rfl); (case hg => rfl); (case hr => first | (go_simp; done) | (go_simp; rfl)); (case hp => exact (Reps.c2 (show Kd.M k37 _ _ _ (⟨a0_0, a0_1⟩ : S37) [.int .i64 a0_0, .int .i64 a0_1] from (k37_mkM _ _ _ (⟨a0_0, a0_1⟩ : S37) )) (Reps.c2 (show Kd.M k37 _ _ _ (⟨a1_0, a1_1⟩ : S37) [.int .i64 a1_0, .int .i64 a1_1] from (k37_mkM _ _ _ (⟨a1_0, a1_1⟩ : S37) )) (Reps.c2 (show Kd.M k37 _ _ _ (⟨a2_0, a2_1⟩ : S37) [.int .i64 a2_0, .int .i64 a2_1] from (k37_mkM _ _ _ (⟨a2_0, a2_1⟩ : S37) )) (Reps.c2 (show Kd.M k37 _ _ _ (⟨a3_0, a3_1⟩ : S37) [.int .i64 a3_0, .int .i64 a3_1] from (k37_mkM _ _ _ (⟨a3_0, a3_1⟩ : S37) )) (Reps.none _ _)))))); intro v425 w57 g5 hb hg_ hnew_; clear hg_ hnew_; (first | rw [← Ny424.out] at g5 | (simp only [Int.reduceToNat] at g5; rw [← Ny424.out] at g5)); have qT := Aside0.mk (Kd.R_lower (Kd.R_newB (Kd.R_newB (Kd.R_newB (Kd.R_newB g5 (g := qX) (o := .cells #[.int .i64 a0_0, .int .i64 a0_1] 37 (0, 0)) (pk q0)) (g := qY) (o := .cells #[.int .i64 a1_0, .int .i64 a1_1] 37 (0, 0)) (pk q1)) (g := qZ) (o := .cells #[.int .i64 a2_0, .int .i64 a2_1] 37 (0, 0)) (pk q2)) (g := j0) (o := .cells #[.int .i64 a3_0, .int .i64 a3_1] 37 (0, 0)) (pk q3)) (below_size (bnow HB))); replace q0 := bb q0 hb; replace q1 := bb q1 hb; replace q2 := bb q2 hb; replace q3 := bb q3 hb; replace HB := bst HB hb; clear hb g5; obtain ⟨gB, gF, gJ⟩ := Kd.R_slice qT.out; subst gJ) | ((with_reducible refine gate_callee (f := 49) rfl ?_); refine goesL_ (some 18) rfl rfl Try.func49 (by kernel_rfl) rfl #[.slice gB jD.length gF] rfl am ?_; (with_reducible refine (grids_point.calls k _ _ jD true _ ?side1 ?side2 A10.out).mono ?_); (case side1 => repeat (first | exact (Kd.R_reads' qT.out).2.2 | (with_reducible refine Kd.C_alloc ?_ _) | (with_reducible refine Kd.C_drewN ?_ _) | (with_reducible refine Kd.C_drew ?_))); (case side2 => exact (Kd.R_reads' qT.out).2.1); rintro e w60 ⟨rfl, hb⟩; refine ⟨_, rfl, ?_⟩; replace qT := Aside0.mk (Kd.R_below (by (with_reducible repeat (first | apply Kd.R_alloc | apply Kd.R_drewN | apply Kd.R_drew)); exact qT.out) hb); replace q0 := bb q0 hb; replace q1 := bb q1 hb; replace q2 := bb q2 hb; replace q3 := bb q3 hb; replace HB := bst HB hb; (try clear hb); (try clear hb2); (try clear hk); (try clear hi); have ⟨Qj, Qk, J7, J8⟩ := cf2 q1; have ⟨Ql, Qm, J9, Ja⟩ := cf2 q0; have ⟨Qn, Qo, Jb, Jc⟩ := cf2 q2; have ⟨Qp, Qq, Jd, Je⟩ := cf2 q3))
     go_meet
     case rel => exact ⟨_, ((a3_0 == a0_0 && (a3_1 == a0_1))), (by first | rfl | (simp; done) | (simp [*]; done)), H', ⟨by first | omega | exact Nat.le_refl _⟩, ⟨pk q0⟩, ⟨pk q1⟩, ⟨pk q2⟩, ⟨pk q3⟩, ⟨bnow HB⟩⟩
  ·replace c11 := Bool.eq_false_iff.mpr c11
   subst c11
   have H1 : (grids_Turn.j0 k true a0_0 a0_1 a1_0 a1_1 a2_0 a2_1 a3_0 a3_1) = some (r1, r2) := by rw [if_neg (show ¬ (false = true) by decide)] at H; exact H
   clear H
   have H := H1
   clear H1
   have H' := Aside0.mk H
   clear H
   have Gy := g7.out
   have GW := ga.out
   have Gz := g8.out
   have GX := gd.out
   have GA := g9.out
   have GY := gg.out
   have ⟨Qr, Qs, Jf, Jg⟩ := cf2 q0
   have GB := gb.out
   have GZ := ge.out
   have GC := gc.out
   have q00 := gh.out
   have ⟨Qt, Qu, Jh, Ji⟩ := cf2 q1
   have GD := gf.out
   have q01 := gi.out
   have ⟨Qv, Qw, Jj, Jk⟩ := cf2 q2
   have ⟨Qx, Qy, Jl, Jm⟩ := cf2 q3
   go_wp2_with (first | ((with_reducible refine gate_dst (N := 17) rfl ?_); refine Kd.R_lit k37 _ 37 ?hg (N := 17) ?hd (xs := ([(⟨a0_0, a0_1⟩ : S37), (⟨a1_0, a1_1⟩ : S37), (⟨a2_0, a2_1⟩ : S37), (⟨a3_0, a3_1⟩ : S37)] : List (S37))) (inner := [.int .i64 a0_0, .int .i64 a0_1, .int .i64 a1_0, .int .i64 a1_1, .int .i64 a2_0, .int .i64 a2_1, .int .i64 a3_0, .int .i64 a3_1]) (ok := fun _ => True) (okp := fun _ => True) ?hr ?hp (fun _ hk => hk) trivial (Below.refl _ _) (Nat.le_refl _) (by simp) ?_; (case hd => rfl); (case hg => rfl); (case hr => first | (go_simp; done) | (go_simp; rfl)); (case hp => exact (Reps.c2 (show Kd.M k37 _ _ _ (⟨a0_0, a0_1⟩ : S37) [.int .i64 a0_0, .int .i64 a0_1] from (k37_mkM _ _ _ (⟨a0_0, a0_1⟩ : S37) )) (Reps.c2 (show Kd.M k37 _ _ _ (⟨a1_0, a1_1⟩ : S37) [.int .i64 a1_0, .int .i64 a1_1] from (k37_mkM _ _ _ (⟨a1_0, a1_1⟩ : S37) )) (Reps.c2 (show Kd.M k37 _ _ _ (⟨a2_0, a2_1⟩ : S37) [.int .i64 a2_0, .int .i64 a2_1] from (k37_mkM _ _ _ (⟨a2_0, a2_1⟩ : S37) )) (Reps.c2 (show Kd.M k37 _ _ _ (⟨a3_0, a3_1⟩ : S37) [.int .i64 a3_0, .int .i64 a3_1] from (k37_mkM _ _ _ (⟨a3_0, a3_1⟩ : S37) )) (Reps.none _ _)))))); intro v425 w75 g6 hb hg_ hnew_; clear hg_ hnew_; (first | rw [← Ny424.out] at g6 | (simp only [Int.reduceToNat] at g6; rw [← Ny424.out] at g6)); have qT := Aside0.mk (Kd.R_lower (Kd.R_newB (Kd.R_newB (Kd.R_newB (Kd.R_newB g6 (g := qX) (o := .cells #[.int .i64 a0_0, .int .i64 a0_1] 37 (0, 0)) (pk q0)) (g := qY) (o := .cells #[.int .i64 a1_0, .int .i64 a1_1] 37 (0, 0)) (pk q1)) (g := qZ) (o := .cells #[.int .i64 a2_0, .int .i64 a2_1] 37 (0, 0)) (pk q2)) (g := j0) (o := .cells #[.int .i64 a3_0, .int .i64 a3_1] 37 (0, 0)) (pk q3)) (below_size (bnow HB))); replace q0 := bb q0 hb; replace q1 := bb q1 hb; replace q2 := bb q2 hb; replace q3 := bb q3 hb; replace HB := bst HB hb; clear hb g6; obtain ⟨gC, gG, gK⟩ := Kd.R_slice qT.out; subst gK) | ((with_reducible refine gate_callee (f := 49) rfl ?_); refine goesL_ (some 18) rfl rfl Try.func49 (by kernel_rfl) rfl #[.slice gC jD.length gG] rfl am ?_; (with_reducible refine (grids_point.calls k _ _ jD false _ ?side1 ?side2 A10.out).mono ?_); (case side1 => repeat (first | exact (Kd.R_reads' qT.out).2.2 | (with_reducible refine Kd.C_alloc ?_ _) | (with_reducible refine Kd.C_drewN ?_ _) | (with_reducible refine Kd.C_drew ?_))); (case side2 => exact (Kd.R_reads' qT.out).2.1); rintro e w78 ⟨rfl, hb⟩; refine ⟨_, rfl, ?_⟩; replace qT := Aside0.mk (Kd.R_below (by (with_reducible repeat (first | apply Kd.R_alloc | apply Kd.R_drewN | apply Kd.R_drew)); exact qT.out) hb); replace q0 := bb q0 hb; replace q1 := bb q1 hb; replace q2 := bb q2 hb; replace q3 := bb q3 hb; replace HB := bst HB hb; (try clear hb); (try clear hb2); (try clear hk); (try clear hi)))
   go_meet
   case rel => exact ⟨_, (true), (by first | rfl | (simp; done) | (simp [*]; done)), H', ⟨by first | omega | exact Nat.le_refl _⟩, ⟨pk q0⟩, ⟨pk q1⟩, ⟨pk q2⟩, ⟨pk q3⟩, ⟨bnow HB⟩⟩
 case rest =>
  clear HC5
  try clear c1; try clear c2; try clear p2; try clear c3; try clear c4; try clear c5; try clear c6; try clear c7; try clear c11; try clear c12; try clear jY; try clear gq; try clear gr; try clear c13; try clear c14; try clear c15; try clear c17; try clear c18; try clear c20; try clear c29; try clear gt; try clear gu; try clear gv; try clear c30; try clear c31; try clear c32; try clear c34; try clear c35; try clear c37; try clear c47; try clear c48; try clear c49; try clear c51; try clear c52; try clear c54; try clear c65; try clear c66; try clear c67; try clear c69; try clear c70; try clear c72; try clear gL; try clear gM; try clear gN; try clear gO; try clear gP; try clear gQ; try clear gR; try clear gS; try clear gT; try clear gU; try clear gV; try clear gW; try clear gX; try clear gY; try clear gZ; try clear Q0; try clear Q1; try clear Q2; try clear Q3; try clear Q4; try clear Q5; try clear Q6; try clear Q7; try clear Q8; try clear Q9; try clear Qa; try clear Qb; try clear Qc; try clear Qd; try clear Qe; try clear Qf; try clear Qg; try clear Qh; try clear Qi; try clear Qj; try clear Qk; try clear Ql; try clear Qm; try clear Qn; try clear Qo; try clear Qp; try clear Qq; try clear Qr; try clear Qs; try clear Qt; try clear Qu; try clear Qv; try clear Qw; try clear Qx; try clear Qy; try clear Qz; try clear QA; try clear QB; try clear QC; try clear QD; try clear QE; try clear QF; try clear QG; try clear QH; try clear QI; try clear QJ; try clear QK; try clear QL; try clear QM; try clear QN; try clear QO; try clear QP; try clear QQ; try clear QR; try clear QS; try clear QT; try clear QU; try clear QV; try clear QW; try clear QX; try clear QY; try clear QZ; try clear J0; try clear J1; try clear J2; try clear J3; try clear J4; try clear J5; try clear J6; try clear J7; try clear J8; try clear J9; try clear Ja; try clear Jb; try clear Jc; try clear Jd; try clear Je; try clear Jf; try clear Jg; try clear Jh; try clear Ji; try clear Jj; try clear Jk; try clear Jl; try clear Jm
  obtain ⟨kq, x34_4, rfl, HA, HJ4, q0, q1, q2, q3, HB⟩ := hcut
  cases kq with
  | zero => exact absurd HA.out (by simp [grids_Turn.j0])
  | succ kj4 =>
   have H := HA.out
   clear HA
   simp only [grids_Turn.j0] at H
   by_cases c79 : x34_4 = true
   ·subst c79
    have H1 : (some (0, 2)) = some (r1, r2) := by rw [if_pos rfl] at H; exact H
    clear H
    have H := H1
    clear H1
    simp only [Option.some.injEq, Prod.mk.injEq] at H
    obtain ⟨rfl, rfl⟩ := H
    go_wp2
    go_ret2
    exact rt HB
   ·replace c79 := Bool.eq_false_iff.mpr c79
    subst c79
    have H1 : ((grids_to.f a0_0 a0_1 a1_0 a1_1).bind fun jx => ((grids_to.f a0_0 a0_1 a2_0 a2_1).bind fun jy => ((grids_to.f a0_0 a0_1 a3_0 a3_1).bind fun jz => ((grids_step_half.f kj4 jx.1 jx.2 jy.1 jy.2).bind fun jZ => ((grids_step_half.f kj4 jx.1 jx.2 jz.1 jz.2).bind fun g0 => ((cmp_Compare_int.f jZ g0).bind fun jv => ((grids_step_cross.f jy.1 jy.2 jz.1 jz.2).bind fun g1 => ((cmp_Compare_int64.f 0 g1).bind fun jw => ((cmp_Or_int.f kj4 (([jv, jw] : List Int))).bind fun jX => (some (jX, 0))))))))))) = some (r1, r2) := by rw [if_neg (show ¬ (false = true) by decide)] at H; exact H
    clear H
    have H := H1
    clear H1
    obtain ⟨⟨jA, jT⟩, A80, H⟩ := ob H
    obtain ⟨⟨jB, jU⟩, A81, H⟩ := ob H
    obtain ⟨⟨jC, jV⟩, A82, H⟩ := ob H
    obtain ⟨jZ, A83, H⟩ := ob H
    obtain ⟨g0, A84, H⟩ := ob H
    obtain ⟨jv, A85, H⟩ := ob H
    obtain ⟨g1, A86, H⟩ := ob H
    obtain ⟨jw, A87, H⟩ := ob H
    obtain ⟨gy, hy442⟩ : ∃ y_ : List Int, y_ = (([jv, jw] : List Int)) := ⟨_, rfl⟩
    replace H : ((cmp_Or_int.f kj4 gy).bind fun jX => (some (jX, 0))) = some (r1, r2) := by first | (rw [hy442]; with_reducible exact H) | (have H2_ := (Option.bind_some _ _).symm.trans H; rw [hy442]; with_reducible exact H2_) | (have H2_ := (Option.bind_some _ _).symm.trans H; with_reducible exact H2_) | with_reducible exact H | (rw [hy442]; exact H) | exact H
    have Ny442 := Aside0.mk hy442
    clear hy442
    obtain ⟨jX, A88, H⟩ := ob H
    simp only [Option.some.injEq, Prod.mk.injEq] at H
    obtain ⟨rfl, rfl⟩ := H
    try go_wp2
    replace q0 := bd q0
    replace q1 := bd q1
    replace q2 := bd q2
    replace q3 := bd q3
    replace HB := bdn HB
    refine start_ (n := 15) (S := fun w' => True) (ds := []) #[false, false, false, false, false, false, false, false, false, false, false, false, false, false, false] (by kernel_rfl) rfl rfl trivial (fun hHeld => ?_); refine with_tabW grids_Turn.tab3 grids_Turn.bits3 (fun HT_ HW_ => ?_)
    generalize wc.drew = w89 at q0 q1 q2 q3 HB hHeld ⊢
    refine inv_at [0, 1, 2, 3, 4, 5, 6, 7, 8, 9, 10, 11, 12, 13, 14] (fun a0_ b a w' => ∃ (q4 : Nat) (q5 : Nat) (q6 : Nat) (m9_ : Value) (qf : Value) (qg : Value), a = putSel a0_ b [(0, 35, .agg #[.int .i64 a0_0, .int .i64 a0_1]), (1, 36, .agg #[.int .i64 a1_0, .int .i64 a1_1]), (2, 37, .agg #[.int .i64 jA, .int .i64 jT]), (3, 38, .agg #[.int .i64 a0_0, .int .i64 a0_1]), (4, 39, .agg #[.int .i64 a2_0, .int .i64 a2_1]), (5, 40, .agg #[.int .i64 jB, .int .i64 jU]), (6, 41, .agg #[.int .i64 a0_0, .int .i64 a0_1]), (7, 42, .agg #[.int .i64 a3_0, .int .i64 a3_1]), (8, 43, .agg #[.int .i64 jC, .int .i64 jV]), (9, 10, m9_), (10, 11, qf), (11, 12, qg)] ∧ (w'.heap[qX]? = some (.cells #[.int .i64 a0_0, .int .i64 a0_1] 37 (0, 0))) ∧ (w'.heap[qY]? = some (.cells #[.int .i64 a1_0, .int .i64 a1_1] 37 (0, 0))) ∧ (w'.heap[qZ]? = some (.cells #[.int .i64 a2_0, .int .i64 a2_1] 37 (0, 0))) ∧ (w'.heap[j0]? = some (.cells #[.int .i64 a3_0, .int .i64 a3_1] 37 (0, 0))) ∧ (Below w.heap.size w w') ∧ (b 9 = true → b 10 = true → q5 ≠ q4) ∧ (b 9 = true → b 10 = true → q4 ≠ q5) ∧ (b 9 = true → b 11 = true → q6 ≠ q4) ∧ (b 9 = true → b 11 = true → q4 ≠ q6) ∧ (b 10 = true → b 11 = true → q6 ≠ q5) ∧ (b 10 = true → b 11 = true → q5 ≠ q6) ∧ (b 9 = true → b 12 = false → w'.heap[q4]? = some (.cells #[.int .i64 0, .int .i64 0] 81 (0, 0))) ∧ (b 9 = true → w.heap.size ≤ q4) ∧ (b 9 = true → w.heap.size ≤ q4) ∧ (b 9 = true → qX ≠ q4) ∧ (b 9 = true → q4 ≠ qX) ∧ (b 9 = true → qY ≠ q4) ∧ (b 9 = true → q4 ≠ qY) ∧ (b 9 = true → qZ ≠ q4) ∧ (b 9 = true → q4 ≠ qZ) ∧ (b 9 = true → j0 ≠ q4) ∧ (b 9 = true → q4 ≠ j0) ∧ (b 10 = true → b 13 = false → w'.heap[q5]? = some (.cells #[.int .i64 0, .int .i64 0] 81 (0, 0))) ∧ (b 10 = true → w.heap.size ≤ q5) ∧ (b 10 = true → w.heap.size ≤ q5) ∧ (b 10 = true → qX ≠ q5) ∧ (b 10 = true → q5 ≠ qX) ∧ (b 10 = true → qY ≠ q5) ∧ (b 10 = true → q5 ≠ qY) ∧ (b 10 = true → qZ ≠ q5) ∧ (b 10 = true → q5 ≠ qZ) ∧ (b 10 = true → j0 ≠ q5) ∧ (b 10 = true → q5 ≠ j0) ∧ (b 11 = true → b 14 = false → w'.heap[q6]? = some (.cells #[.int .i64 0, .int .i64 0] 81 (0, 0))) ∧ (b 11 = true → w.heap.size ≤ q6) ∧ (b 11 = true → w.heap.size ≤ q6) ∧ (b 11 = true → qX ≠ q6) ∧ (b 11 = true → q6 ≠ qX) ∧ (b 11 = true → qY ≠ q6) ∧ (b 11 = true → q6 ≠ qY) ∧ (b 11 = true → qZ ≠ q6) ∧ (b 11 = true → q6 ≠ qZ) ∧ (b 11 = true → j0 ≠ q6) ∧ (b 11 = true → q6 ≠ j0) ∧ (b 12 = true → w'.heap[q4]? = some (.cells #[.int .i64 jA, .int .i64 jT] 81 (0, 0))) ∧ (b 13 = true → w'.heap[q5]? = some (.cells #[.int .i64 jB, .int .i64 jU] 81 (0, 0))) ∧ (b 14 = true → w'.heap[q6]? = some (.cells #[.int .i64 jC, .int .i64 jV] 81 (0, 0))) ∧ (b 9 = true → (m9_ : Value) = .pointer (some ⟨q4, 0, none⟩)) ∧ (b 10 = true → (qf : Value) = .pointer (some ⟨q5, 0, none⟩)) ∧ (b 11 = true → (qg : Value) = .pointer (some ⟨q6, 0, none⟩))) HT_.out HW_.out (by kernel_rfl) (by kernel_rfl) ?_ ?_ ?_
    ·exact ⟨0, 0, 0, .bool false, .bool false, .bool false, by simp only [putSel, Bool.false_eq_true, if_false], q0.out, q1.out, q2.out, q3.out, HB.out, fun h_ => absurd h_ (by decide), fun h_ => absurd h_ (by decide), fun h_ => absurd h_ (by decide), fun h_ => absurd h_ (by decide), fun h_ => absurd h_ (by decide), fun h_ => absurd h_ (by decide), fun h_ => absurd h_ (by decide), fun h_ => absurd h_ (by decide), fun h_ => absurd h_ (by decide), fun h_ => absurd h_ (by decide), fun h_ => absurd h_ (by decide), fun h_ => absurd h_ (by decide), fun h_ => absurd h_ (by decide), fun h_ => absurd h_ (by decide), fun h_ => absurd h_ (by decide), fun h_ => absurd h_ (by decide), fun h_ => absurd h_ (by decide), fun h_ => absurd h_ (by decide), fun h_ => absurd h_ (by decide), fun h_ => absurd h_ (by decide), fun h_ => absurd h_ (by decide), fun h_ => absurd h_ (by decide), fun h_ => absurd h_ (by decide), fun h_ => absurd h_ (by decide), fun h_ => absurd h_ (by decide), fun h_ => absurd h_ (by decide), fun h_ => absurd h_ (by decide), fun h_ => absurd h_ (by decide), fun h_ => absurd h_ (by decide), fun h_ => absurd h_ (by decide), fun h_ => absurd h_ (by decide), fun h_ => absurd h_ (by decide), fun h_ => absurd h_ (by decide), fun h_ => absurd h_ (by decide), fun h_ => absurd h_ (by decide), fun h_ => absurd h_ (by decide), fun h_ => absurd h_ (by decide), fun h_ => absurd h_ (by decide), fun h_ => absurd h_ (by decide), fun h_ => absurd h_ (by decide), fun h_ => absurd h_ (by decide), fun h_ => absurd h_ (by decide), fun h_ => absurd h_ (by decide), fun h_ => absurd h_ (by decide), fun h_ => absurd h_ (by decide)⟩
    ·skip
     clear q0 q1 q2 q3 HB
     refine steps_cons ?_ ?_
     ·rintro b a w' ⟨q4, q5, q6, m9_, qf, qg, ha, qa, qb, qc, qd, Q_HB, qP, qN, qR, qO, qS, qQ, qi, qm, qj, qp, qB, qs, qC, qv, qD, qy, qE, qh, qn, qk, qq, qF, qt, qG, qw, qH, qz, qI, qe, qo, ql, qr, qJ, qu, qK, qx, qL, qA, qM, qU, qV, qW, Q_X9_, Q_X10_, Q_X11_⟩ hb_ hon hoff
      refine ⟨_, rfl, fun K hK => ?_⟩
      have e4 : a.tmps[4]? = some (.pointer (some ⟨qX, 0, none⟩)) := by rw [ha]; exact (putSel_off rfl).trans rfl
      replace ha := Aside0.mk ha
      have q0 := Aside0.mk qa
      have q1 := Aside0.mk qb
      have q2 := Aside0.mk qc
      have q3 := Aside0.mk qd
      have HB := Aside0.mk Q_HB
      have hc0_ : w'.cell? ⟨qX, 0, none⟩ = some (.int .i64 a0_0) := (blk_cell q0.out 0).trans rfl
      have hc1_ : w'.cell? ⟨qX, 1, none⟩ = some (.int .i64 a0_1) := (blk_cell q0.out 1).trans rfl
      refine value_ (w1 := w') (v := .agg #[.int .i64 a0_0, .int .i64 a0_1]) (by rfl) rfl ?_ ?_
      ·go_simp
       (try simp only [i64_w])
       try rfl
      refine hK.out _ _ ⟨q4, q5, q6, m9_, qf, qg, (by rw [ha.out]; exact putSel_upk 0 hb_ rfl rfl rfl), qa, qb, qc, qd, Q_HB, qP, qN, qR, qO, qS, qQ, qi, qm, qj, qp, qB, qs, qC, qv, qD, qy, qE, qh, qn, qk, qq, qF, qt, qG, qw, qH, qz, qI, qe, qo, ql, qr, qJ, qu, qK, qx, qL, qA, qM, fun h0_ => absurd ((hoff 12 (by kernel_rfl)).symm.trans h0_) (by decide), fun h0_ => absurd ((hoff 13 (by kernel_rfl)).symm.trans h0_) (by decide), fun h0_ => absurd ((hoff 14 (by kernel_rfl)).symm.trans h0_) (by decide), Q_X9_, Q_X10_, Q_X11_⟩
     refine steps_cons ?_ ?_
     ·rintro b a w' ⟨q4, q5, q6, m9_, qf, qg, ha, qa, qb, qc, qd, Q_HB, qP, qN, qR, qO, qS, qQ, qi, qm, qj, qp, qB, qs, qC, qv, qD, qy, qE, qh, qn, qk, qq, qF, qt, qG, qw, qH, qz, qI, qe, qo, ql, qr, qJ, qu, qK, qx, qL, qA, qM, qU, qV, qW, Q_X9_, Q_X10_, Q_X11_⟩ hb_ hon hoff
      refine ⟨_, rfl, fun K hK => ?_⟩
      have e5 : a.tmps[5]? = some (.pointer (some ⟨qY, 0, none⟩)) := by rw [ha]; exact (putSel_off rfl).trans rfl
      replace ha := Aside0.mk ha
      have q0 := Aside0.mk qa
      have q1 := Aside0.mk qb
      have q2 := Aside0.mk qc
      have q3 := Aside0.mk qd
      have HB := Aside0.mk Q_HB
      have hc0_ : w'.cell? ⟨qY, 0, none⟩ = some (.int .i64 a1_0) := (blk_cell q1.out 0).trans rfl
      have hc1_ : w'.cell? ⟨qY, 1, none⟩ = some (.int .i64 a1_1) := (blk_cell q1.out 1).trans rfl
      refine value_ (w1 := w') (v := .agg #[.int .i64 a1_0, .int .i64 a1_1]) (by rfl) rfl ?_ ?_
      ·go_simp
       (try simp only [i64_w])
       try rfl
      refine hK.out _ _ ⟨q4, q5, q6, m9_, qf, qg, (by rw [ha.out]; exact putSel_upk 1 hb_ rfl rfl rfl), qa, qb, qc, qd, Q_HB, qP, qN, qR, qO, qS, qQ, qi, qm, qj, qp, qB, qs, qC, qv, qD, qy, qE, qh, qn, qk, qq, qF, qt, qG, qw, qH, qz, qI, qe, qo, ql, qr, qJ, qu, qK, qx, qL, qA, qM, fun h0_ => absurd ((hoff 12 (by kernel_rfl)).symm.trans h0_) (by decide), fun h0_ => absurd ((hoff 13 (by kernel_rfl)).symm.trans h0_) (by decide), fun h0_ => absurd ((hoff 14 (by kernel_rfl)).symm.trans h0_) (by decide), Q_X9_, Q_X10_, Q_X11_⟩
     refine steps_cons ?_ ?_
     ·rintro b a w' ⟨q4, q5, q6, m9_, qf, qg, ha, qa, qb, qc, qd, Q_HB, qP, qN, qR, qO, qS, qQ, qi, qm, qj, qp, qB, qs, qC, qv, qD, qy, qE, qh, qn, qk, qq, qF, qt, qG, qw, qH, qz, qI, qe, qo, ql, qr, qJ, qu, qK, qx, qL, qA, qM, qU, qV, qW, Q_X9_, Q_X10_, Q_X11_⟩ hb_ hon hoff
      refine ⟨_, rfl, fun K hK => ?_⟩
      have e35 : a.tmps[35]? = some (.agg #[.int .i64 a0_0, .int .i64 a0_1]) := by rw [ha]; exact putSel_on (e := (0, 35, .agg #[.int .i64 a0_0, .int .i64 a0_1])) 0 rfl rfl (hon 0 (by kernel_rfl)) rfl
      have e36 : a.tmps[36]? = some (.agg #[.int .i64 a1_0, .int .i64 a1_1]) := by rw [ha]; exact putSel_on (e := (1, 36, .agg #[.int .i64 a1_0, .int .i64 a1_1])) 1 rfl rfl (hon 1 (by kernel_rfl)) rfl
      replace ha := Aside0.mk ha
      have q0 := Aside0.mk qa
      have q1 := Aside0.mk qb
      have q2 := Aside0.mk qc
      have q3 := Aside0.mk qd
      have HB := Aside0.mk Q_HB
      refine goes_ Try.func50 (by kernel_rfl) rfl #[.agg #[.int .i64 a0_0, .int .i64 a0_1], .agg #[.int .i64 a1_0, .int .i64 a1_1]] (by rfl) rfl rfl (by first | (simp only [List.map_toArray, List.map_cons, List.map_nil, Act.eval, Array.getD_eq_getD_getElem?, Option.getD_some, e35, e36]; done) | (simp only [List.map_toArray, List.map_cons, List.map_nil, Act.eval, Array.getD_eq_getD_getElem?, Option.getD_some, e35, e36]; rfl)) ?_
      with_reducible refine (grids_to.calls a0_0 a0_1 a1_0 a1_1 jA jT _ A80.out).mono ?_
      rintro e w90 ⟨rfl, hb⟩
      refine ⟨_, rfl, ?_⟩
      have n0_ := bb q0 hb
      have n1_ := bb q1 hb
      have n2_ := bb q2 hb
      have n3_ := bb q3 hb
      have n4_ := bst HB hb
      have jE := fun (h0_ : b 9 = true) (h1_ : b 12 = false) => (show w90.heap[q4]? = some (.cells #[.int .i64 0, .int .i64 0] 81 (0, 0)) from by first | exact (blk_below (g := q4) (o := .cells #[.int .i64 0, .int .i64 0] 81 (0, 0)) (by (with_reducible repeat (first | refine blk_drewN ?_ _ | refine blk_drew ?_ | refine blk_alloc ?_ _)); exact (qi h0_ h1_)) hb))
      have jF := fun (h0_ : b 10 = true) (h1_ : b 13 = false) => (show w90.heap[q5]? = some (.cells #[.int .i64 0, .int .i64 0] 81 (0, 0)) from by first | exact (blk_below (g := q5) (o := .cells #[.int .i64 0, .int .i64 0] 81 (0, 0)) (by (with_reducible repeat (first | refine blk_drewN ?_ _ | refine blk_drew ?_ | refine blk_alloc ?_ _)); exact (qh h0_ h1_)) hb))
      have jG := fun (h0_ : b 11 = true) (h1_ : b 14 = false) => (show w90.heap[q6]? = some (.cells #[.int .i64 0, .int .i64 0] 81 (0, 0)) from by first | exact (blk_below (g := q6) (o := .cells #[.int .i64 0, .int .i64 0] 81 (0, 0)) (by (with_reducible repeat (first | refine blk_drewN ?_ _ | refine blk_drew ?_ | refine blk_alloc ?_ _)); exact (qe h0_ h1_)) hb))
      clear q0
      clear q1
      clear q2
      clear q3
      clear HB
      have q0 := n0_
      have q1 := n1_
      have q2 := n2_
      have q3 := n3_
      have HB := n4_
      clear n0_ n1_ n2_ n3_ n4_
      (try clear hb)
      (try clear hb2)
      (try clear hk)
      (try clear hi)
      refine hK.out _ _ ⟨q4, q5, q6, m9_, qf, qg, (by rw [ha.out]; exact putSel_upk 2 hb_ rfl rfl rfl), (pk q0), (pk q1), (pk q2), (pk q3), (bnow HB), qP, qN, qR, qO, qS, qQ, jE, qm, qj, qp, qB, qs, qC, qv, qD, qy, qE, jF, qn, qk, qq, qF, qt, qG, qw, qH, qz, qI, jG, qo, ql, qr, qJ, qu, qK, qx, qL, qA, qM, fun h0_ => absurd ((hoff 12 (by kernel_rfl)).symm.trans h0_) (by decide), fun h0_ => absurd ((hoff 13 (by kernel_rfl)).symm.trans h0_) (by decide), fun h0_ => absurd ((hoff 14 (by kernel_rfl)).symm.trans h0_) (by decide), Q_X9_, Q_X10_, Q_X11_⟩
     refine steps_cons ?_ ?_
     ·rintro b a w' ⟨q4, q5, q6, m9_, qf, qg, ha, qa, qb, qc, qd, Q_HB, qP, qN, qR, qO, qS, qQ, qi, qm, qj, qp, qB, qs, qC, qv, qD, qy, qE, qh, qn, qk, qq, qF, qt, qG, qw, qH, qz, qI, qe, qo, ql, qr, qJ, qu, qK, qx, qL, qA, qM, qU, qV, qW, Q_X9_, Q_X10_, Q_X11_⟩ hb_ hon hoff
      refine ⟨_, rfl, fun K hK => ?_⟩
      have e4 : a.tmps[4]? = some (.pointer (some ⟨qX, 0, none⟩)) := by rw [ha]; exact (putSel_off rfl).trans rfl
      replace ha := Aside0.mk ha
      have q0 := Aside0.mk qa
      have q1 := Aside0.mk qb
      have q2 := Aside0.mk qc
      have q3 := Aside0.mk qd
      have HB := Aside0.mk Q_HB
      have hc0_ : w'.cell? ⟨qX, 0, none⟩ = some (.int .i64 a0_0) := (blk_cell q0.out 0).trans rfl
      have hc1_ : w'.cell? ⟨qX, 1, none⟩ = some (.int .i64 a0_1) := (blk_cell q0.out 1).trans rfl
      refine value_ (w1 := w') (v := .agg #[.int .i64 a0_0, .int .i64 a0_1]) (by rfl) rfl ?_ ?_
      ·go_simp
       (try simp only [i64_w])
       try rfl
      refine hK.out _ _ ⟨q4, q5, q6, m9_, qf, qg, (by rw [ha.out]; exact putSel_upk 3 hb_ rfl rfl rfl), qa, qb, qc, qd, Q_HB, qP, qN, qR, qO, qS, qQ, qi, qm, qj, qp, qB, qs, qC, qv, qD, qy, qE, qh, qn, qk, qq, qF, qt, qG, qw, qH, qz, qI, qe, qo, ql, qr, qJ, qu, qK, qx, qL, qA, qM, fun h0_ => absurd ((hoff 12 (by kernel_rfl)).symm.trans h0_) (by decide), fun h0_ => absurd ((hoff 13 (by kernel_rfl)).symm.trans h0_) (by decide), fun h0_ => absurd ((hoff 14 (by kernel_rfl)).symm.trans h0_) (by decide), Q_X9_, Q_X10_, Q_X11_⟩
     refine steps_cons ?_ ?_
     ·rintro b a w' ⟨q4, q5, q6, m9_, qf, qg, ha, qa, qb, qc, qd, Q_HB, qP, qN, qR, qO, qS, qQ, qi, qm, qj, qp, qB, qs, qC, qv, qD, qy, qE, qh, qn, qk, qq, qF, qt, qG, qw, qH, qz, qI, qe, qo, ql, qr, qJ, qu, qK, qx, qL, qA, qM, qU, qV, qW, Q_X9_, Q_X10_, Q_X11_⟩ hb_ hon hoff
      refine ⟨_, rfl, fun K hK => ?_⟩
      have e6 : a.tmps[6]? = some (.pointer (some ⟨qZ, 0, none⟩)) := by rw [ha]; exact (putSel_off rfl).trans rfl
      replace ha := Aside0.mk ha
      have q0 := Aside0.mk qa
      have q1 := Aside0.mk qb
      have q2 := Aside0.mk qc
      have q3 := Aside0.mk qd
      have HB := Aside0.mk Q_HB
      have hc0_ : w'.cell? ⟨qZ, 0, none⟩ = some (.int .i64 a2_0) := (blk_cell q2.out 0).trans rfl
      have hc1_ : w'.cell? ⟨qZ, 1, none⟩ = some (.int .i64 a2_1) := (blk_cell q2.out 1).trans rfl
      refine value_ (w1 := w') (v := .agg #[.int .i64 a2_0, .int .i64 a2_1]) (by rfl) rfl ?_ ?_
      ·go_simp
       (try simp only [i64_w])
       try rfl
      refine hK.out _ _ ⟨q4, q5, q6, m9_, qf, qg, (by rw [ha.out]; exact putSel_upk 4 hb_ rfl rfl rfl), qa, qb, qc, qd, Q_HB, qP, qN, qR, qO, qS, qQ, qi, qm, qj, qp, qB, qs, qC, qv, qD, qy, qE, qh, qn, qk, qq, qF, qt, qG, qw, qH, qz, qI, qe, qo, ql, qr, qJ, qu, qK, qx, qL, qA, qM, fun h0_ => absurd ((hoff 12 (by kernel_rfl)).symm.trans h0_) (by decide), fun h0_ => absurd ((hoff 13 (by kernel_rfl)).symm.trans h0_) (by decide), fun h0_ => absurd ((hoff 14 (by kernel_rfl)).symm.trans h0_) (by decide), Q_X9_, Q_X10_, Q_X11_⟩
     refine steps_cons ?_ ?_
     ·rintro b a w' ⟨q4, q5, q6, m9_, qf, qg, ha, qa, qb, qc, qd, Q_HB, qP, qN, qR, qO, qS, qQ, qi, qm, qj, qp, qB, qs, qC, qv, qD, qy, qE, qh, qn, qk, qq, qF, qt, qG, qw, qH, qz, qI, qe, qo, ql, qr, qJ, qu, qK, qx, qL, qA, qM, qU, qV, qW, Q_X9_, Q_X10_, Q_X11_⟩ hb_ hon hoff
      refine ⟨_, rfl, fun K hK => ?_⟩
      have e38 : a.tmps[38]? = some (.agg #[.int .i64 a0_0, .int .i64 a0_1]) := by rw [ha]; exact putSel_on (e := (3, 38, .agg #[.int .i64 a0_0, .int .i64 a0_1])) 3 rfl rfl (hon 3 (by kernel_rfl)) rfl
      have e39 : a.tmps[39]? = some (.agg #[.int .i64 a2_0, .int .i64 a2_1]) := by rw [ha]; exact putSel_on (e := (4, 39, .agg #[.int .i64 a2_0, .int .i64 a2_1])) 4 rfl rfl (hon 4 (by kernel_rfl)) rfl
      replace ha := Aside0.mk ha
      have q0 := Aside0.mk qa
      have q1 := Aside0.mk qb
      have q2 := Aside0.mk qc
      have q3 := Aside0.mk qd
      have HB := Aside0.mk Q_HB
      refine goes_ Try.func50 (by kernel_rfl) rfl #[.agg #[.int .i64 a0_0, .int .i64 a0_1], .agg #[.int .i64 a2_0, .int .i64 a2_1]] (by rfl) rfl rfl (by first | (simp only [List.map_toArray, List.map_cons, List.map_nil, Act.eval, Array.getD_eq_getD_getElem?, Option.getD_some, e38, e39]; done) | (simp only [List.map_toArray, List.map_cons, List.map_nil, Act.eval, Array.getD_eq_getD_getElem?, Option.getD_some, e38, e39]; rfl)) ?_
      with_reducible refine (grids_to.calls a0_0 a0_1 a2_0 a2_1 jB jU _ A81.out).mono ?_
      rintro e w92 ⟨rfl, hb⟩
      refine ⟨_, rfl, ?_⟩
      have n0_ := bb q0 hb
      have n1_ := bb q1 hb
      have n2_ := bb q2 hb
      have n3_ := bb q3 hb
      have n4_ := bst HB hb
      have jE := fun (h0_ : b 9 = true) (h1_ : b 12 = false) => (show w92.heap[q4]? = some (.cells #[.int .i64 0, .int .i64 0] 81 (0, 0)) from by first | exact (blk_below (g := q4) (o := .cells #[.int .i64 0, .int .i64 0] 81 (0, 0)) (by (with_reducible repeat (first | refine blk_drewN ?_ _ | refine blk_drew ?_ | refine blk_alloc ?_ _)); exact (qi h0_ h1_)) hb))
      have jF := fun (h0_ : b 10 = true) (h1_ : b 13 = false) => (show w92.heap[q5]? = some (.cells #[.int .i64 0, .int .i64 0] 81 (0, 0)) from by first | exact (blk_below (g := q5) (o := .cells #[.int .i64 0, .int .i64 0] 81 (0, 0)) (by (with_reducible repeat (first | refine blk_drewN ?_ _ | refine blk_drew ?_ | refine blk_alloc ?_ _)); exact (qh h0_ h1_)) hb))
      have jG := fun (h0_ : b 11 = true) (h1_ : b 14 = false) => (show w92.heap[q6]? = some (.cells #[.int .i64 0, .int .i64 0] 81 (0, 0)) from by first | exact (blk_below (g := q6) (o := .cells #[.int .i64 0, .int .i64 0] 81 (0, 0)) (by (with_reducible repeat (first | refine blk_drewN ?_ _ | refine blk_drew ?_ | refine blk_alloc ?_ _)); exact (qe h0_ h1_)) hb))
      clear q0
      clear q1
      clear q2
      clear q3
      clear HB
      have q0 := n0_
      have q1 := n1_
      have q2 := n2_
      have q3 := n3_
      have HB := n4_
      clear n0_ n1_ n2_ n3_ n4_
      (try clear hb)
      (try clear hb2)
      (try clear hk)
      (try clear hi)
      refine hK.out _ _ ⟨q4, q5, q6, m9_, qf, qg, (by rw [ha.out]; exact putSel_upk 5 hb_ rfl rfl rfl), (pk q0), (pk q1), (pk q2), (pk q3), (bnow HB), qP, qN, qR, qO, qS, qQ, jE, qm, qj, qp, qB, qs, qC, qv, qD, qy, qE, jF, qn, qk, qq, qF, qt, qG, qw, qH, qz, qI, jG, qo, ql, qr, qJ, qu, qK, qx, qL, qA, qM, fun h0_ => absurd ((hoff 12 (by kernel_rfl)).symm.trans h0_) (by decide), fun h0_ => absurd ((hoff 13 (by kernel_rfl)).symm.trans h0_) (by decide), fun h0_ => absurd ((hoff 14 (by kernel_rfl)).symm.trans h0_) (by decide), Q_X9_, Q_X10_, Q_X11_⟩
     refine steps_cons ?_ ?_
     ·rintro b a w' ⟨q4, q5, q6, m9_, qf, qg, ha, qa, qb, qc, qd, Q_HB, qP, qN, qR, qO, qS, qQ, qi, qm, qj, qp, qB, qs, qC, qv, qD, qy, qE, qh, qn, qk, qq, qF, qt, qG, qw, qH, qz, qI, qe, qo, ql, qr, qJ, qu, qK, qx, qL, qA, qM, qU, qV, qW, Q_X9_, Q_X10_, Q_X11_⟩ hb_ hon hoff
      refine ⟨_, rfl, fun K hK => ?_⟩
      have e4 : a.tmps[4]? = some (.pointer (some ⟨qX, 0, none⟩)) := by rw [ha]; exact (putSel_off rfl).trans rfl
      replace ha := Aside0.mk ha
      have q0 := Aside0.mk qa
      have q1 := Aside0.mk qb
      have q2 := Aside0.mk qc
      have q3 := Aside0.mk qd
      have HB := Aside0.mk Q_HB
      have hc0_ : w'.cell? ⟨qX, 0, none⟩ = some (.int .i64 a0_0) := (blk_cell q0.out 0).trans rfl
      have hc1_ : w'.cell? ⟨qX, 1, none⟩ = some (.int .i64 a0_1) := (blk_cell q0.out 1).trans rfl
      refine value_ (w1 := w') (v := .agg #[.int .i64 a0_0, .int .i64 a0_1]) (by rfl) rfl ?_ ?_
      ·go_simp
       (try simp only [i64_w])
       try rfl
      refine hK.out _ _ ⟨q4, q5, q6, m9_, qf, qg, (by rw [ha.out]; exact putSel_upk 6 hb_ rfl rfl rfl), qa, qb, qc, qd, Q_HB, qP, qN, qR, qO, qS, qQ, qi, qm, qj, qp, qB, qs, qC, qv, qD, qy, qE, qh, qn, qk, qq, qF, qt, qG, qw, qH, qz, qI, qe, qo, ql, qr, qJ, qu, qK, qx, qL, qA, qM, fun h0_ => absurd ((hoff 12 (by kernel_rfl)).symm.trans h0_) (by decide), fun h0_ => absurd ((hoff 13 (by kernel_rfl)).symm.trans h0_) (by decide), fun h0_ => absurd ((hoff 14 (by kernel_rfl)).symm.trans h0_) (by decide), Q_X9_, Q_X10_, Q_X11_⟩
     refine steps_cons ?_ ?_
     ·rintro b a w' ⟨q4, q5, q6, m9_, qf, qg, ha, qa, qb, qc, qd, Q_HB, qP, qN, qR, qO, qS, qQ, qi, qm, qj, qp, qB, qs, qC, qv, qD, qy, qE, qh, qn, qk, qq, qF, qt, qG, qw, qH, qz, qI, qe, qo, ql, qr, qJ, qu, qK, qx, qL, qA, qM, qU, qV, qW, Q_X9_, Q_X10_, Q_X11_⟩ hb_ hon hoff
      refine ⟨_, rfl, fun K hK => ?_⟩
      have e7 : a.tmps[7]? = some (.pointer (some ⟨j0, 0, none⟩)) := by rw [ha]; exact (putSel_off rfl).trans rfl
      replace ha := Aside0.mk ha
      have q0 := Aside0.mk qa
      have q1 := Aside0.mk qb
      have q2 := Aside0.mk qc
      have q3 := Aside0.mk qd
      have HB := Aside0.mk Q_HB
      have hc0_ : w'.cell? ⟨j0, 0, none⟩ = some (.int .i64 a3_0) := (blk_cell q3.out 0).trans rfl
      have hc1_ : w'.cell? ⟨j0, 1, none⟩ = some (.int .i64 a3_1) := (blk_cell q3.out 1).trans rfl
      refine value_ (w1 := w') (v := .agg #[.int .i64 a3_0, .int .i64 a3_1]) (by rfl) rfl ?_ ?_
      ·go_simp
       (try simp only [i64_w])
       try rfl
      refine hK.out _ _ ⟨q4, q5, q6, m9_, qf, qg, (by rw [ha.out]; exact putSel_upk 7 hb_ rfl rfl rfl), qa, qb, qc, qd, Q_HB, qP, qN, qR, qO, qS, qQ, qi, qm, qj, qp, qB, qs, qC, qv, qD, qy, qE, qh, qn, qk, qq, qF, qt, qG, qw, qH, qz, qI, qe, qo, ql, qr, qJ, qu, qK, qx, qL, qA, qM, fun h0_ => absurd ((hoff 12 (by kernel_rfl)).symm.trans h0_) (by decide), fun h0_ => absurd ((hoff 13 (by kernel_rfl)).symm.trans h0_) (by decide), fun h0_ => absurd ((hoff 14 (by kernel_rfl)).symm.trans h0_) (by decide), Q_X9_, Q_X10_, Q_X11_⟩
     refine steps_cons ?_ ?_
     ·rintro b a w' ⟨q4, q5, q6, m9_, qf, qg, ha, qa, qb, qc, qd, Q_HB, qP, qN, qR, qO, qS, qQ, qi, qm, qj, qp, qB, qs, qC, qv, qD, qy, qE, qh, qn, qk, qq, qF, qt, qG, qw, qH, qz, qI, qe, qo, ql, qr, qJ, qu, qK, qx, qL, qA, qM, qU, qV, qW, Q_X9_, Q_X10_, Q_X11_⟩ hb_ hon hoff
      refine ⟨_, rfl, fun K hK => ?_⟩
      have e41 : a.tmps[41]? = some (.agg #[.int .i64 a0_0, .int .i64 a0_1]) := by rw [ha]; exact putSel_on (e := (6, 41, .agg #[.int .i64 a0_0, .int .i64 a0_1])) 6 rfl rfl (hon 6 (by kernel_rfl)) rfl
      have e42 : a.tmps[42]? = some (.agg #[.int .i64 a3_0, .int .i64 a3_1]) := by rw [ha]; exact putSel_on (e := (7, 42, .agg #[.int .i64 a3_0, .int .i64 a3_1])) 7 rfl rfl (hon 7 (by kernel_rfl)) rfl
      replace ha := Aside0.mk ha
      have q0 := Aside0.mk qa
      have q1 := Aside0.mk qb
      have q2 := Aside0.mk qc
      have q3 := Aside0.mk qd
      have HB := Aside0.mk Q_HB
      refine goes_ Try.func50 (by kernel_rfl) rfl #[.agg #[.int .i64 a0_0, .int .i64 a0_1], .agg #[.int .i64 a3_0, .int .i64 a3_1]] (by rfl) rfl rfl (by first | (simp only [List.map_toArray, List.map_cons, List.map_nil, Act.eval, Array.getD_eq_getD_getElem?, Option.getD_some, e41, e42]; done) | (simp only [List.map_toArray, List.map_cons, List.map_nil, Act.eval, Array.getD_eq_getD_getElem?, Option.getD_some, e41, e42]; rfl)) ?_
      with_reducible refine (grids_to.calls a0_0 a0_1 a3_0 a3_1 jC jV _ A82.out).mono ?_
      rintro e w93 ⟨rfl, hb⟩
      refine ⟨_, rfl, ?_⟩
      have n0_ := bb q0 hb
      have n1_ := bb q1 hb
      have n2_ := bb q2 hb
      have n3_ := bb q3 hb
      have n4_ := bst HB hb
      have jE := fun (h0_ : b 9 = true) (h1_ : b 12 = false) => (show w93.heap[q4]? = some (.cells #[.int .i64 0, .int .i64 0] 81 (0, 0)) from by first | exact (blk_below (g := q4) (o := .cells #[.int .i64 0, .int .i64 0] 81 (0, 0)) (by (with_reducible repeat (first | refine blk_drewN ?_ _ | refine blk_drew ?_ | refine blk_alloc ?_ _)); exact (qi h0_ h1_)) hb))
      have jF := fun (h0_ : b 10 = true) (h1_ : b 13 = false) => (show w93.heap[q5]? = some (.cells #[.int .i64 0, .int .i64 0] 81 (0, 0)) from by first | exact (blk_below (g := q5) (o := .cells #[.int .i64 0, .int .i64 0] 81 (0, 0)) (by (with_reducible repeat (first | refine blk_drewN ?_ _ | refine blk_drew ?_ | refine blk_alloc ?_ _)); exact (qh h0_ h1_)) hb))
      have jG := fun (h0_ : b 11 = true) (h1_ : b 14 = false) => (show w93.heap[q6]? = some (.cells #[.int .i64 0, .int .i64 0] 81 (0, 0)) from by first | exact (blk_below (g := q6) (o := .cells #[.int .i64 0, .int .i64 0] 81 (0, 0)) (by (with_reducible repeat (first | refine blk_drewN ?_ _ | refine blk_drew ?_ | refine blk_alloc ?_ _)); exact (qe h0_ h1_)) hb))
      clear q0
      clear q1
      clear q2
      clear q3
      clear HB
      have q0 := n0_
      have q1 := n1_
      have q2 := n2_
      have q3 := n3_
      have HB := n4_
      clear n0_ n1_ n2_ n3_ n4_
      (try clear hb)
      (try clear hb2)
      (try clear hk)
      (try clear hi)
      refine hK.out _ _ ⟨q4, q5, q6, m9_, qf, qg, (by rw [ha.out]; exact putSel_upk 8 hb_ rfl rfl rfl), (pk q0), (pk q1), (pk q2), (pk q3), (bnow HB), qP, qN, qR, qO, qS, qQ, jE, qm, qj, qp, qB, qs, qC, qv, qD, qy, qE, jF, qn, qk, qq, qF, qt, qG, qw, qH, qz, qI, jG, qo, ql, qr, qJ, qu, qK, qx, qL, qA, qM, fun h0_ => absurd ((hoff 12 (by kernel_rfl)).symm.trans h0_) (by decide), fun h0_ => absurd ((hoff 13 (by kernel_rfl)).symm.trans h0_) (by decide), fun h0_ => absurd ((hoff 14 (by kernel_rfl)).symm.trans h0_) (by decide), Q_X9_, Q_X10_, Q_X11_⟩
     refine steps_cons ?_ ?_
     ·rintro b a w' ⟨q4, q5, q6, m9_, qf, qg, ha, qa, qb, qc, qd, Q_HB, qP, qN, qR, qO, qS, qQ, qi, qm, qj, qp, qB, qs, qC, qv, qD, qy, qE, qh, qn, qk, qq, qF, qt, qG, qw, qH, qz, qI, qe, qo, ql, qr, qJ, qu, qK, qx, qL, qA, qM, qU, qV, qW, Q_X9_, Q_X10_, Q_X11_⟩ hb_ hon hoff
      refine ⟨_, rfl, fun K hK => ?_⟩
      replace ha := Aside0.mk ha
      have q0 := Aside0.mk qa
      have q1 := Aside0.mk qb
      have q2 := Aside0.mk qc
      have q3 := Aside0.mk qd
      have HB := Aside0.mk Q_HB
      refine box_step ?hg (N := 10) ?hd (cs := #[.int .i64 0, .int .i64 0]) (t := 81) ?hr ?_; (case hd => rfl); (case hg => rfl); (case hr => first | (go_simp; done) | (go_simp; rfl))
      intro q4 hg w90 hbox hb
      have n0_ := bb q0 hb
      have n1_ := bb q1 hb
      have n2_ := bb q2 hb
      have n3_ := bb q3 hb
      have n4_ := bst HB hb
      have n5_ := Aside0.mk (hbox)
      have n6_ := gw hg HB
      have n7_ := gw hg HB
      have n8_ := nlt hg q0
      have n9_ := ngt hg q0
      have jN := nlt hg q1
      have jO := ngt hg q1
      have jP := nlt hg q2
      have jQ := ngt hg q2
      have jR := nlt hg q3
      have jS := ngt hg q3
      have gm := fun (h0_ : up b 9 9 = true) (h1_ : up b 9 10 = true) => (show q5 ≠ q4 from (by cases hb_ : b 13 with | false => exact ((by rw [hg]; exact Nat.ne_of_lt (blk_lt (g := q5) (o := .cells #[.int .i64 0, .int .i64 0] 81 (0, 0)) (by (with_reducible repeat (first | refine blk_drewN ?_ _ | refine blk_drew ?_ | refine blk_alloc ?_ _)); exact (qh h1_ hb_))) : q5 ≠ q4)) | true => exact ((by rw [hg]; exact Nat.ne_of_lt (blk_lt (g := q5) (by (with_reducible repeat (first | refine blk_drewN ?_ _ | refine blk_drew ?_ | refine blk_alloc ?_ _)); exact (qV hb_))) : q5 ≠ q4))))
      have gk := fun (h0_ : up b 9 9 = true) (h1_ : up b 9 10 = true) => (show q4 ≠ q5 from (by cases hb_ : b 13 with | false => exact ((by rw [hg]; exact Nat.ne_of_gt (blk_lt (g := q5) (o := .cells #[.int .i64 0, .int .i64 0] 81 (0, 0)) (by (with_reducible repeat (first | refine blk_drewN ?_ _ | refine blk_drew ?_ | refine blk_alloc ?_ _)); exact (qh h1_ hb_))) : q4 ≠ q5)) | true => exact ((by rw [hg]; exact Nat.ne_of_gt (blk_lt (g := q5) (by (with_reducible repeat (first | refine blk_drewN ?_ _ | refine blk_drew ?_ | refine blk_alloc ?_ _)); exact (qV hb_))) : q4 ≠ q5))))
      have go := fun (h0_ : up b 9 9 = true) (h1_ : up b 9 11 = true) => (show q6 ≠ q4 from (by cases hb_ : b 14 with | false => exact ((by rw [hg]; exact Nat.ne_of_lt (blk_lt (g := q6) (o := .cells #[.int .i64 0, .int .i64 0] 81 (0, 0)) (by (with_reducible repeat (first | refine blk_drewN ?_ _ | refine blk_drew ?_ | refine blk_alloc ?_ _)); exact (qe h1_ hb_))) : q6 ≠ q4)) | true => exact ((by rw [hg]; exact Nat.ne_of_lt (blk_lt (g := q6) (by (with_reducible repeat (first | refine blk_drewN ?_ _ | refine blk_drew ?_ | refine blk_alloc ?_ _)); exact (qW hb_))) : q6 ≠ q4))))
      have gl := fun (h0_ : up b 9 9 = true) (h1_ : up b 9 11 = true) => (show q4 ≠ q6 from (by cases hb_ : b 14 with | false => exact ((by rw [hg]; exact Nat.ne_of_gt (blk_lt (g := q6) (o := .cells #[.int .i64 0, .int .i64 0] 81 (0, 0)) (by (with_reducible repeat (first | refine blk_drewN ?_ _ | refine blk_drew ?_ | refine blk_alloc ?_ _)); exact (qe h1_ hb_))) : q4 ≠ q6)) | true => exact ((by rw [hg]; exact Nat.ne_of_gt (blk_lt (g := q6) (by (with_reducible repeat (first | refine blk_drewN ?_ _ | refine blk_drew ?_ | refine blk_alloc ?_ _)); exact (qW hb_))) : q4 ≠ q6))))
      have jF := fun (h0_ : b 10 = true) (h1_ : b 13 = false) => (show w90.heap[q5]? = some (.cells #[.int .i64 0, .int .i64 0] 81 (0, 0)) from by first | exact (blk_below (g := q5) (o := .cells #[.int .i64 0, .int .i64 0] 81 (0, 0)) (by (with_reducible repeat (first | refine blk_drewN ?_ _ | refine blk_drew ?_ | refine blk_alloc ?_ _)); exact (qh h0_ h1_)) hb))
      have jG := fun (h0_ : b 11 = true) (h1_ : b 14 = false) => (show w90.heap[q6]? = some (.cells #[.int .i64 0, .int .i64 0] 81 (0, 0)) from by first | exact (blk_below (g := q6) (o := .cells #[.int .i64 0, .int .i64 0] 81 (0, 0)) (by (with_reducible repeat (first | refine blk_drewN ?_ _ | refine blk_drew ?_ | refine blk_alloc ?_ _)); exact (qe h0_ h1_)) hb))
      clear q0
      clear q1
      clear q2
      clear q3
      clear HB
      have q0 := n0_
      have q1 := n1_
      have q2 := n2_
      have q3 := n3_
      have HB := n4_
      have q7 := n5_
      have jK := n6_
      have jH := n7_
      have j1 := n8_
      have jj := n9_
      have j4 := jN
      have jk := jO
      have j7 := jP
      have jl := jQ
      have ja := jR
      have jm := jS
      clear n0_ n1_ n2_ n3_ n4_ n5_ n6_ n7_ n8_ n9_ jN jO jP jQ jR jS
      clear hb hg
      refine hK.out _ _ ⟨q4, q5, q6, (.pointer (some ⟨q4, 0, none⟩)), qf, qg, (by rw [ha.out]; exact putSel_upk 9 hb_ rfl rfl rfl), (pk q0), (pk q1), (pk q2), (pk q3), (bnow HB), gm, gk, go, gl, qS, qQ, fun _ _ => (pk q7), fun _ => jK.out, fun _ => jH.out, fun _ => j1.out, fun _ => jj.out, fun _ => j4.out, fun _ => jk.out, fun _ => j7.out, fun _ => jl.out, fun _ => ja.out, fun _ => jm.out, jF, qn, qk, qq, qF, qt, qG, qw, qH, qz, qI, jG, qo, ql, qr, qJ, qu, qK, qx, qL, qA, qM, fun h0_ => absurd ((hoff 12 (by kernel_rfl)).symm.trans h0_) (by decide), fun h0_ => absurd ((hoff 13 (by kernel_rfl)).symm.trans h0_) (by decide), fun h0_ => absurd ((hoff 14 (by kernel_rfl)).symm.trans h0_) (by decide), fun _ => rfl, Q_X10_, Q_X11_⟩
     refine steps_cons ?_ ?_
     ·rintro b a w' ⟨q4, q5, q6, m9_, qf, qg, ha, qa, qb, qc, qd, Q_HB, qP, qN, qR, qO, qS, qQ, qi, qm, qj, qp, qB, qs, qC, qv, qD, qy, qE, qh, qn, qk, qq, qF, qt, qG, qw, qH, qz, qI, qe, qo, ql, qr, qJ, qu, qK, qx, qL, qA, qM, qU, qV, qW, Q_X9_, Q_X10_, Q_X11_⟩ hb_ hon hoff
      refine ⟨_, rfl, fun K hK => ?_⟩
      replace ha := Aside0.mk ha
      have q0 := Aside0.mk qa
      have q1 := Aside0.mk qb
      have q2 := Aside0.mk qc
      have q3 := Aside0.mk qd
      have HB := Aside0.mk Q_HB
      refine box_step ?hg (N := 11) ?hd (cs := #[.int .i64 0, .int .i64 0]) (t := 81) ?hr ?_; (case hd => rfl); (case hg => rfl); (case hr => first | (go_simp; done) | (go_simp; rfl))
      intro q5 hg w90 hbox hb
      have n0_ := bb q0 hb
      have n1_ := bb q1 hb
      have n2_ := bb q2 hb
      have n3_ := bb q3 hb
      have n4_ := bst HB hb
      have n5_ := Aside0.mk (hbox)
      have n6_ := gw hg HB
      have n7_ := gw hg HB
      have n8_ := nlt hg q0
      have n9_ := ngt hg q0
      have jN := nlt hg q1
      have jO := ngt hg q1
      have jP := nlt hg q2
      have jQ := ngt hg q2
      have jR := nlt hg q3
      have jS := ngt hg q3
      have gm := fun (h0_ : up b 10 9 = true) (h1_ : up b 10 10 = true) => (show q5 ≠ q4 from (by cases hb_ : b 12 with | false => exact ((by rw [hg]; exact Nat.ne_of_gt (blk_lt (g := q4) (o := .cells #[.int .i64 0, .int .i64 0] 81 (0, 0)) (by (with_reducible repeat (first | refine blk_drewN ?_ _ | refine blk_drew ?_ | refine blk_alloc ?_ _)); exact (qi h0_ hb_))) : q5 ≠ q4)) | true => exact ((by rw [hg]; exact Nat.ne_of_gt (blk_lt (g := q4) (by (with_reducible repeat (first | refine blk_drewN ?_ _ | refine blk_drew ?_ | refine blk_alloc ?_ _)); exact (qU hb_))) : q5 ≠ q4))))
      have gk := fun (h0_ : up b 10 9 = true) (h1_ : up b 10 10 = true) => (show q4 ≠ q5 from (by cases hb_ : b 12 with | false => exact ((by rw [hg]; exact Nat.ne_of_lt (blk_lt (g := q4) (o := .cells #[.int .i64 0, .int .i64 0] 81 (0, 0)) (by (with_reducible repeat (first | refine blk_drewN ?_ _ | refine blk_drew ?_ | refine blk_alloc ?_ _)); exact (qi h0_ hb_))) : q4 ≠ q5)) | true => exact ((by rw [hg]; exact Nat.ne_of_lt (blk_lt (g := q4) (by (with_reducible repeat (first | refine blk_drewN ?_ _ | refine blk_drew ?_ | refine blk_alloc ?_ _)); exact (qU hb_))) : q4 ≠ q5))))
      have gp := fun (h0_ : up b 10 10 = true) (h1_ : up b 10 11 = true) => (show q6 ≠ q5 from (by cases hb_ : b 14 with | false => exact ((by rw [hg]; exact Nat.ne_of_lt (blk_lt (g := q6) (o := .cells #[.int .i64 0, .int .i64 0] 81 (0, 0)) (by (with_reducible repeat (first | refine blk_drewN ?_ _ | refine blk_drew ?_ | refine blk_alloc ?_ _)); exact (qe h1_ hb_))) : q6 ≠ q5)) | true => exact ((by rw [hg]; exact Nat.ne_of_lt (blk_lt (g := q6) (by (with_reducible repeat (first | refine blk_drewN ?_ _ | refine blk_drew ?_ | refine blk_alloc ?_ _)); exact (qW hb_))) : q6 ≠ q5))))
      have gn := fun (h0_ : up b 10 10 = true) (h1_ : up b 10 11 = true) => (show q5 ≠ q6 from (by cases hb_ : b 14 with | false => exact ((by rw [hg]; exact Nat.ne_of_gt (blk_lt (g := q6) (o := .cells #[.int .i64 0, .int .i64 0] 81 (0, 0)) (by (with_reducible repeat (first | refine blk_drewN ?_ _ | refine blk_drew ?_ | refine blk_alloc ?_ _)); exact (qe h1_ hb_))) : q5 ≠ q6)) | true => exact ((by rw [hg]; exact Nat.ne_of_gt (blk_lt (g := q6) (by (with_reducible repeat (first | refine blk_drewN ?_ _ | refine blk_drew ?_ | refine blk_alloc ?_ _)); exact (qW hb_))) : q5 ≠ q6))))
      have jE := fun (h0_ : b 9 = true) (h1_ : b 12 = false) => (show w90.heap[q4]? = some (.cells #[.int .i64 0, .int .i64 0] 81 (0, 0)) from by first | exact (blk_below (g := q4) (o := .cells #[.int .i64 0, .int .i64 0] 81 (0, 0)) (by (with_reducible repeat (first | refine blk_drewN ?_ _ | refine blk_drew ?_ | refine blk_alloc ?_ _)); exact (qi h0_ h1_)) hb))
      have jG := fun (h0_ : b 11 = true) (h1_ : b 14 = false) => (show w90.heap[q6]? = some (.cells #[.int .i64 0, .int .i64 0] 81 (0, 0)) from by first | exact (blk_below (g := q6) (o := .cells #[.int .i64 0, .int .i64 0] 81 (0, 0)) (by (with_reducible repeat (first | refine blk_drewN ?_ _ | refine blk_drew ?_ | refine blk_alloc ?_ _)); exact (qe h0_ h1_)) hb))
      clear q0
      clear q1
      clear q2
      clear q3
      clear HB
      have q0 := n0_
      have q1 := n1_
      have q2 := n2_
      have q3 := n3_
      have HB := n4_
      have q8 := n5_
      have jL := n6_
      have jI := n7_
      have j2 := n8_
      have jn := n9_
      have j5 := jN
      have jo := jO
      have j8 := jP
      have jp := jQ
      have jb := jR
      have jq := jS
      clear n0_ n1_ n2_ n3_ n4_ n5_ n6_ n7_ n8_ n9_ jN jO jP jQ jR jS
      clear hb hg
      refine hK.out _ _ ⟨q4, q5, q6, m9_, (.pointer (some ⟨q5, 0, none⟩)), qg, (by rw [ha.out]; exact putSel_upk 10 hb_ rfl rfl rfl), (pk q0), (pk q1), (pk q2), (pk q3), (bnow HB), gm, gk, qR, qO, gp, gn, jE, qm, qj, qp, qB, qs, qC, qv, qD, qy, qE, fun _ _ => (pk q8), fun _ => jL.out, fun _ => jI.out, fun _ => j2.out, fun _ => jn.out, fun _ => j5.out, fun _ => jo.out, fun _ => j8.out, fun _ => jp.out, fun _ => jb.out, fun _ => jq.out, jG, qo, ql, qr, qJ, qu, qK, qx, qL, qA, qM, fun h0_ => absurd ((hoff 12 (by kernel_rfl)).symm.trans h0_) (by decide), fun h0_ => absurd ((hoff 13 (by kernel_rfl)).symm.trans h0_) (by decide), fun h0_ => absurd ((hoff 14 (by kernel_rfl)).symm.trans h0_) (by decide), Q_X9_, fun _ => rfl, Q_X11_⟩
     refine steps_cons ?_ ?_
     ·rintro b a w' ⟨q4, q5, q6, m9_, qf, qg, ha, qa, qb, qc, qd, Q_HB, qP, qN, qR, qO, qS, qQ, qi, qm, qj, qp, qB, qs, qC, qv, qD, qy, qE, qh, qn, qk, qq, qF, qt, qG, qw, qH, qz, qI, qe, qo, ql, qr, qJ, qu, qK, qx, qL, qA, qM, qU, qV, qW, Q_X9_, Q_X10_, Q_X11_⟩ hb_ hon hoff
      refine ⟨_, rfl, fun K hK => ?_⟩
      replace ha := Aside0.mk ha
      have q0 := Aside0.mk qa
      have q1 := Aside0.mk qb
      have q2 := Aside0.mk qc
      have q3 := Aside0.mk qd
      have HB := Aside0.mk Q_HB
      refine box_step ?hg (N := 12) ?hd (cs := #[.int .i64 0, .int .i64 0]) (t := 81) ?hr ?_; (case hd => rfl); (case hg => rfl); (case hr => first | (go_simp; done) | (go_simp; rfl))
      intro q6 hg w90 hbox hb
      have n0_ := bb q0 hb
      have n1_ := bb q1 hb
      have n2_ := bb q2 hb
      have n3_ := bb q3 hb
      have n4_ := bst HB hb
      have n5_ := Aside0.mk (hbox)
      have n6_ := gw hg HB
      have n7_ := gw hg HB
      have n8_ := nlt hg q0
      have n9_ := ngt hg q0
      have jN := nlt hg q1
      have jO := ngt hg q1
      have jP := nlt hg q2
      have jQ := ngt hg q2
      have jR := nlt hg q3
      have jS := ngt hg q3
      have go := fun (h0_ : up b 11 9 = true) (h1_ : up b 11 11 = true) => (show q6 ≠ q4 from (by cases hb_ : b 12 with | false => exact ((by rw [hg]; exact Nat.ne_of_gt (blk_lt (g := q4) (o := .cells #[.int .i64 0, .int .i64 0] 81 (0, 0)) (by (with_reducible repeat (first | refine blk_drewN ?_ _ | refine blk_drew ?_ | refine blk_alloc ?_ _)); exact (qi h0_ hb_))) : q6 ≠ q4)) | true => exact ((by rw [hg]; exact Nat.ne_of_gt (blk_lt (g := q4) (by (with_reducible repeat (first | refine blk_drewN ?_ _ | refine blk_drew ?_ | refine blk_alloc ?_ _)); exact (qU hb_))) : q6 ≠ q4))))
      have gl := fun (h0_ : up b 11 9 = true) (h1_ : up b 11 11 = true) => (show q4 ≠ q6 from (by cases hb_ : b 12 with | false => exact ((by rw [hg]; exact Nat.ne_of_lt (blk_lt (g := q4) (o := .cells #[.int .i64 0, .int .i64 0] 81 (0, 0)) (by (with_reducible repeat (first | refine blk_drewN ?_ _ | refine blk_drew ?_ | refine blk_alloc ?_ _)); exact (qi h0_ hb_))) : q4 ≠ q6)) | true => exact ((by rw [hg]; exact Nat.ne_of_lt (blk_lt (g := q4) (by (with_reducible repeat (first | refine blk_drewN ?_ _ | refine blk_drew ?_ | refine blk_alloc ?_ _)); exact (qU hb_))) : q4 ≠ q6))))
      have gp := fun (h0_ : up b 11 10 = true) (h1_ : up b 11 11 = true) => (show q6 ≠ q5 from (by cases hb_ : b 13 with | false => exact ((by rw [hg]; exact Nat.ne_of_gt (blk_lt (g := q5) (o := .cells #[.int .i64 0, .int .i64 0] 81 (0, 0)) (by (with_reducible repeat (first | refine blk_drewN ?_ _ | refine blk_drew ?_ | refine blk_alloc ?_ _)); exact (qh h0_ hb_))) : q6 ≠ q5)) | true => exact ((by rw [hg]; exact Nat.ne_of_gt (blk_lt (g := q5) (by (with_reducible repeat (first | refine blk_drewN ?_ _ | refine blk_drew ?_ | refine blk_alloc ?_ _)); exact (qV hb_))) : q6 ≠ q5))))
      have gn := fun (h0_ : up b 11 10 = true) (h1_ : up b 11 11 = true) => (show q5 ≠ q6 from (by cases hb_ : b 13 with | false => exact ((by rw [hg]; exact Nat.ne_of_lt (blk_lt (g := q5) (o := .cells #[.int .i64 0, .int .i64 0] 81 (0, 0)) (by (with_reducible repeat (first | refine blk_drewN ?_ _ | refine blk_drew ?_ | refine blk_alloc ?_ _)); exact (qh h0_ hb_))) : q5 ≠ q6)) | true => exact ((by rw [hg]; exact Nat.ne_of_lt (blk_lt (g := q5) (by (with_reducible repeat (first | refine blk_drewN ?_ _ | refine blk_drew ?_ | refine blk_alloc ?_ _)); exact (qV hb_))) : q5 ≠ q6))))
      have jE := fun (h0_ : b 9 = true) (h1_ : b 12 = false) => (show w90.heap[q4]? = some (.cells #[.int .i64 0, .int .i64 0] 81 (0, 0)) from by first | exact (blk_below (g := q4) (o := .cells #[.int .i64 0, .int .i64 0] 81 (0, 0)) (by (with_reducible repeat (first | refine blk_drewN ?_ _ | refine blk_drew ?_ | refine blk_alloc ?_ _)); exact (qi h0_ h1_)) hb))
      have jF := fun (h0_ : b 10 = true) (h1_ : b 13 = false) => (show w90.heap[q5]? = some (.cells #[.int .i64 0, .int .i64 0] 81 (0, 0)) from by first | exact (blk_below (g := q5) (o := .cells #[.int .i64 0, .int .i64 0] 81 (0, 0)) (by (with_reducible repeat (first | refine blk_drewN ?_ _ | refine blk_drew ?_ | refine blk_alloc ?_ _)); exact (qh h0_ h1_)) hb))
      clear q0
      clear q1
      clear q2
      clear q3
      clear HB
      have q0 := n0_
      have q1 := n1_
      have q2 := n2_
      have q3 := n3_
      have HB := n4_
      have q9 := n5_
      have jM := n6_
      have jJ := n7_
      have j3 := n8_
      have jr := n9_
      have j6 := jN
      have js := jO
      have j9 := jP
      have jt := jQ
      have jc := jR
      have ju := jS
      clear n0_ n1_ n2_ n3_ n4_ n5_ n6_ n7_ n8_ n9_ jN jO jP jQ jR jS
      clear hb hg
      refine hK.out _ _ ⟨q4, q5, q6, m9_, qf, (.pointer (some ⟨q6, 0, none⟩)), (by rw [ha.out]; exact putSel_upk 11 hb_ rfl rfl rfl), (pk q0), (pk q1), (pk q2), (pk q3), (bnow HB), qP, qN, go, gl, gp, gn, jE, qm, qj, qp, qB, qs, qC, qv, qD, qy, qE, jF, qn, qk, qq, qF, qt, qG, qw, qH, qz, qI, fun _ _ => (pk q9), fun _ => jM.out, fun _ => jJ.out, fun _ => j3.out, fun _ => jr.out, fun _ => j6.out, fun _ => js.out, fun _ => j9.out, fun _ => jt.out, fun _ => jc.out, fun _ => ju.out, fun h0_ => absurd ((hoff 12 (by kernel_rfl)).symm.trans h0_) (by decide), fun h0_ => absurd ((hoff 13 (by kernel_rfl)).symm.trans h0_) (by decide), fun h0_ => absurd ((hoff 14 (by kernel_rfl)).symm.trans h0_) (by decide), Q_X9_, Q_X10_, fun _ => rfl⟩
     refine steps_cons ?_ ?_
     ·rintro b a w' ⟨q4, q5, q6, m9_, qf, qg, ha, qa, qb, qc, qd, Q_HB, qP, qN, qR, qO, qS, qQ, qi, qm, qj, qp, qB, qs, qC, qv, qD, qy, qE, qh, qn, qk, qq, qF, qt, qG, qw, qH, qz, qI, qe, qo, ql, qr, qJ, qu, qK, qx, qL, qA, qM, qU, qV, qW, Q_X9_, Q_X10_, Q_X11_⟩ hb_ hon hoff
      refine ⟨_, rfl, fun K hK => ?_⟩
      have e10 : a.tmps[10]? = some (m9_) := by rw [ha]; exact putSel_on (e := (9, 10, m9_)) 9 rfl rfl (hon 9 (by kernel_rfl)) rfl
      rw [Q_X9_ (hon 9 (by kernel_rfl))] at e10
      have e37 : a.tmps[37]? = some (.agg #[.int .i64 jA, .int .i64 jT]) := by rw [ha]; exact putSel_on (e := (2, 37, .agg #[.int .i64 jA, .int .i64 jT])) 2 rfl rfl (hon 2 (by kernel_rfl)) rfl
      replace ha := Aside0.mk ha
      have q0 := Aside0.mk qa
      have q1 := Aside0.mk qb
      have q2 := Aside0.mk qc
      have q3 := Aside0.mk qd
      have HB := Aside0.mk Q_HB
      have jf := Aside0.mk (qP (hon 9 (by kernel_rfl)) (hon 10 (by kernel_rfl)))
      have jd := Aside0.mk (qN (hon 9 (by kernel_rfl)) (hon 10 (by kernel_rfl)))
      have jh := Aside0.mk (qR (hon 9 (by kernel_rfl)) (hon 11 (by kernel_rfl)))
      have je := Aside0.mk (qO (hon 9 (by kernel_rfl)) (hon 11 (by kernel_rfl)))
      have ji := Aside0.mk (qS (hon 10 (by kernel_rfl)) (hon 11 (by kernel_rfl)))
      have jg := Aside0.mk (qQ (hon 10 (by kernel_rfl)) (hon 11 (by kernel_rfl)))
      have q7 := Aside0.mk (qi (hon 9 (by kernel_rfl)) hb_)
      have jK := Aside0.mk (qm (hon 9 (by kernel_rfl)))
      have jH := Aside0.mk (qj (hon 9 (by kernel_rfl)))
      have j1 := Aside0.mk (qp (hon 9 (by kernel_rfl)))
      have jj := Aside0.mk (qB (hon 9 (by kernel_rfl)))
      have j4 := Aside0.mk (qs (hon 9 (by kernel_rfl)))
      have jk := Aside0.mk (qC (hon 9 (by kernel_rfl)))
      have j7 := Aside0.mk (qv (hon 9 (by kernel_rfl)))
      have jl := Aside0.mk (qD (hon 9 (by kernel_rfl)))
      have ja := Aside0.mk (qy (hon 9 (by kernel_rfl)))
      have jm := Aside0.mk (qE (hon 9 (by kernel_rfl)))
      have q8 := Aside0.mk (qh (hon 10 (by kernel_rfl)) (hoff 13 (by kernel_rfl)))
      have jL := Aside0.mk (qn (hon 10 (by kernel_rfl)))
      have jI := Aside0.mk (qk (hon 10 (by kernel_rfl)))
      have j2 := Aside0.mk (qq (hon 10 (by kernel_rfl)))
      have jn := Aside0.mk (qF (hon 10 (by kernel_rfl)))
      have j5 := Aside0.mk (qt (hon 10 (by kernel_rfl)))
      have jo := Aside0.mk (qG (hon 10 (by kernel_rfl)))
      have j8 := Aside0.mk (qw (hon 10 (by kernel_rfl)))
      have jp := Aside0.mk (qH (hon 10 (by kernel_rfl)))
      have jb := Aside0.mk (qz (hon 10 (by kernel_rfl)))
      have jq := Aside0.mk (qI (hon 10 (by kernel_rfl)))
      have q9 := Aside0.mk (qe (hon 11 (by kernel_rfl)) (hoff 14 (by kernel_rfl)))
      have jM := Aside0.mk (qo (hon 11 (by kernel_rfl)))
      have jJ := Aside0.mk (ql (hon 11 (by kernel_rfl)))
      have j3 := Aside0.mk (qr (hon 11 (by kernel_rfl)))
      have jr := Aside0.mk (qJ (hon 11 (by kernel_rfl)))
      have j6 := Aside0.mk (qu (hon 11 (by kernel_rfl)))
      have js := Aside0.mk (qK (hon 11 (by kernel_rfl)))
      have j9 := Aside0.mk (qx (hon 11 (by kernel_rfl)))
      have jt := Aside0.mk (qL (hon 11 (by kernel_rfl)))
      have jc := Aside0.mk (qA (hon 11 (by kernel_rfl)))
      have ju := Aside0.mk (qM (hon 11 (by kernel_rfl)))
      have q0F : w'.cell? ⟨q4, 0, none⟩ = some (.int .i64 0) := (blk_cell q7.out 0).trans rfl
      have JD := blk_frozen q7.out 0
      have q0k := j1.out
      have q0l := j4.out
      have q0m := j7.out
      have q0n := ja.out
      have q0o := jf.out
      have q0p := jh.out
      have JY := jj.out
      have JZ := jk.out
      have G0 := jl.out
      have G1 := jm.out
      have G2 := jd.out
      have G3 := je.out
      have q0G : w'.cell? ⟨q4, 1, none⟩ = some (.int .i64 0) := (blk_cell q7.out 1).trans rfl
      have JE := blk_frozen q7.out 1
      have q0q := j1.out
      have q0r := j4.out
      have q0s := j7.out
      have q0t := ja.out
      have q0u := jf.out
      have q0v := jh.out
      have G4 := jj.out
      have G5 := jk.out
      have G6 := jl.out
      have G7 := jm.out
      have G8 := jd.out
      have G9 := je.out
      refine skip_ (w1 := ?_) (by rfl) rfl ?_ ?_
      rotate_left
      ·go_simp
       rfl
      refine hK.out _ _ ⟨q4, q5, q6, m9_, qf, qg, (by rw [ha.out]; exact putSel_none (v := undef) rfl), (by (with_reducible repeat (first | refine blk_drewN ?_ _ | refine blk_drew ?_ | refine blk_alloc ?_ _)); refine blk_far ?_ j1.out _; (with_reducible repeat (first | refine blk_drewN ?_ _ | refine blk_drew ?_ | refine blk_alloc ?_ _)); refine blk_far ?_ j1.out _; (with_reducible repeat (first | refine blk_drewN ?_ _ | refine blk_drew ?_ | refine blk_alloc ?_ _)); exact q0.out), (by (with_reducible repeat (first | refine blk_drewN ?_ _ | refine blk_drew ?_ | refine blk_alloc ?_ _)); refine blk_far ?_ j4.out _; (with_reducible repeat (first | refine blk_drewN ?_ _ | refine blk_drew ?_ | refine blk_alloc ?_ _)); refine blk_far ?_ j4.out _; (with_reducible repeat (first | refine blk_drewN ?_ _ | refine blk_drew ?_ | refine blk_alloc ?_ _)); exact q1.out), (by (with_reducible repeat (first | refine blk_drewN ?_ _ | refine blk_drew ?_ | refine blk_alloc ?_ _)); refine blk_far ?_ j7.out _; (with_reducible repeat (first | refine blk_drewN ?_ _ | refine blk_drew ?_ | refine blk_alloc ?_ _)); refine blk_far ?_ j7.out _; (with_reducible repeat (first | refine blk_drewN ?_ _ | refine blk_drew ?_ | refine blk_alloc ?_ _)); exact q2.out), (by (with_reducible repeat (first | refine blk_drewN ?_ _ | refine blk_drew ?_ | refine blk_alloc ?_ _)); refine blk_far ?_ ja.out _; (with_reducible repeat (first | refine blk_drewN ?_ _ | refine blk_drew ?_ | refine blk_alloc ?_ _)); refine blk_far ?_ ja.out _; (with_reducible repeat (first | refine blk_drewN ?_ _ | refine blk_drew ?_ | refine blk_alloc ?_ _)); exact q3.out), (bnow HB), fun _ _ => jf.out, fun _ _ => jd.out, fun _ _ => jh.out, fun _ _ => je.out, fun _ _ => ji.out, fun _ _ => jg.out, fun _ h1_ => absurd ((up_self b 12).symm.trans h1_) (by decide), fun _ => jK.out, fun _ => jH.out, fun _ => j1.out, fun _ => jj.out, fun _ => j4.out, fun _ => jk.out, fun _ => j7.out, fun _ => jl.out, fun _ => ja.out, fun _ => jm.out, fun _ _ => (by (with_reducible repeat (first | refine blk_drewN ?_ _ | refine blk_drew ?_ | refine blk_alloc ?_ _)); refine blk_far ?_ jf.out _; (with_reducible repeat (first | refine blk_drewN ?_ _ | refine blk_drew ?_ | refine blk_alloc ?_ _)); refine blk_far ?_ jf.out _; (with_reducible repeat (first | refine blk_drewN ?_ _ | refine blk_drew ?_ | refine blk_alloc ?_ _)); exact q8.out), fun _ => jL.out, fun _ => jI.out, fun _ => j2.out, fun _ => jn.out, fun _ => j5.out, fun _ => jo.out, fun _ => j8.out, fun _ => jp.out, fun _ => jb.out, fun _ => jq.out, fun _ _ => (by (with_reducible repeat (first | refine blk_drewN ?_ _ | refine blk_drew ?_ | refine blk_alloc ?_ _)); refine blk_far ?_ jh.out _; (with_reducible repeat (first | refine blk_drewN ?_ _ | refine blk_drew ?_ | refine blk_alloc ?_ _)); refine blk_far ?_ jh.out _; (with_reducible repeat (first | refine blk_drewN ?_ _ | refine blk_drew ?_ | refine blk_alloc ?_ _)); exact q9.out), fun _ => jM.out, fun _ => jJ.out, fun _ => j3.out, fun _ => jr.out, fun _ => j6.out, fun _ => js.out, fun _ => j9.out, fun _ => jt.out, fun _ => jc.out, fun _ => ju.out, fun _ => (by (with_reducible repeat (first | refine blk_drewN ?_ _ | refine blk_drew ?_ | refine blk_alloc ?_ _)); refine blk_put (cs := #[.int .i64 jA, .int .i64 0]) ?_ 1 _ rfl; (with_reducible repeat (first | refine blk_drewN ?_ _ | refine blk_drew ?_ | refine blk_alloc ?_ _)); refine blk_put (cs := #[.int .i64 0, .int .i64 0]) ?_ 0 _ rfl; (with_reducible repeat (first | refine blk_drewN ?_ _ | refine blk_drew ?_ | refine blk_alloc ?_ _)); exact q7.out), fun h0_ => absurd ((hoff 13 (by kernel_rfl)).symm.trans h0_) (by decide), fun h0_ => absurd ((hoff 14 (by kernel_rfl)).symm.trans h0_) (by decide), Q_X9_, Q_X10_, Q_X11_⟩
     refine steps_cons ?_ ?_
     ·rintro b a w' ⟨q4, q5, q6, m9_, qf, qg, ha, qa, qb, qc, qd, Q_HB, qP, qN, qR, qO, qS, qQ, qi, qm, qj, qp, qB, qs, qC, qv, qD, qy, qE, qh, qn, qk, qq, qF, qt, qG, qw, qH, qz, qI, qe, qo, ql, qr, qJ, qu, qK, qx, qL, qA, qM, qU, qV, qW, Q_X9_, Q_X10_, Q_X11_⟩ hb_ hon hoff
      refine ⟨_, rfl, fun K hK => ?_⟩
      have e11 : a.tmps[11]? = some (qf) := by rw [ha]; exact putSel_on (e := (10, 11, qf)) 10 rfl rfl (hon 10 (by kernel_rfl)) rfl
      rw [Q_X10_ (hon 10 (by kernel_rfl))] at e11
      have e40 : a.tmps[40]? = some (.agg #[.int .i64 jB, .int .i64 jU]) := by rw [ha]; exact putSel_on (e := (5, 40, .agg #[.int .i64 jB, .int .i64 jU])) 5 rfl rfl (hon 5 (by kernel_rfl)) rfl
      replace ha := Aside0.mk ha
      have q0 := Aside0.mk qa
      have q1 := Aside0.mk qb
      have q2 := Aside0.mk qc
      have q3 := Aside0.mk qd
      have HB := Aside0.mk Q_HB
      have jf := Aside0.mk (qP (hon 9 (by kernel_rfl)) (hon 10 (by kernel_rfl)))
      have jd := Aside0.mk (qN (hon 9 (by kernel_rfl)) (hon 10 (by kernel_rfl)))
      have jh := Aside0.mk (qR (hon 9 (by kernel_rfl)) (hon 11 (by kernel_rfl)))
      have je := Aside0.mk (qO (hon 9 (by kernel_rfl)) (hon 11 (by kernel_rfl)))
      have ji := Aside0.mk (qS (hon 10 (by kernel_rfl)) (hon 11 (by kernel_rfl)))
      have jg := Aside0.mk (qQ (hon 10 (by kernel_rfl)) (hon 11 (by kernel_rfl)))
      have jK := Aside0.mk (qm (hon 9 (by kernel_rfl)))
      have jH := Aside0.mk (qj (hon 9 (by kernel_rfl)))
      have j1 := Aside0.mk (qp (hon 9 (by kernel_rfl)))
      have jj := Aside0.mk (qB (hon 9 (by kernel_rfl)))
      have j4 := Aside0.mk (qs (hon 9 (by kernel_rfl)))
      have jk := Aside0.mk (qC (hon 9 (by kernel_rfl)))
      have j7 := Aside0.mk (qv (hon 9 (by kernel_rfl)))
      have jl := Aside0.mk (qD (hon 9 (by kernel_rfl)))
      have ja := Aside0.mk (qy (hon 9 (by kernel_rfl)))
      have jm := Aside0.mk (qE (hon 9 (by kernel_rfl)))
      have q8 := Aside0.mk (qh (hon 10 (by kernel_rfl)) hb_)
      have jL := Aside0.mk (qn (hon 10 (by kernel_rfl)))
      have jI := Aside0.mk (qk (hon 10 (by kernel_rfl)))
      have j2 := Aside0.mk (qq (hon 10 (by kernel_rfl)))
      have jn := Aside0.mk (qF (hon 10 (by kernel_rfl)))
      have j5 := Aside0.mk (qt (hon 10 (by kernel_rfl)))
      have jo := Aside0.mk (qG (hon 10 (by kernel_rfl)))
      have j8 := Aside0.mk (qw (hon 10 (by kernel_rfl)))
      have jp := Aside0.mk (qH (hon 10 (by kernel_rfl)))
      have jb := Aside0.mk (qz (hon 10 (by kernel_rfl)))
      have jq := Aside0.mk (qI (hon 10 (by kernel_rfl)))
      have q9 := Aside0.mk (qe (hon 11 (by kernel_rfl)) (hoff 14 (by kernel_rfl)))
      have jM := Aside0.mk (qo (hon 11 (by kernel_rfl)))
      have jJ := Aside0.mk (ql (hon 11 (by kernel_rfl)))
      have j3 := Aside0.mk (qr (hon 11 (by kernel_rfl)))
      have jr := Aside0.mk (qJ (hon 11 (by kernel_rfl)))
      have j6 := Aside0.mk (qu (hon 11 (by kernel_rfl)))
      have js := Aside0.mk (qK (hon 11 (by kernel_rfl)))
      have j9 := Aside0.mk (qx (hon 11 (by kernel_rfl)))
      have jt := Aside0.mk (qL (hon 11 (by kernel_rfl)))
      have jc := Aside0.mk (qA (hon 11 (by kernel_rfl)))
      have ju := Aside0.mk (qM (hon 11 (by kernel_rfl)))
      have q7 := Aside0.mk (qU (hon 12 (by kernel_rfl)))
      have q0H : w'.cell? ⟨q5, 0, none⟩ = some (.int .i64 0) := (blk_cell q8.out 0).trans rfl
      have JF := blk_frozen q8.out 0
      have q0w := j2.out
      have q0x := j5.out
      have q0y := j8.out
      have q0z := jb.out
      have q0A := jd.out
      have q0B := ji.out
      have Ga := jn.out
      have Gb := jo.out
      have Gc := jp.out
      have Gd := jq.out
      have Ge := jf.out
      have Gf := jg.out
      have q0C : w'.cell? ⟨q5, 1, none⟩ = some (.int .i64 0) := (blk_cell q8.out 1).trans rfl
      have JA := blk_frozen q8.out 1
      have q02 := j2.out
      have q03 := j5.out
      have q04 := j8.out
      have q05 := jb.out
      have q06 := jd.out
      have q07 := ji.out
      have JG := jn.out
      have JH := jo.out
      have JI := jp.out
      have JJ := jq.out
      have JK := jf.out
      have JL := jg.out
      refine skip_ (w1 := ?_) (by rfl) rfl ?_ ?_
      rotate_left
      ·go_simp
       rfl
      refine hK.out _ _ ⟨q4, q5, q6, m9_, qf, qg, (by rw [ha.out]; exact putSel_none (v := undef) rfl), (by (with_reducible repeat (first | refine blk_drewN ?_ _ | refine blk_drew ?_ | refine blk_alloc ?_ _)); refine blk_far ?_ j2.out _; (with_reducible repeat (first | refine blk_drewN ?_ _ | refine blk_drew ?_ | refine blk_alloc ?_ _)); refine blk_far ?_ j2.out _; (with_reducible repeat (first | refine blk_drewN ?_ _ | refine blk_drew ?_ | refine blk_alloc ?_ _)); exact q0.out), (by (with_reducible repeat (first | refine blk_drewN ?_ _ | refine blk_drew ?_ | refine blk_alloc ?_ _)); refine blk_far ?_ j5.out _; (with_reducible repeat (first | refine blk_drewN ?_ _ | refine blk_drew ?_ | refine blk_alloc ?_ _)); refine blk_far ?_ j5.out _; (with_reducible repeat (first | refine blk_drewN ?_ _ | refine blk_drew ?_ | refine blk_alloc ?_ _)); exact q1.out), (by (with_reducible repeat (first | refine blk_drewN ?_ _ | refine blk_drew ?_ | refine blk_alloc ?_ _)); refine blk_far ?_ j8.out _; (with_reducible repeat (first | refine blk_drewN ?_ _ | refine blk_drew ?_ | refine blk_alloc ?_ _)); refine blk_far ?_ j8.out _; (with_reducible repeat (first | refine blk_drewN ?_ _ | refine blk_drew ?_ | refine blk_alloc ?_ _)); exact q2.out), (by (with_reducible repeat (first | refine blk_drewN ?_ _ | refine blk_drew ?_ | refine blk_alloc ?_ _)); refine blk_far ?_ jb.out _; (with_reducible repeat (first | refine blk_drewN ?_ _ | refine blk_drew ?_ | refine blk_alloc ?_ _)); refine blk_far ?_ jb.out _; (with_reducible repeat (first | refine blk_drewN ?_ _ | refine blk_drew ?_ | refine blk_alloc ?_ _)); exact q3.out), (bnow HB), fun _ _ => jf.out, fun _ _ => jd.out, fun _ _ => jh.out, fun _ _ => je.out, fun _ _ => ji.out, fun _ _ => jg.out, fun _ h1_ => absurd ((hon 12 (by kernel_rfl)).symm.trans h1_) (by decide), fun _ => jK.out, fun _ => jH.out, fun _ => j1.out, fun _ => jj.out, fun _ => j4.out, fun _ => jk.out, fun _ => j7.out, fun _ => jl.out, fun _ => ja.out, fun _ => jm.out, fun _ h1_ => absurd ((up_self b 13).symm.trans h1_) (by decide), fun _ => jL.out, fun _ => jI.out, fun _ => j2.out, fun _ => jn.out, fun _ => j5.out, fun _ => jo.out, fun _ => j8.out, fun _ => jp.out, fun _ => jb.out, fun _ => jq.out, fun _ _ => (by (with_reducible repeat (first | refine blk_drewN ?_ _ | refine blk_drew ?_ | refine blk_alloc ?_ _)); refine blk_far ?_ ji.out _; (with_reducible repeat (first | refine blk_drewN ?_ _ | refine blk_drew ?_ | refine blk_alloc ?_ _)); refine blk_far ?_ ji.out _; (with_reducible repeat (first | refine blk_drewN ?_ _ | refine blk_drew ?_ | refine blk_alloc ?_ _)); exact q9.out), fun _ => jM.out, fun _ => jJ.out, fun _ => j3.out, fun _ => jr.out, fun _ => j6.out, fun _ => js.out, fun _ => j9.out, fun _ => jt.out, fun _ => jc.out, fun _ => ju.out, fun _ => (by (with_reducible repeat (first | refine blk_drewN ?_ _ | refine blk_drew ?_ | refine blk_alloc ?_ _)); refine blk_far ?_ jd.out _; (with_reducible repeat (first | refine blk_drewN ?_ _ | refine blk_drew ?_ | refine blk_alloc ?_ _)); refine blk_far ?_ jd.out _; (with_reducible repeat (first | refine blk_drewN ?_ _ | refine blk_drew ?_ | refine blk_alloc ?_ _)); exact q7.out), fun _ => (by (with_reducible repeat (first | refine blk_drewN ?_ _ | refine blk_drew ?_ | refine blk_alloc ?_ _)); refine blk_put (cs := #[.int .i64 jB, .int .i64 0]) ?_ 1 _ rfl; (with_reducible repeat (first | refine blk_drewN ?_ _ | refine blk_drew ?_ | refine blk_alloc ?_ _)); refine blk_put (cs := #[.int .i64 0, .int .i64 0]) ?_ 0 _ rfl; (with_reducible repeat (first | refine blk_drewN ?_ _ | refine blk_drew ?_ | refine blk_alloc ?_ _)); exact q8.out), fun h0_ => absurd ((hoff 14 (by kernel_rfl)).symm.trans h0_) (by decide), Q_X9_, Q_X10_, Q_X11_⟩
     refine steps_cons ?_ ?_
     ·rintro b a w' ⟨q4, q5, q6, m9_, qf, qg, ha, qa, qb, qc, qd, Q_HB, qP, qN, qR, qO, qS, qQ, qi, qm, qj, qp, qB, qs, qC, qv, qD, qy, qE, qh, qn, qk, qq, qF, qt, qG, qw, qH, qz, qI, qe, qo, ql, qr, qJ, qu, qK, qx, qL, qA, qM, qU, qV, qW, Q_X9_, Q_X10_, Q_X11_⟩ hb_ hon hoff
      refine ⟨_, rfl, fun K hK => ?_⟩
      have e12 : a.tmps[12]? = some (qg) := by rw [ha]; exact putSel_on (e := (11, 12, qg)) 11 rfl rfl (hon 11 (by kernel_rfl)) rfl
      rw [Q_X11_ (hon 11 (by kernel_rfl))] at e12
      have e43 : a.tmps[43]? = some (.agg #[.int .i64 jC, .int .i64 jV]) := by rw [ha]; exact putSel_on (e := (8, 43, .agg #[.int .i64 jC, .int .i64 jV])) 8 rfl rfl (hon 8 (by kernel_rfl)) rfl
      replace ha := Aside0.mk ha
      have q0 := Aside0.mk qa
      have q1 := Aside0.mk qb
      have q2 := Aside0.mk qc
      have q3 := Aside0.mk qd
      have HB := Aside0.mk Q_HB
      have jf := Aside0.mk (qP (hon 9 (by kernel_rfl)) (hon 10 (by kernel_rfl)))
      have jd := Aside0.mk (qN (hon 9 (by kernel_rfl)) (hon 10 (by kernel_rfl)))
      have jh := Aside0.mk (qR (hon 9 (by kernel_rfl)) (hon 11 (by kernel_rfl)))
      have je := Aside0.mk (qO (hon 9 (by kernel_rfl)) (hon 11 (by kernel_rfl)))
      have ji := Aside0.mk (qS (hon 10 (by kernel_rfl)) (hon 11 (by kernel_rfl)))
      have jg := Aside0.mk (qQ (hon 10 (by kernel_rfl)) (hon 11 (by kernel_rfl)))
      have jK := Aside0.mk (qm (hon 9 (by kernel_rfl)))
      have jH := Aside0.mk (qj (hon 9 (by kernel_rfl)))
      have j1 := Aside0.mk (qp (hon 9 (by kernel_rfl)))
      have jj := Aside0.mk (qB (hon 9 (by kernel_rfl)))
      have j4 := Aside0.mk (qs (hon 9 (by kernel_rfl)))
      have jk := Aside0.mk (qC (hon 9 (by kernel_rfl)))
      have j7 := Aside0.mk (qv (hon 9 (by kernel_rfl)))
      have jl := Aside0.mk (qD (hon 9 (by kernel_rfl)))
      have ja := Aside0.mk (qy (hon 9 (by kernel_rfl)))
      have jm := Aside0.mk (qE (hon 9 (by kernel_rfl)))
      have jL := Aside0.mk (qn (hon 10 (by kernel_rfl)))
      have jI := Aside0.mk (qk (hon 10 (by kernel_rfl)))
      have j2 := Aside0.mk (qq (hon 10 (by kernel_rfl)))
      have jn := Aside0.mk (qF (hon 10 (by kernel_rfl)))
      have j5 := Aside0.mk (qt (hon 10 (by kernel_rfl)))
      have jo := Aside0.mk (qG (hon 10 (by kernel_rfl)))
      have j8 := Aside0.mk (qw (hon 10 (by kernel_rfl)))
      have jp := Aside0.mk (qH (hon 10 (by kernel_rfl)))
      have jb := Aside0.mk (qz (hon 10 (by kernel_rfl)))
      have jq := Aside0.mk (qI (hon 10 (by kernel_rfl)))
      have q9 := Aside0.mk (qe (hon 11 (by kernel_rfl)) hb_)
      have jM := Aside0.mk (qo (hon 11 (by kernel_rfl)))
      have jJ := Aside0.mk (ql (hon 11 (by kernel_rfl)))
      have j3 := Aside0.mk (qr (hon 11 (by kernel_rfl)))
      have jr := Aside0.mk (qJ (hon 11 (by kernel_rfl)))
      have j6 := Aside0.mk (qu (hon 11 (by kernel_rfl)))
      have js := Aside0.mk (qK (hon 11 (by kernel_rfl)))
      have j9 := Aside0.mk (qx (hon 11 (by kernel_rfl)))
      have jt := Aside0.mk (qL (hon 11 (by kernel_rfl)))
      have jc := Aside0.mk (qA (hon 11 (by kernel_rfl)))
      have ju := Aside0.mk (qM (hon 11 (by kernel_rfl)))
      have q7 := Aside0.mk (qU (hon 12 (by kernel_rfl)))
      have q8 := Aside0.mk (qV (hon 13 (by kernel_rfl)))
      have q0D : w'.cell? ⟨q6, 0, none⟩ = some (.int .i64 0) := (blk_cell q9.out 0).trans rfl
      have JB := blk_frozen q9.out 0
      have q08 := j3.out
      have q09 := j6.out
      have q0a := j9.out
      have q0b := jc.out
      have q0c := je.out
      have q0d := jg.out
      have JM := jr.out
      have JN := js.out
      have JO := jt.out
      have JP := ju.out
      have JQ := jh.out
      have JR := ji.out
      have q0E : w'.cell? ⟨q6, 1, none⟩ = some (.int .i64 0) := (blk_cell q9.out 1).trans rfl
      have JC := blk_frozen q9.out 1
      have q0e := j3.out
      have q0f := j6.out
      have q0g := j9.out
      have q0h := jc.out
      have q0i := je.out
      have q0j := jg.out
      have JS := jr.out
      have JT := js.out
      have JU := jt.out
      have JV := ju.out
      have JW := jh.out
      have JX := ji.out
      refine skip_ (w1 := ?_) (by rfl) rfl ?_ ?_
      rotate_left
      ·go_simp
       rfl
      refine hK.out _ _ ⟨q4, q5, q6, m9_, qf, qg, (by rw [ha.out]; exact putSel_none (v := undef) rfl), (by (with_reducible repeat (first | refine blk_drewN ?_ _ | refine blk_drew ?_ | refine blk_alloc ?_ _)); refine blk_far ?_ j3.out _; (with_reducible repeat (first | refine blk_drewN ?_ _ | refine blk_drew ?_ | refine blk_alloc ?_ _)); refine blk_far ?_ j3.out _; (with_reducible repeat (first | refine blk_drewN ?_ _ | refine blk_drew ?_ | refine blk_alloc ?_ _)); exact q0.out), (by (with_reducible repeat (first | refine blk_drewN ?_ _ | refine blk_drew ?_ | refine blk_alloc ?_ _)); refine blk_far ?_ j6.out _; (with_reducible repeat (first | refine blk_drewN ?_ _ | refine blk_drew ?_ | refine blk_alloc ?_ _)); refine blk_far ?_ j6.out _; (with_reducible repeat (first | refine blk_drewN ?_ _ | refine blk_drew ?_ | refine blk_alloc ?_ _)); exact q1.out), (by (with_reducible repeat (first | refine blk_drewN ?_ _ | refine blk_drew ?_ | refine blk_alloc ?_ _)); refine blk_far ?_ j9.out _; (with_reducible repeat (first | refine blk_drewN ?_ _ | refine blk_drew ?_ | refine blk_alloc ?_ _)); refine blk_far ?_ j9.out _; (with_reducible repeat (first | refine blk_drewN ?_ _ | refine blk_drew ?_ | refine blk_alloc ?_ _)); exact q2.out), (by (with_reducible repeat (first | refine blk_drewN ?_ _ | refine blk_drew ?_ | refine blk_alloc ?_ _)); refine blk_far ?_ jc.out _; (with_reducible repeat (first | refine blk_drewN ?_ _ | refine blk_drew ?_ | refine blk_alloc ?_ _)); refine blk_far ?_ jc.out _; (with_reducible repeat (first | refine blk_drewN ?_ _ | refine blk_drew ?_ | refine blk_alloc ?_ _)); exact q3.out), (bnow HB), fun _ _ => jf.out, fun _ _ => jd.out, fun _ _ => jh.out, fun _ _ => je.out, fun _ _ => ji.out, fun _ _ => jg.out, fun _ h1_ => absurd ((hon 12 (by kernel_rfl)).symm.trans h1_) (by decide), fun _ => jK.out, fun _ => jH.out, fun _ => j1.out, fun _ => jj.out, fun _ => j4.out, fun _ => jk.out, fun _ => j7.out, fun _ => jl.out, fun _ => ja.out, fun _ => jm.out, fun _ h1_ => absurd ((hon 13 (by kernel_rfl)).symm.trans h1_) (by decide), fun _ => jL.out, fun _ => jI.out, fun _ => j2.out, fun _ => jn.out, fun _ => j5.out, fun _ => jo.out, fun _ => j8.out, fun _ => jp.out, fun _ => jb.out, fun _ => jq.out, fun _ h1_ => absurd ((up_self b 14).symm.trans h1_) (by decide), fun _ => jM.out, fun _ => jJ.out, fun _ => j3.out, fun _ => jr.out, fun _ => j6.out, fun _ => js.out, fun _ => j9.out, fun _ => jt.out, fun _ => jc.out, fun _ => ju.out, fun _ => (by (with_reducible repeat (first | refine blk_drewN ?_ _ | refine blk_drew ?_ | refine blk_alloc ?_ _)); refine blk_far ?_ je.out _; (with_reducible repeat (first | refine blk_drewN ?_ _ | refine blk_drew ?_ | refine blk_alloc ?_ _)); refine blk_far ?_ je.out _; (with_reducible repeat (first | refine blk_drewN ?_ _ | refine blk_drew ?_ | refine blk_alloc ?_ _)); exact q7.out), fun _ => (by (with_reducible repeat (first | refine blk_drewN ?_ _ | refine blk_drew ?_ | refine blk_alloc ?_ _)); refine blk_far ?_ jg.out _; (with_reducible repeat (first | refine blk_drewN ?_ _ | refine blk_drew ?_ | refine blk_alloc ?_ _)); refine blk_far ?_ jg.out _; (with_reducible repeat (first | refine blk_drewN ?_ _ | refine blk_drew ?_ | refine blk_alloc ?_ _)); exact q8.out), fun _ => (by (with_reducible repeat (first | refine blk_drewN ?_ _ | refine blk_drew ?_ | refine blk_alloc ?_ _)); refine blk_put (cs := #[.int .i64 jC, .int .i64 0]) ?_ 1 _ rfl; (with_reducible repeat (first | refine blk_drewN ?_ _ | refine blk_drew ?_ | refine blk_alloc ?_ _)); refine blk_put (cs := #[.int .i64 0, .int .i64 0]) ?_ 0 _ rfl; (with_reducible repeat (first | refine blk_drewN ?_ _ | refine blk_drew ?_ | refine blk_alloc ?_ _)); exact q9.out), Q_X9_, Q_X10_, Q_X11_⟩
     exact steps_nil
    rintro b a Jn hall ⟨q4, q5, q6, m9_, qf, qg, ha, qa, qb, qc, qd, Q_HB, qP, qN, qR, qO, qS, qQ, qi, qm, qj, qp, qB, qs, qC, qv, qD, qy, qE, qh, qn, qk, qq, qF, qt, qG, qw, qH, qz, qI, qe, qo, ql, qr, qJ, qu, qK, qx, qL, qA, qM, qU, qV, qW, Q_X9_, Q_X10_, Q_X11_⟩
    clear q0 q1 q2 q3 HB
    have hb0_ := hall 0 (by kernel_rfl)
    have hb1_ := hall 1 (by kernel_rfl)
    have hb2_ := hall 2 (by kernel_rfl)
    have hb3_ := hall 3 (by kernel_rfl)
    have hb4_ := hall 4 (by kernel_rfl)
    have hb5_ := hall 5 (by kernel_rfl)
    have hb6_ := hall 6 (by kernel_rfl)
    have hb7_ := hall 7 (by kernel_rfl)
    have hb8_ := hall 8 (by kernel_rfl)
    have hb9_ := hall 9 (by kernel_rfl)
    have hb10_ := hall 10 (by kernel_rfl)
    have hb11_ := hall 11 (by kernel_rfl)
    have hb12_ := hall 12 (by kernel_rfl)
    have hb13_ := hall 13 (by kernel_rfl)
    have hb14_ := hall 14 (by kernel_rfl)
    subst ha
    obtain rfl := Q_X9_ hb9_
    obtain rfl := Q_X10_ hb10_
    obtain rfl := Q_X11_ hb11_
    simp only [putSel, hb0_, hb1_, hb2_, hb3_, hb4_, hb5_, hb6_, hb7_, hb8_, hb9_, hb10_, hb11_, hb12_, hb13_, hb14_, if_true, Act.put, List.setIfInBounds_toArray, List.set_cons_zero, List.set_cons_succ]
    have q0 := Aside0.mk qa
    clear qa
    have q1 := Aside0.mk qb
    clear qb
    have q2 := Aside0.mk qc
    clear qc
    have q3 := Aside0.mk qd
    clear qd
    have HB := Aside0.mk Q_HB
    clear Q_HB
    have jf := Aside0.mk (qP hb9_ hb10_)
    clear qP
    have jd := Aside0.mk (qN hb9_ hb10_)
    clear qN
    have jh := Aside0.mk (qR hb9_ hb11_)
    clear qR
    have je := Aside0.mk (qO hb9_ hb11_)
    clear qO
    have ji := Aside0.mk (qS hb10_ hb11_)
    clear qS
    have jg := Aside0.mk (qQ hb10_ hb11_)
    clear qQ
    clear qi
    have jK := Aside0.mk (qm hb9_)
    clear qm
    have jH := Aside0.mk (qj hb9_)
    clear qj
    have j1 := Aside0.mk (qp hb9_)
    clear qp
    have jj := Aside0.mk (qB hb9_)
    clear qB
    have j4 := Aside0.mk (qs hb9_)
    clear qs
    have jk := Aside0.mk (qC hb9_)
    clear qC
    have j7 := Aside0.mk (qv hb9_)
    clear qv
    have jl := Aside0.mk (qD hb9_)
    clear qD
    have ja := Aside0.mk (qy hb9_)
    clear qy
    have jm := Aside0.mk (qE hb9_)
    clear qE
    clear qh
    have jL := Aside0.mk (qn hb10_)
    clear qn
    have jI := Aside0.mk (qk hb10_)
    clear qk
    have j2 := Aside0.mk (qq hb10_)
    clear qq
    have jn := Aside0.mk (qF hb10_)
    clear qF
    have j5 := Aside0.mk (qt hb10_)
    clear qt
    have jo := Aside0.mk (qG hb10_)
    clear qG
    have j8 := Aside0.mk (qw hb10_)
    clear qw
    have jp := Aside0.mk (qH hb10_)
    clear qH
    have jb := Aside0.mk (qz hb10_)
    clear qz
    have jq := Aside0.mk (qI hb10_)
    clear qI
    clear qe
    have jM := Aside0.mk (qo hb11_)
    clear qo
    have jJ := Aside0.mk (ql hb11_)
    clear ql
    have j3 := Aside0.mk (qr hb11_)
    clear qr
    have jr := Aside0.mk (qJ hb11_)
    clear qJ
    have j6 := Aside0.mk (qu hb11_)
    clear qu
    have js := Aside0.mk (qK hb11_)
    clear qK
    have j9 := Aside0.mk (qx hb11_)
    clear qx
    have jt := Aside0.mk (qL hb11_)
    clear qL
    have jc := Aside0.mk (qA hb11_)
    clear qA
    have ju := Aside0.mk (qM hb11_)
    clear qM
    have q7 := Aside0.mk (qU hb12_)
    clear qU
    have q8 := Aside0.mk (qV hb13_)
    clear qV
    have q9 := Aside0.mk (qW hb14_)
    clear qW
    clear hall hb0_ hb1_ hb2_ hb3_ hb4_ hb5_ hb6_ hb7_ hb8_ hb9_ hb10_ hb11_ hb12_ hb13_ hb14_
    try go_wp2
    replace q0 := bd q0
    replace q1 := bd q1
    replace q2 := bd q2
    replace q3 := bd q3
    replace q7 := bd q7
    replace q8 := bd q8
    replace q9 := bd q9
    replace HB := bdn HB
    refine start_ (n := 15) (S := fun w' => w'.cell? ⟨q4, 0, none⟩ = some (.int .i64 jA) ∧ w'.cell? ⟨q4, 1, none⟩ = some (.int .i64 jT) ∧ w'.cell? ⟨q5, 0, none⟩ = some (.int .i64 jB) ∧ w'.cell? ⟨q5, 1, none⟩ = some (.int .i64 jU) ∧ w'.cell? ⟨q6, 0, none⟩ = some (.int .i64 jC) ∧ w'.cell? ⟨q6, 1, none⟩ = some (.int .i64 jV)) (ds := []) #[false, false, false, false, false, false, false, false, false, false, false, false, false, false, false] (by kernel_rfl) rfl rfl ⟨(blk_cell q7.out 0).trans rfl, (blk_cell q7.out 1).trans rfl, (blk_cell q8.out 0).trans rfl, (blk_cell q8.out 1).trans rfl, (blk_cell q9.out 0).trans rfl, (blk_cell q9.out 1).trans rfl⟩ (fun hHeld => ?_); refine with_tabW grids_Turn.tab4 grids_Turn.bits4 (fun HT_ HW_ => ?_)
    generalize Jn.drew = q0I at q0 q1 q2 q3 q7 q8 q9 HB hHeld ⊢
    refine tz 0 44 HT_ HW_ hHeld ?_
    refine tz 1 45 HT_ HW_ hHeld ?_
    refine tz 3 47 HT_ HW_ hHeld ?_
    refine tz 4 48 HT_ HW_ hHeld ?_
    refine tz 7 51 HT_ HW_ hHeld ?_
    refine tz 8 52 HT_ HW_ hHeld ?_
    refine one_ (i := 2) (N := some 46) #[true, true, true, true, true, false, false, true, true, false, false, false, false, false, false] rfl rfl (one_of HT_.out (by kernel_rfl)) (by decide) (fun K hK => ?_)
    refine gs _ Try.func53 (grids_step_half.calls kj4 jA jT jB jU jZ _ A83.out) ?_
    rintro e q0J ⟨rfl, hb⟩
    refine ⟨_, rfl, ?_⟩
    replace q0 := bb q0 hb
    replace q1 := bb q1 hb
    replace q2 := bb q2 hb
    replace q3 := bb q3 hb
    replace q7 := bb q7 hb
    replace q8 := bb q8 hb
    replace q9 := bb q9 hb
    replace HB := bst HB hb
    (try clear hb)
    (try clear hb2)
    (try clear hk)
    (try clear hi)
    refine hK.out _ _ ⟨(blk_cell q7.out 0).trans rfl, (blk_cell q7.out 1).trans rfl, (blk_cell q8.out 0).trans rfl, (blk_cell q8.out 1).trans rfl, (blk_cell q9.out 0).trans rfl, (blk_cell q9.out 1).trans rfl⟩ (fun hHeld => ?_)
    clear hK K
    refine norm_ (a' := ?_) ?_ ?_
    rotate_left
    ·show Act.put _ (some 46) _ = _
     simp only [Act.put, List.setIfInBounds_toArray, List.set_cons_zero, List.set_cons_succ, i64_w, i32_w]
     rfl
    refine one_ (i := 5) (N := some 49) #[true, true, true, true, true, true, false, true, true, false, false, false, false, false, false] rfl rfl (one_of HT_.out (by kernel_rfl)) (by decide) (fun K hK => ?_)
    refine gs _ Try.func53 (grids_step_half.calls kj4 jA jT jC jV g0 _ A84.out) ?_
    rintro e q0K ⟨rfl, hb⟩
    refine ⟨_, rfl, ?_⟩
    replace q0 := bb q0 hb
    replace q1 := bb q1 hb
    replace q2 := bb q2 hb
    replace q3 := bb q3 hb
    replace q7 := bb q7 hb
    replace q8 := bb q8 hb
    replace q9 := bb q9 hb
    replace HB := bst HB hb
    (try clear hb)
    (try clear hb2)
    (try clear hk)
    (try clear hi)
    refine hK.out _ _ ⟨(blk_cell q7.out 0).trans rfl, (blk_cell q7.out 1).trans rfl, (blk_cell q8.out 0).trans rfl, (blk_cell q8.out 1).trans rfl, (blk_cell q9.out 0).trans rfl, (blk_cell q9.out 1).trans rfl⟩ (fun hHeld => ?_)
    clear hK K
    refine norm_ (a' := ?_) ?_ ?_
    rotate_left
    ·show Act.put _ (some 49) _ = _
     simp only [Act.put, List.setIfInBounds_toArray, List.set_cons_zero, List.set_cons_succ, i64_w, i32_w]
     rfl
    refine one_ (i := 6) (N := some 50) #[true, true, true, true, true, true, true, true, true, false, false, false, false, false, false] rfl rfl (one_of HT_.out (by kernel_rfl)) (by decide) (fun K hK => ?_)
    refine gs _ Try.func52 (cmp_Compare_int.calls jZ g0 jv _ A85.out) ?_
    rintro e w' ⟨rfl, ⟨nd, rfl⟩⟩
    refine ⟨_, rfl, ?_⟩
    refine hK.out _ _ ⟨(blk_cell q7.out 0).trans rfl, (blk_cell q7.out 1).trans rfl, (blk_cell q8.out 0).trans rfl, (blk_cell q8.out 1).trans rfl, (blk_cell q9.out 0).trans rfl, (blk_cell q9.out 1).trans rfl⟩ (fun hHeld => ?_)
    clear hK K
    refine norm_ (a' := ?_) ?_ ?_
    rotate_left
    ·show Act.put _ (some 50) _ = _
     simp only [Act.put, List.setIfInBounds_toArray, List.set_cons_zero, List.set_cons_succ, i64_w, i32_w]
     rfl
    refine one_ (i := 9) (N := some 53) #[true, true, true, true, true, true, true, true, true, true, false, false, false, false, false] rfl rfl (one_of HT_.out (by kernel_rfl)) (by decide) (fun K hK => ?_)
    refine gs _ Try.func55 (grids_step_cross.calls jB jU jC jV g1 _ A86.out) ?_
    rintro e q0L ⟨rfl, hb⟩
    refine ⟨_, rfl, ?_⟩
    replace q0 := bb q0 hb
    replace q1 := bb q1 hb
    replace q2 := bb q2 hb
    replace q3 := bb q3 hb
    replace q7 := bb q7 hb
    replace q8 := bb q8 hb
    replace q9 := bb q9 hb
    replace HB := bst HB hb
    (try clear hb)
    (try clear hb2)
    (try clear hk)
    (try clear hi)
    refine hK.out _ _ ⟨(blk_cell q7.out 0).trans rfl, (blk_cell q7.out 1).trans rfl, (blk_cell q8.out 0).trans rfl, (blk_cell q8.out 1).trans rfl, (blk_cell q9.out 0).trans rfl, (blk_cell q9.out 1).trans rfl⟩ (fun hHeld => ?_)
    clear hK K
    refine norm_ (a' := ?_) ?_ ?_
    rotate_left
    ·show Act.put _ (some 53) _ = _
     simp only [Act.put, List.setIfInBounds_toArray, List.set_cons_zero, List.set_cons_succ, i64_w, i32_w]
     rfl
    refine one_ (i := 10) (N := some 54) #[true, true, true, true, true, true, true, true, true, true, true, false, false, false, false] rfl rfl (one_of HT_.out (by kernel_rfl)) (by decide) (fun K hK => ?_)
    refine gs _ Try.func54 (cmp_Compare_int64.calls 0 g1 jw _ A87.out) ?_
    rintro e w' ⟨rfl, ⟨nd, rfl⟩⟩
    refine ⟨_, rfl, ?_⟩
    refine hK.out _ _ ⟨(blk_cell q7.out 0).trans rfl, (blk_cell q7.out 1).trans rfl, (blk_cell q8.out 0).trans rfl, (blk_cell q8.out 1).trans rfl, (blk_cell q9.out 0).trans rfl, (blk_cell q9.out 1).trans rfl⟩ (fun hHeld => ?_)
    clear hK K
    refine norm_ (a' := ?_) ?_ ?_
    rotate_left
    ·show Act.put _ (some 54) _ = _
     simp only [Act.put, List.setIfInBounds_toArray, List.set_cons_zero, List.set_cons_succ, i64_w, i32_w]
     rfl
    refine one_ (i := 11) (N := some 55) #[true, true, true, true, true, true, true, true, true, true, true, true, false, false, false] rfl rfl (one_of HT_.out (by kernel_rfl)) (by decide) (fun K hK => ?_)
    refine Kd.R_lit_step (Kd.int .i64) _ 3 ?hg (N := 55) ?hd (xs := ([jv, jw] : List Int)) (inner := [.int .i64 jv, .int .i64 jw]) (ok := fun _ => True) (okp := fun _ => True) ?hr ?hp (fun _ hk => hk) trivial (Below.refl _ _) (Nat.le_refl _) (by simp) ?_; (case hd => rfl); (case hg => rfl); (case hr => first | (go_simp; done) | (go_simp; rfl)); (case hp => exact (Reps.one (show Kd.M (Kd.int .i64) _ _ _ jv [.int .i64 jv] from rfl) (Reps.one (show Kd.M (Kd.int .i64) _ _ _ jw [.int .i64 jw] from rfl) (Reps.none _ _))))
    intro v443 q0M g2 hb hg_ hnew_
    clear hg_ hnew_
    (first | rw [← Ny442.out] at g2 | (simp only [Int.reduceToNat] at g2; rw [← Ny442.out] at g2))
    have gj := Aside0.mk (Kd.R_lower g2 (below_size (bnow HB)))
    replace q0 := bb q0 hb
    replace q1 := bb q1 hb
    replace q2 := bb q2 hb
    replace q3 := bb q3 hb
    replace q7 := bb q7 hb
    replace q8 := bb q8 hb
    replace q9 := bb q9 hb
    replace HB := bst HB hb
    clear hb g2
    obtain ⟨Jo, Jz, gx⟩ := Kd.R_slice gj.out
    (first | subst gx | (injection gx with f1_ f2_ f3_; have f4_ := f1_.symm; have f5_ := f3_.symm; clear f1_ f2_ f3_; subst f4_; subst f5_))
    refine hK.out _ _ ⟨(blk_cell q7.out 0).trans rfl, (blk_cell q7.out 1).trans rfl, (blk_cell q8.out 0).trans rfl, (blk_cell q8.out 1).trans rfl, (blk_cell q9.out 0).trans rfl, (blk_cell q9.out 1).trans rfl⟩ (fun hHeld => ?_)
    clear hK K
    refine norm_ (a' := ?_) ?_ ?_
    rotate_left
    ·show Act.put _ (some 55) _ = _
     simp only [Act.put, List.setIfInBounds_toArray, List.set_cons_zero, List.set_cons_succ, i64_w, i32_w]
     rfl
    refine one_ (i := 12) (N := some 56) #[true, true, true, true, true, true, true, true, true, true, true, true, true, false, false] rfl rfl (one_of HT_.out (by kernel_rfl)) (by decide) (fun K hK => ?_)
    refine gs _ Try.func51 (cmp_Or_int.calls kj4 _ _ gy jX _ ?side1 ?side2 A88.out) ?_
    (case side1 => repeat (first | exact (Kd.R_reads' gj.out).2.2 | (with_reducible refine Kd.C_alloc ?_ _) | (with_reducible refine Kd.C_drewN ?_ _) | (with_reducible refine Kd.C_drew ?_)))
    (case side2 => exact (Kd.R_reads' gj.out).2.1)
    rintro e w' ⟨rfl, ⟨nd, rfl⟩⟩
    refine ⟨_, rfl, ?_⟩
    refine hK.out _ _ ⟨(blk_cell q7.out 0).trans rfl, (blk_cell q7.out 1).trans rfl, (blk_cell q8.out 0).trans rfl, (blk_cell q8.out 1).trans rfl, (blk_cell q9.out 0).trans rfl, (blk_cell q9.out 1).trans rfl⟩ (fun hHeld => ?_)
    clear hK K
    refine norm_ (a' := ?_) ?_ ?_
    rotate_left
    ·show Act.put _ (some 56) _ = _
     simp only [Act.put, List.setIfInBounds_toArray, List.set_cons_zero, List.set_cons_succ, i64_w, i32_w]
     rfl
    refine pz 13 8 HT_ ?_
    refine pz 14 9 HT_ ?_
    refine done_ (done_of HT_.out (by kernel_rfl)) ?_
    try go_wp2
    go_ret2
    exact rt HB
end
section
/-! ### torchonlaw06_pt: function 19 -/
def torchonlaw06_pt.f (a0 : Int) (a1 : Int) : Option (Int × Int) := some (a0, a1)
set_option maxHeartbeats 8000000 in
set_option maxRecDepth 100000 in
theorem torchonlaw06_pt.calls (a0 : Int) (a1 : Int) (r1 : Int) (r2 : Int) (w : World) (h : torchonlaw06_pt.f a0 a1 = some (r1, r2)) :
  Calls Try.prog 19 #[.int .i64 a0, .int .i64 a1] w fun e w' => e = .returned (.agg #[.int .i64 r1, .int .i64 r2]) ∧ Below w.heap.size w w' := by
 have hu37 := Try.underlying37
 have HB := Aside0.mk (Below.refl w.heap.size w)
 have H : (some (a0, a1)) = some (r1, r2) := h
 clear h
 simp only [Option.some.injEq, Prod.mk.injEq] at H
 obtain ⟨rfl, rfl⟩ := H
 go_enter Try.func19, Try.ntmps19
 go_wp2_with (first | ((with_reducible refine gate_dst (N := 4) rfl ?_); refine bx 4 #[.int .i64 0, .int .i64 0] 37 fun q1 hg w3 q0 hb => ?_; have q3 := gw hg HB; have q2 := gw hg HB; replace HB := bst HB hb; clear hb hg; have ⟨q4, q5, q6, q7⟩ := cf2 q0))
 refine bodyPost_ret (results_cell_row rfl _ _ q1 37 #[.int .i64 a0, .int .i64 a1] (0, 0) _ rfl (by (with_reducible repeat (first | refine blk_drewN ?_ _ | refine blk_drew ?_ | refine blk_alloc ?_ _)); refine blk_put (cs := #[.int .i64 a0, .int .i64 0]) ?_ 1 _ rfl; (with_reducible repeat (first | refine blk_drewN ?_ _ | refine blk_drew ?_ | refine blk_alloc ?_ _)); refine blk_put (cs := #[.int .i64 0, .int .i64 0]) ?_ 0 _ rfl; (with_reducible repeat (first | refine blk_drewN ?_ _ | refine blk_drew ?_ | refine blk_alloc ?_ _)); exact q0.out) Try.underlying37 rfl (by kernel_rfl)) rfl ?_
 exact rt HB
end
section
/-! ### grids_Dot: function 56 -/
def grids_Dot.j0 : Nat → Bool → Int → Int → Int → Int → Int → Int → Int → Int → Int → Option (Int × Int)
 | 0, _, _, _, _, _, _, _, _, _, _ => none
 | k + 1, x20, x448000, x448001, x448002, x449000, x449001, x450000, x450001, x451000, x451001 => if x20 = true then (some (0, 2)) else ((grids_to.f x449000 x449001 x450000 x450001).bind fun q8 => ((grids_to.f x449000 x449001 x451000 x451001).bind fun q9 => ((grids_step_product.f q8.1 q8.2 x448000 x448001 x448002 q9.1 q9.2).bind fun qb => (some (qb, 0)))))
def grids_Dot.f (k : Nat) (a0_0 : Int) (a0_1 : Int) (a0_2 : Int) (a1_0 : Int) (a1_1 : Int) (a2_0 : Int) (a2_1 : Int) (a3_0 : Int) (a3_1 : Int) : Option (Int × Int) := (grids_Check.f k a0_0 a0_1 a0_2).bind fun q4 => (if q4 = 0 then ((grids_point.f k (([(⟨a1_0, a1_1⟩ : S37), (⟨a2_0, a2_1⟩ : S37), (⟨a3_0, a3_1⟩ : S37)] : List (S37)))).bind fun q5 => (grids_Dot.j0 k (!q5) a0_0 a0_1 a0_2 a1_0 a1_1 a2_0 a2_1 a3_0 a3_1)) else (grids_Dot.j0 k true a0_0 a0_1 a0_2 a1_0 a1_1 a2_0 a2_1 a3_0 a3_1))
theorem grids_Dot.mono_l : ∀ k, (∀ y0 y1 y2 y3 y4 y5 y6 y7 y8 y9, LeO (grids_Dot.j0 k y0 y1 y2 y3 y4 y5 y6 y7 y8 y9) (grids_Dot.j0 (k + 1) y0 y1 y2 y3 y4 y5 y6 y7 y8 y9))
 | 0 => fun _ _ _ _ _ _ _ _ _ _ r h => by simp [grids_Dot.j0] at h
 | k + 1 => by
  have ih0 := grids_Dot.mono_l k
  ·intro y0 y1 y2 y3 y4 y5 y6 y7 y8 y9
   unfold grids_Dot.j0
   repeat' first
   | (with_reducible exact ih0 _ _ _ _ _ _ _ _ _ _)
   | (with_reducible exact grids_Check.mono _ _ _ _)
   | (with_reducible exact grids_point.mono _ _)
   | (with_reducible exact LeO.refl _)
   | (with_reducible exact LeO.none _)
   | (with_reducible refine LeO.ite ?_ ?_)
   | (with_reducible refine LeO.bind ?_ (fun _ => ?_))
   | exact ih0 _ _ _ _ _ _ _ _ _ _
   | exact grids_Check.mono _ _ _ _
   | exact grids_point.mono _ _
   | exact LeO.none _
   | refine LeO.ite ?_ ?_
   | refine LeO.bind ?_ (fun _ => ?_)
theorem grids_Dot.mono : ∀ a0 a1 a2 a3 a4 a5 a6 a7 a8 k, LeO (grids_Dot.f k a0 a1 a2 a3 a4 a5 a6 a7 a8) (grids_Dot.f (k + 1) a0 a1 a2 a3 a4 a5 a6 a7 a8) := by
 intro a0 a1 a2 a3 a4 a5 a6 a7 a8 k
 have ih0 := grids_Dot.mono_l k
 unfold grids_Dot.f
 repeat' first
   | (with_reducible exact ih0 _ _ _ _ _ _ _ _ _ _)
   | (with_reducible exact grids_Check.mono _ _ _ _)
   | (with_reducible exact grids_point.mono _ _)
   | (with_reducible exact LeO.refl _)
   | (with_reducible exact LeO.none _)
   | (with_reducible refine LeO.ite ?_ ?_)
   | (with_reducible refine LeO.bind ?_ (fun _ => ?_))
   | exact ih0 _ _ _ _ _ _ _ _ _ _
   | exact grids_Check.mono _ _ _ _
   | exact grids_point.mono _ _
   | exact LeO.none _
   | refine LeO.ite ?_ ?_
   | refine LeO.bind ?_ (fun _ => ?_)
def grids_Dot.T3 : Bool × List (List Nat × List Nat) := (true, [([], []), ([], []), ([0, 1], [0, 1]), ([], []), ([], []), ([], []), ([4, 5, 2], [4, 5]), ([2, 3, 6, 6], [2, 3, 6]), ([7, 7, 0, 1, 2, 3, 4, 5, 6, 7], [7]), ([8, 0, 1, 2, 3, 4, 5, 6, 7, 8], [])])
def grids_Dot.B3 : List Nat := [0, 0, 3, 0, 0, 0, 55, 127, 255, 511]
theorem grids_Dot.tab3 : rtab .any (opsOf Try.f56 3) = grids_Dot.T3 := by kernel_rfl
theorem grids_Dot.bits3 : waitsOk grids_Dot.T3.2 grids_Dot.B3 = true := by kernel_rfl
set_option maxHeartbeats 8000000 in
set_option maxRecDepth 100000 in
theorem grids_Dot.calls (k : Nat) (a0_0 : Int) (a0_1 : Int) (a0_2 : Int) (a1_0 : Int) (a1_1 : Int) (a2_0 : Int) (a2_1 : Int) (a3_0 : Int) (a3_1 : Int) (r1 : Int) (r2 : Int) (w : World) (h : grids_Dot.f k a0_0 a0_1 a0_2 a1_0 a1_1 a2_0 a2_1 a3_0 a3_1 = some (r1, r2)) :
  Calls Try.prog 56 #[.agg #[.int .i64 a0_0, .int .i64 a0_1, .int .i64 a0_2], .agg #[.int .i64 a1_0, .int .i64 a1_1], .agg #[.int .i64 a2_0, .int .i64 a2_1], .agg #[.int .i64 a3_0, .int .i64 a3_1]] w fun e w' => e = .returned (.tuple #[.int .i64 r1, .int .i64 r2]) ∧ Below w.heap.size w w' := by
 have hu23 := Try.underlying23
 have hu37 := Try.underlying37
 have HB := Aside0.mk (Below.refl w.heap.size w)
 have H : ((grids_Check.f k a0_0 a0_1 a0_2).bind fun q4 => (if q4 = 0 then ((grids_point.f k (([(⟨a1_0, a1_1⟩ : S37), (⟨a2_0, a2_1⟩ : S37), (⟨a3_0, a3_1⟩ : S37)] : List (S37)))).bind fun q5 => (grids_Dot.j0 k (!q5) a0_0 a0_1 a0_2 a1_0 a1_1 a2_0 a2_1 a3_0 a3_1)) else (grids_Dot.j0 k true a0_0 a0_1 a0_2 a1_0 a1_1 a2_0 a2_1 a3_0 a3_1))) = some (r1, r2) := h
 clear h
 have HC5 := Aside0.mk H
 clear H
 go_enter Try.func56, Try.ntmps56
 go_upto_region 1 with (first | ((with_reducible refine gate_dst (N := 4) rfl ?_); (try (refine gate_guard (by rfl) ?_; dsimp only)); refine bx 4 #[.int .i64 a0_0, .int .i64 a0_1, .int .i64 a0_2] 23 fun qc hg w6 q0 hb => ?_; have j2 := gw hg HB; have qY := gw hg HB; replace HB := bst HB hb; clear hb hg) | ((with_reducible refine gate_dst (N := 5) rfl ?_); (try (refine gate_guard (by rfl) ?_; dsimp only)); refine bx 5 #[.int .i64 a1_0, .int .i64 a1_1] 37 fun qd hg w7 q1 hb => ?_; have j3 := gw hg HB; have qZ := gw hg HB; have qg := nlt hg q0; have qj := ngt hg q0; replace q0 := bb q0 hb; replace HB := bst HB hb; clear hb hg) | ((with_reducible refine gate_dst (N := 6) rfl ?_); (try (refine gate_guard (by rfl) ?_; dsimp only)); refine bx 6 #[.int .i64 a2_0, .int .i64 a2_1] 37 fun qe hg w8 q2 hb => ?_; have j4 := gw hg HB; have j0 := gw hg HB; have qh := nlt hg q0; have qk := ngt hg q0; have qs := nlt hg q1; have qu := ngt hg q1; replace q0 := bb q0 hb; replace q1 := bb q1 hb; replace HB := bst HB hb; clear hb hg) | ((with_reducible refine gate_dst (N := 7) rfl ?_); (try (refine gate_guard (by rfl) ?_; dsimp only)); refine bx 7 #[.int .i64 a3_0, .int .i64 a3_1] 37 fun qf hg w9 q3 hb => ?_; have j5 := gw hg HB; have j1 := gw hg HB; have qi := nlt hg q0; have ql := ngt hg q0; have qt := nlt hg q1; have qw := ngt hg q1; have qv := nlt hg q2; have qx := ngt hg q2; replace q0 := bb q0 hb; replace q1 := bb q1 hb; replace q2 := bb q2 hb; replace HB := bst HB hb; clear hb hg))
 (try simp only [Act.put, List.setIfInBounds_toArray, List.set_cons_zero, List.set_cons_succ])
 go_cut [20] (fun v20 wc => ∃ (kq : Nat) (x20_4 : Bool), v20 = .bool x20_4 ∧ Aside0 (grids_Dot.j0 kq x20_4 a0_0 a0_1 a0_2 a1_0 a1_1 a2_0 a2_1 a3_0 a3_1 = some (r1, r2)) ∧ Aside0 (kq ≤ k) ∧ Aside0 (wc.heap[qc]? = some (.cells #[.int .i64 a0_0, .int .i64 a0_1, .int .i64 a0_2] 23 (0, 0))) ∧ Aside0 (wc.heap[qd]? = some (.cells #[.int .i64 a1_0, .int .i64 a1_1] 37 (0, 0))) ∧ Aside0 (wc.heap[qe]? = some (.cells #[.int .i64 a2_0, .int .i64 a2_1] 37 (0, 0))) ∧ Aside0 (wc.heap[qf]? = some (.cells #[.int .i64 a3_0, .int .i64 a3_1] 37 (0, 0))) ∧ Aside0 (Below w.heap.size w wc))
 case first =>
  have H := HC5.out
  clear HC5
  obtain ⟨q4, A10, H⟩ := ob H
  by_cases c11 : q4 = 0
  ·rw [if_pos c11] at H
   have q6 : (q4 == 0) = true := beq_iff_eq.mpr c11
   have qm : (q4 != 0) = false := bne_eq_false_iff_eq.mpr c11
   clear c11
   (first | rw [q6] | (simp only [i64_w, i32_w]; rw [q6]) | skip)
   obtain ⟨qr, hy452⟩ : ∃ y_ : List (S37), y_ = (([(⟨a1_0, a1_1⟩ : S37), (⟨a2_0, a2_1⟩ : S37), (⟨a3_0, a3_1⟩ : S37)] : List (S37))) := ⟨_, rfl⟩
   replace H : ((grids_point.f k qr).bind fun q5 => (grids_Dot.j0 k (!q5) a0_0 a0_1 a0_2 a1_0 a1_1 a2_0 a2_1 a3_0 a3_1)) = some (r1, r2) := by first | (rw [hy452]; with_reducible exact H) | (have H2_ := (Option.bind_some _ _).symm.trans H; rw [hy452]; with_reducible exact H2_) | (have H2_ := (Option.bind_some _ _).symm.trans H; with_reducible exact H2_) | with_reducible exact H | (rw [hy452]; exact H) | exact H
   have Ny452 := Aside0.mk hy452
   clear hy452
   obtain ⟨q5, A12, H⟩ := ob H
   have H' := Aside0.mk H
   clear H
   have j7 := qg.out
   have jg := qj.out
   have j8 := qh.out
   have jh := qk.out
   have j9 := qi.out
   have ji := ql.out
   have ⟨qz, qA, qB, qL, qM, qN⟩ := cf3 q0
   go_wp2_with (first | ((with_reducible refine gate_callee (f := 14) rfl ?_); refine gl 11 Try.func14 (grids_Check.calls k a0_0 a0_1 a0_2 q4 _ A10.out) ?_; rintro e w17 ⟨rfl, hb⟩; refine ⟨_, rfl, ?_⟩; replace q0 := bb q0 hb; replace q1 := bb q1 hb; replace q2 := bb q2 hb; replace q3 := bb q3 hb; replace HB := bst HB hb; clear hb; have ja := qs.out; have jj := qu.out; have jb := qt.out; have jk := qw.out; have ⟨qC, qD, qO, qP⟩ := cf2 q1; have jc := qv.out; have jl := qx.out; have ⟨qE, qF, qQ, qR⟩ := cf2 q2; have ⟨qG, qH, qS, qT⟩ := cf2 q3) | ((with_reducible refine gate_dst (N := 17) rfl ?_); (try (refine gate_guard (by rfl) ?_; dsimp only)); refine Kd.R_lit k37 _ 37 ?hg (N := 17) ?hd (xs := ([(⟨a1_0, a1_1⟩ : S37), (⟨a2_0, a2_1⟩ : S37), (⟨a3_0, a3_1⟩ : S37)] : List (S37))) (inner := [.int .i64 a1_0, .int .i64 a1_1, .int .i64 a2_0, .int .i64 a2_1, .int .i64 a3_0, .int .i64 a3_1]) (ok := fun _ => True) (okp := fun _ => True) ?hr ?hp (fun _ hk => hk) trivial (Below.refl _ _) (Nat.le_refl _) (by simp) ?_; (case hd => rfl); (case hg => rfl); (case hr => first | (go_simp; done) | (go_simp; rfl)); (case hp => exact (Reps.c2 (show Kd.M k37 _ _ _ (⟨a1_0, a1_1⟩ : S37) [.int .i64 a1_0, .int .i64 a1_1] from (k37_mkM _ _ _ (⟨a1_0, a1_1⟩ : S37) )) (Reps.c2 (show Kd.M k37 _ _ _ (⟨a2_0, a2_1⟩ : S37) [.int .i64 a2_0, .int .i64 a2_1] from (k37_mkM _ _ _ (⟨a2_0, a2_1⟩ : S37) )) (Reps.c2 (show Kd.M k37 _ _ _ (⟨a3_0, a3_1⟩ : S37) [.int .i64 a3_0, .int .i64 a3_1] from (k37_mkM _ _ _ (⟨a3_0, a3_1⟩ : S37) )) (Reps.none _ _))))); intro v453 w24 qa hb hg_ hnew_; clear hg_ hnew_; (first | rw [← Ny452.out] at qa | (simp only [Int.reduceToNat] at qa; rw [← Ny452.out] at qa)); have q7 := Aside0.mk (Kd.R_lower (Kd.R_newB (Kd.R_newB (Kd.R_newB qa (g := qd) (o := .cells #[.int .i64 a1_0, .int .i64 a1_1] 37 (0, 0)) (pk q1)) (g := qe) (o := .cells #[.int .i64 a2_0, .int .i64 a2_1] 37 (0, 0)) (pk q2)) (g := qf) (o := .cells #[.int .i64 a3_0, .int .i64 a3_1] 37 (0, 0)) (pk q3)) (below_size (bnow HB))); replace q0 := bb q0 hb; replace q1 := bb q1 hb; replace q2 := bb q2 hb; replace q3 := bb q3 hb; replace HB := bst HB hb; clear hb qa; obtain ⟨qX, j6, qy⟩ := Kd.R_slice q7.out; subst qy) | (go_at_call 49; (with_reducible refine (grids_point.calls k _ _ qr q5 _ ?side1 ?side2 A12.out).mono ?_); (case side1 => repeat (first | exact (Kd.R_reads' q7.out).2.2 | (with_reducible refine Kd.C_alloc ?_ _) | (with_reducible refine Kd.C_drewN ?_ _) | (with_reducible refine Kd.C_drew ?_))); (case side2 => exact (Kd.R_reads' q7.out).2.1); rintro e w27 ⟨rfl, hb⟩; replace q7 := Aside0.mk (Kd.R_below (by (with_reducible repeat (first | apply Kd.R_alloc | apply Kd.R_drewN | apply Kd.R_drew)); exact q7.out) hb); replace q0 := bb q0 hb; replace q1 := bb q1 hb; replace q2 := bb q2 hb; replace q3 := bb q3 hb; replace HB := bst HB hb; (try clear hb); (try clear hb2); (try clear hk); (try clear hi)))
   go_meet
   case rel => exact ⟨_, (!q5), (by first | rfl | (simp; done) | (simp [*]; done)), H', ⟨by first | omega | exact Nat.le_refl _⟩, ⟨pk q0⟩, ⟨pk q1⟩, ⟨pk q2⟩, ⟨pk q3⟩, ⟨bnow HB⟩⟩
  ·rw [if_neg c11] at H
   have q6 : (q4 == 0) = false := beq_eq_false_iff_ne.mpr c11
   have qm : (q4 != 0) = true := bne_iff_ne.mpr c11
   (first | rw [q6] | (simp only [i64_w, i32_w]; rw [q6]) | skip)
   have H' := Aside0.mk H
   clear H
   have jd := qg.out
   have jm := qj.out
   have je := qh.out
   have jn := qk.out
   have jf := qi.out
   have jo := ql.out
   have ⟨qI, qJ, qK, qU, qV, qW⟩ := cf3 q0
   go_wp2_with (first | ((with_reducible refine gate_callee (f := 14) rfl ?_); refine gl 11 Try.func14 (grids_Check.calls k a0_0 a0_1 a0_2 q4 _ A10.out) ?_; rintro e w32 ⟨rfl, hb⟩; refine ⟨_, rfl, ?_⟩; replace q0 := bb q0 hb; replace q1 := bb q1 hb; replace q2 := bb q2 hb; replace q3 := bb q3 hb; replace HB := bst HB hb; clear hb))
   go_meet
   case rel => exact ⟨_, (true), (by first | rfl | (simp; done) | (simp [*]; done)), H', ⟨by first | omega | exact Nat.le_refl _⟩, ⟨pk q0⟩, ⟨pk q1⟩, ⟨pk q2⟩, ⟨pk q3⟩, ⟨bnow HB⟩⟩
 case rest =>
  clear HC5
  try clear c1; try clear c2; try clear p2; try clear c3; try clear c5; try clear c11; try clear q6; try clear qm; try clear c13; try clear c14; try clear c15; try clear c18; try clear c19; try clear c21; try clear c28; try clear c29; try clear c30; try clear qz; try clear qA; try clear qB; try clear qC; try clear qD; try clear qE; try clear qF; try clear qG; try clear qH; try clear qI; try clear qJ; try clear qK; try clear qL; try clear qM; try clear qN; try clear qO; try clear qP; try clear qQ; try clear qR; try clear qS; try clear qT; try clear qU; try clear qV; try clear qW
  obtain ⟨kq, x20_4, rfl, HA, HJ4, q0, q1, q2, q3, HB⟩ := hcut
  cases kq with
  | zero => exact absurd HA.out (by simp [grids_Dot.j0])
  | succ kj4 =>
   have H := HA.out
   clear HA
   simp only [grids_Dot.j0] at H
   by_cases c33 : x20_4 = true
   ·subst c33
    have H1 : (some (0, 2)) = some (r1, r2) := by rw [if_pos rfl] at H; exact H
    clear H
    have H := H1
    clear H1
    simp only [Option.some.injEq, Prod.mk.injEq] at H
    obtain ⟨rfl, rfl⟩ := H
    go_wp2
    go_ret2
    exact rt HB
   ·replace c33 := Bool.eq_false_iff.mpr c33
    subst c33
    have H1 : ((grids_to.f a1_0 a1_1 a2_0 a2_1).bind fun q8 => ((grids_to.f a1_0 a1_1 a3_0 a3_1).bind fun q9 => ((grids_step_product.f q8.1 q8.2 a0_0 a0_1 a0_2 q9.1 q9.2).bind fun qb => (some (qb, 0))))) = some (r1, r2) := by rw [if_neg (show ¬ (false = true) by decide)] at H; exact H
    clear H
    have H := H1
    clear H1
    obtain ⟨⟨qn, qo⟩, A34, H⟩ := ob H
    obtain ⟨⟨qp, qq⟩, A35, H⟩ := ob H
    obtain ⟨qb, A36, H⟩ := ob H
    simp only [Option.some.injEq, Prod.mk.injEq] at H
    obtain ⟨rfl, rfl⟩ := H
    try go_wp2
    replace q0 := bd q0
    replace q1 := bd q1
    replace q2 := bd q2
    replace q3 := bd q3
    replace HB := bdn HB
    refine start_ (n := 10) (S := fun w' => w'.cell? ⟨qd, 0, none⟩ = some (.int .i64 a1_0) ∧ w'.cell? ⟨qd, 1, none⟩ = some (.int .i64 a1_1) ∧ w'.cell? ⟨qe, 0, none⟩ = some (.int .i64 a2_0) ∧ w'.cell? ⟨qe, 1, none⟩ = some (.int .i64 a2_1) ∧ w'.cell? ⟨qc, 0, none⟩ = some (.int .i64 a0_0) ∧ w'.cell? ⟨qc, 1, none⟩ = some (.int .i64 a0_1) ∧ w'.cell? ⟨qc, 2, none⟩ = some (.int .i64 a0_2) ∧ w'.cell? ⟨qf, 0, none⟩ = some (.int .i64 a3_0) ∧ w'.cell? ⟨qf, 1, none⟩ = some (.int .i64 a3_1)) (ds := []) #[false, false, false, false, false, false, false, false, false, false] (by kernel_rfl) rfl rfl ⟨(blk_cell q1.out 0).trans rfl, (blk_cell q1.out 1).trans rfl, (blk_cell q2.out 0).trans rfl, (blk_cell q2.out 1).trans rfl, (blk_cell q0.out 0).trans rfl, (blk_cell q0.out 1).trans rfl, (blk_cell q0.out 2).trans rfl, (blk_cell q3.out 0).trans rfl, (blk_cell q3.out 1).trans rfl⟩ (fun hHeld => ?_); refine with_tabW grids_Dot.tab3 grids_Dot.bits3 (fun HT_ HW_ => ?_)
    generalize wc.drew = w37 at q0 q1 q2 q3 HB hHeld ⊢
    refine tz 0 21 HT_ HW_ hHeld ?_
    refine tz 1 22 HT_ HW_ hHeld ?_
    refine tz 3 24 HT_ HW_ hHeld ?_
    refine tz 4 25 HT_ HW_ hHeld ?_
    refine tz 5 26 HT_ HW_ hHeld ?_
    refine one_ (i := 2) (N := some 23) #[true, true, true, true, true, true, false, false, false, false] rfl rfl (one_of HT_.out (by kernel_rfl)) (by decide) (fun K hK => ?_)
    refine gs _ Try.func50 (grids_to.calls a1_0 a1_1 a2_0 a2_1 qn qo _ A34.out) ?_
    rintro e w38 ⟨rfl, hb⟩
    refine ⟨_, rfl, ?_⟩
    replace q0 := bb q0 hb
    replace q1 := bb q1 hb
    replace q2 := bb q2 hb
    replace q3 := bb q3 hb
    replace HB := bst HB hb
    (try clear hb)
    (try clear hb2)
    (try clear hk)
    (try clear hi)
    refine hK.out _ _ ⟨(blk_cell q1.out 0).trans rfl, (blk_cell q1.out 1).trans rfl, (blk_cell q2.out 0).trans rfl, (blk_cell q2.out 1).trans rfl, (blk_cell q0.out 0).trans rfl, (blk_cell q0.out 1).trans rfl, (blk_cell q0.out 2).trans rfl, (blk_cell q3.out 0).trans rfl, (blk_cell q3.out 1).trans rfl⟩ (fun hHeld => ?_)
    clear hK K
    refine norm_ (a' := ?_) ?_ ?_
    rotate_left
    ·show Act.put _ (some 23) _ = _
     simp only [Act.put, List.setIfInBounds_toArray, List.set_cons_zero, List.set_cons_succ, i64_w, i32_w]
     rfl
    refine one_ (i := 6) (N := some 27) #[true, true, true, true, true, true, true, false, false, false] rfl rfl (one_of HT_.out (by kernel_rfl)) (by decide) (fun K hK => ?_)
    refine gs _ Try.func50 (grids_to.calls a1_0 a1_1 a3_0 a3_1 qp qq _ A35.out) ?_
    rintro e w39 ⟨rfl, hb⟩
    refine ⟨_, rfl, ?_⟩
    replace q0 := bb q0 hb
    replace q1 := bb q1 hb
    replace q2 := bb q2 hb
    replace q3 := bb q3 hb
    replace HB := bst HB hb
    (try clear hb)
    (try clear hb2)
    (try clear hk)
    (try clear hi)
    refine hK.out _ _ ⟨(blk_cell q1.out 0).trans rfl, (blk_cell q1.out 1).trans rfl, (blk_cell q2.out 0).trans rfl, (blk_cell q2.out 1).trans rfl, (blk_cell q0.out 0).trans rfl, (blk_cell q0.out 1).trans rfl, (blk_cell q0.out 2).trans rfl, (blk_cell q3.out 0).trans rfl, (blk_cell q3.out 1).trans rfl⟩ (fun hHeld => ?_)
    clear hK K
    refine norm_ (a' := ?_) ?_ ?_
    rotate_left
    ·show Act.put _ (some 27) _ = _
     simp only [Act.put, List.setIfInBounds_toArray, List.set_cons_zero, List.set_cons_succ, i64_w, i32_w]
     rfl
    refine one_ (i := 7) (N := some 28) #[true, true, true, true, true, true, true, true, false, false] rfl rfl (one_of HT_.out (by kernel_rfl)) (by decide) (fun K hK => ?_)
    refine gs _ Try.func80 (grids_step_product.calls qn qo a0_0 a0_1 a0_2 qp qq qb _ A36.out) ?_
    rintro e w40 ⟨rfl, hb⟩
    refine ⟨_, rfl, ?_⟩
    replace q0 := bb q0 hb
    replace q1 := bb q1 hb
    replace q2 := bb q2 hb
    replace q3 := bb q3 hb
    replace HB := bst HB hb
    (try clear hb)
    (try clear hb2)
    (try clear hk)
    (try clear hi)
    refine hK.out _ _ ⟨(blk_cell q1.out 0).trans rfl, (blk_cell q1.out 1).trans rfl, (blk_cell q2.out 0).trans rfl, (blk_cell q2.out 1).trans rfl, (blk_cell q0.out 0).trans rfl, (blk_cell q0.out 1).trans rfl, (blk_cell q0.out 2).trans rfl, (blk_cell q3.out 0).trans rfl, (blk_cell q3.out 1).trans rfl⟩ (fun hHeld => ?_)
    clear hK K
    refine norm_ (a' := ?_) ?_ ?_
    rotate_left
    ·show Act.put _ (some 28) _ = _
     simp only [Act.put, List.setIfInBounds_toArray, List.set_cons_zero, List.set_cons_succ, i64_w, i32_w]
     rfl
    refine pz 8 8 HT_ ?_
    refine pz 9 9 HT_ ?_
    refine done_ (done_of HT_.out (by kernel_rfl)) ?_
    try go_wp2
    go_ret2
    exact rt HB
end
section
/-! ### grids_Square: function 20 -/
def grids_Square.f (k : Nat) (a0_0 : Int) (a0_1 : Int) (a0_2 : Int) (a1_0 : Int) (a1_1 : Int) (a2_0 : Int) (a2_1 : Int) : Option (Int × Int) := (grids_Dot.f k a0_0 a0_1 a0_2 a1_0 a1_1 a2_0 a2_1 a2_0 a2_1).bind fun q2 => (some (q2.1, q2.2))
theorem grids_Square.mono : ∀ a0 a1 a2 a3 a4 a5 a6 k, LeO (grids_Square.f k a0 a1 a2 a3 a4 a5 a6) (grids_Square.f (k + 1) a0 a1 a2 a3 a4 a5 a6) := by
 intro a0 a1 a2 a3 a4 a5 a6 k
 unfold grids_Square.f
 repeat' first
   | (with_reducible exact grids_Dot.mono _ _ _ _ _ _ _ _ _ _)
   | (with_reducible exact LeO.refl _)
   | (with_reducible exact LeO.none _)
   | (with_reducible refine LeO.ite ?_ ?_)
   | (with_reducible refine LeO.bind ?_ (fun _ => ?_))
   | exact grids_Dot.mono _ _ _ _ _ _ _ _ _ _
   | exact LeO.none _
   | refine LeO.ite ?_ ?_
   | refine LeO.bind ?_ (fun _ => ?_)
set_option maxHeartbeats 8000000 in
set_option maxRecDepth 100000 in
theorem grids_Square.calls (k : Nat) (a0_0 : Int) (a0_1 : Int) (a0_2 : Int) (a1_0 : Int) (a1_1 : Int) (a2_0 : Int) (a2_1 : Int) (r1 : Int) (r2 : Int) (w : World) (h : grids_Square.f k a0_0 a0_1 a0_2 a1_0 a1_1 a2_0 a2_1 = some (r1, r2)) :
  Calls Try.prog 20 #[.agg #[.int .i64 a0_0, .int .i64 a0_1, .int .i64 a0_2], .agg #[.int .i64 a1_0, .int .i64 a1_1], .agg #[.int .i64 a2_0, .int .i64 a2_1]] w fun e w' => e = .returned (.tuple #[.int .i64 r1, .int .i64 r2]) ∧ Below w.heap.size w w' := by
 have hu23 := Try.underlying23
 have hu37 := Try.underlying37
 have HB := Aside0.mk (Below.refl w.heap.size w)
 have H : ((grids_Dot.f k a0_0 a0_1 a0_2 a1_0 a1_1 a2_0 a2_1 a2_0 a2_1).bind fun q2 => (some (q2.1, q2.2))) = some (r1, r2) := h
 clear h
 obtain ⟨⟨qa, qb⟩, A4, H⟩ := ob H
 simp only [Option.some.injEq, Prod.mk.injEq] at H
 obtain ⟨rfl, rfl⟩ := H
 go_enter Try.func20, Try.ntmps20
 go_wp2_with (first | ((with_reducible refine gate_dst (N := 3) rfl ?_); refine bx 3 #[.int .i64 a0_0, .int .i64 a0_1, .int .i64 a0_2] 23 fun qi hg w5 q0 hb => ?_; have qf := gw hg HB; have qc := gw hg HB; replace HB := bst HB hb; clear hb hg) | ((with_reducible refine gate_dst (N := 4) rfl ?_); refine bx 4 #[.int .i64 a1_0, .int .i64 a1_1] 37 fun qj hg w6 q1 hb => ?_; have qg := gw hg HB; have qd := gw hg HB; have q4 := nlt hg q0; have q6 := ngt hg q0; replace q0 := bb q0 hb; replace HB := bst HB hb; clear hb hg) | ((with_reducible refine gate_dst (N := 5) rfl ?_); refine bx 5 #[.int .i64 a2_0, .int .i64 a2_1] 37 fun qk hg w7 q3 hb => ?_; have qh := gw hg HB; have qe := gw hg HB; have q5 := nlt hg q0; have q8 := ngt hg q0; have q7 := nlt hg q1; have q9 := ngt hg q1; replace q0 := bb q0 hb; replace q1 := bb q1 hb; replace HB := bst HB hb; clear hb hg; have qA := q4.out; have qD := q6.out; have qB := q5.out; have qE := q8.out; have ⟨ql, qm, qn, qs, qt, qu⟩ := cf3 q0; have qz := q7.out; have qC := q9.out; have ⟨qo, qp, qv, qw⟩ := cf2 q1; have ⟨qq, qr, qx, qy⟩ := cf2 q3) | ((with_reducible refine gate_callee (f := 56) rfl ?_); refine gl 12 Try.func56 (grids_Dot.calls k a0_0 a0_1 a0_2 a1_0 a1_1 a2_0 a2_1 a2_0 a2_1 qa qb _ A4.out) ?_; rintro e w14 ⟨rfl, hb⟩; refine ⟨_, rfl, ?_⟩; replace q0 := bb q0 hb; replace q1 := bb q1 hb; replace q3 := bb q3 hb; replace HB := bst HB hb; clear hb))
 go_ret2
 exact rt HB
end
end Go.Proofs.Ytmcajdepoohlhaa.G
