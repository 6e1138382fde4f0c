/- Functions of the program as plain Lean functions, and their contracts (printed by a program of this session). No condition beyond what each states. -/
import Derived.Test.YtmcajdepoohlhaaCGrpY
import Derived.Test.YtmcajdepoohlhaaCGrpP0
import Derived.Test.YtmcajdepoohlhaaCGrpP1
import Derived.Test.YtmcajdepoohlhaaCGrpP2
namespace Go.Proofs.Ytmcajdepoohlhaa.G
open Go.RowKit Go.Proofs.YtmcajdepoohlhaaW.PrintWords Go.Proofs.YtmcajdepoohlhaaW.PrintLast Go.Proofs.YtmcajdepoohlhaaW.PrintMore
attribute [local go_sem] max2_int min2_int max_two min_two max_three min_three max_four min_four
set_option linter.unusedVariables false
set_option linter.unusedSimpArgs false
section
/-! ### grids_Side: function 21 -/
def grids_Side.f (k : Nat) (a0_0 : Int) (a0_1 : Int) (a1_0 : Int) (a1_1 : Int) (a2_0 : Int) (a2_1 : Int) : Option (Int × Int) := (grids_point.f k (([(⟨a0_0, a0_1⟩ : S37), (⟨a1_0, a1_1⟩ : S37), (⟨a2_0, a2_1⟩ : S37)] : List (S37)))).bind fun q8 => (if q8 = true then ((grids_to.f a0_0 a0_1 a1_0 a1_1).bind fun q4 => ((grids_to.f a0_0 a0_1 a2_0 a2_1).bind fun q5 => ((grids_step_cross.f q4.1 q4.2 q5.1 q5.2).bind fun q6 => ((cmp_Compare_int64.f q6 0).bind fun q7 => (some (q7, 0)))))) else (some (0, 2)))
theorem grids_Side.mono : ∀ a0 a1 a2 a3 a4 a5 k, LeO (grids_Side.f k a0 a1 a2 a3 a4 a5) (grids_Side.f (k + 1) a0 a1 a2 a3 a4 a5) := by
 intro a0 a1 a2 a3 a4 a5 k
 unfold grids_Side.f
 repeat' first
   | (with_reducible exact grids_point.mono _ _)
   | (with_reducible exact LeO.refl _)
   | (with_reducible exact LeO.none _)
   | (with_reducible refine LeO.ite ?_ ?_)
   | (with_reducible refine LeO.bind ?_ (fun _ => ?_))
   | exact grids_point.mono _ _
   | exact LeO.none _
   | refine LeO.ite ?_ ?_
   | refine LeO.bind ?_ (fun _ => ?_)
def grids_Side.T3 : Bool × List (List Nat × List Nat) := (true, [([], []), ([], []), ([0, 1], [0, 1]), ([], []), ([], []), ([3, 4, 2], [3, 4]), ([2, 5, 5], [2, 5]), ([6, 6], [6]), ([7, 7, 0, 1, 2, 3, 4, 5, 6, 7], [7]), ([8, 0, 1, 2, 3, 4, 5, 6, 7, 8], [])])
def grids_Side.B3 : List Nat := [0, 0, 3, 0, 0, 31, 63, 127, 255, 511]
theorem grids_Side.tab3 : rtab .any (opsOf Try.f21 3) = grids_Side.T3 := by kernel_rfl
theorem grids_Side.bits3 : waitsOk grids_Side.T3.2 grids_Side.B3 = true := by kernel_rfl
set_option maxHeartbeats 8000000 in
set_option maxRecDepth 100000 in
theorem grids_Side.calls (k : Nat) (a0_0 : Int) (a0_1 : Int) (a1_0 : Int) (a1_1 : Int) (a2_0 : Int) (a2_1 : Int) (r1 : Int) (r2 : Int) (w : World) (h : grids_Side.f k a0_0 a0_1 a1_0 a1_1 a2_0 a2_1 = some (r1, r2)) :
  Calls Try.prog 21 #[.agg #[.int .i64 a0_0, .int .i64 a0_1], .agg #[.int .i64 a1_0, .int .i64 a1_1], .agg #[.int .i64 a2_0, .int .i64 a2_1]] w fun e w' => e = .returned (.tuple #[.int .i64 r1, .int .i64 r2]) ∧ Below w.heap.size w w' := by
 have hu37 := Try.underlying37
 have HB := Aside0.mk (Below.refl w.heap.size w)
 have H : ((grids_point.f k (([(⟨a0_0, a0_1⟩ : S37), (⟨a1_0, a1_1⟩ : S37), (⟨a2_0, a2_1⟩ : S37)] : List (S37)))).bind fun q8 => (if q8 = true then ((grids_to.f a0_0 a0_1 a1_0 a1_1).bind fun q4 => ((grids_to.f a0_0 a0_1 a2_0 a2_1).bind fun q5 => ((grids_step_cross.f q4.1 q4.2 q5.1 q5.2).bind fun q6 => ((cmp_Compare_int64.f q6 0).bind fun q7 => (some (q7, 0)))))) else (some (0, 2)))) = some (r1, r2) := h
 clear h
 obtain ⟨qe, hy469⟩ : ∃ y_ : List (S37), y_ = (([(⟨a0_0, a0_1⟩ : S37), (⟨a1_0, a1_1⟩ : S37), (⟨a2_0, a2_1⟩ : S37)] : List (S37))) := ⟨_, rfl⟩
 replace H : ((grids_point.f k qe).bind fun q8 => (if q8 = true then ((grids_to.f a0_0 a0_1 a1_0 a1_1).bind fun q4 => ((grids_to.f a0_0 a0_1 a2_0 a2_1).bind fun q5 => ((grids_step_cross.f q4.1 q4.2 q5.1 q5.2).bind fun q6 => ((cmp_Compare_int64.f q6 0).bind fun q7 => (some (q7, 0)))))) else (some (0, 2)))) = some (r1, r2) := by first | (rw [hy469]; with_reducible exact H) | (have H2_ := (Option.bind_some _ _).symm.trans H; rw [hy469]; with_reducible exact H2_) | (have H2_ := (Option.bind_some _ _).symm.trans H; with_reducible exact H2_) | with_reducible exact H | (rw [hy469]; exact H) | exact H
 have Ny469 := Aside0.mk hy469
 clear hy469
 obtain ⟨q8, A4, H⟩ := ob H
 by_cases c5 : q8 = true
 ·subst c5
  have H1 : ((grids_to.f a0_0 a0_1 a1_0 a1_1).bind fun q4 => ((grids_to.f a0_0 a0_1 a2_0 a2_1).bind fun q5 => ((grids_step_cross.f q4.1 q4.2 q5.1 q5.2).bind fun q6 => ((cmp_Compare_int64.f q6 0).bind fun q7 => (some (q7, 0)))))) = some (r1, r2) := by rw [if_pos rfl] at H; exact H
  clear H
  have H := H1
  clear H1
  obtain ⟨⟨ql, qm⟩, A6, H⟩ := ob H
  obtain ⟨⟨qn, qo⟩, A7, H⟩ := ob H
  obtain ⟨q6, A8, H⟩ := ob H
  obtain ⟨q7, A9, H⟩ := ob H
  simp only [Option.some.injEq, Prod.mk.injEq] at H
  obtain ⟨rfl, rfl⟩ := H
  go_enter Try.func21, Try.ntmps21
  try go_wp2_with (first | ((with_reducible refine gate_dst (N := 3) rfl ?_); refine bx 3 #[.int .i64 a0_0, .int .i64 a0_1] 37 fun q9 hg w10 q0 hb => ?_; have qu := gw hg HB; have qr := gw hg HB; replace HB := bst HB hb; clear hb hg) | ((with_reducible refine gate_dst (N := 4) rfl ?_); refine bx 4 #[.int .i64 a1_0, .int .i64 a1_1] 37 fun qa hg w11 q1 hb => ?_; have qv := gw hg HB; have qs := gw hg HB; have qf := nlt hg q0; have qh := ngt hg q0; replace q0 := bb q0 hb; replace HB := bst HB hb; clear hb hg) | ((with_reducible refine gate_dst (N := 5) rfl ?_); refine bx 5 #[.int .i64 a2_0, .int .i64 a2_1] 37 fun qb hg w12 q2 hb => ?_; have qw := gw hg HB; have qt := gw hg HB; have qg := nlt hg q0; have qj := ngt hg q0; have qi := nlt hg q1; have qk := ngt hg q1; replace q0 := bb q0 hb; replace q1 := bb q1 hb; replace HB := bst HB hb; clear hb hg; have qZ := qf.out; have j5 := qh.out; have j0 := qg.out; have j6 := qj.out; have ⟨qB, qC, qN, qO⟩ := cf2 q0; have j1 := qi.out; have j7 := qk.out; have ⟨qD, qE, qP, qQ⟩ := cf2 q1; have ⟨qF, qG, qR, qS⟩ := cf2 q2) | ((with_reducible refine gate_dst (N := 11) rfl ?_); refine Kd.R_lit k37 _ 37 ?hg (N := 11) ?hd (xs := ([(⟨a0_0, a0_1⟩ : S37), (⟨a1_0, a1_1⟩ : S37), (⟨a2_0, a2_1⟩ : S37)] : List (S37))) (inner := [.int .i64 a0_0, .int .i64 a0_1, .int .i64 a1_0, .int .i64 a1_1, .int .i64 a2_0, .int .i64 a2_1]) (ok := fun _ => True) (okp := fun _ => True) ?hr ?hp (fun _ hk => hk) trivial (Below.refl _ _) (Nat.le_refl _) (by simp) ?_; (case hd => rfl); (case hg => rfl); (case hr => first | (go_simp; done) | (go_simp; rfl)); (case hp => exact (Reps.c2 (show Kd.M k37 _ _ _ (⟨a0_0, a0_1⟩ : S37) [.int .i64 a0_0, .int .i64 a0_1] from (k37_mkM _ _ _ (⟨a0_0, a0_1⟩ : S37) )) (Reps.c2 (show Kd.M k37 _ _ _ (⟨a1_0, a1_1⟩ : S37) [.int .i64 a1_0, .int .i64 a1_1] from (k37_mkM _ _ _ (⟨a1_0, a1_1⟩ : S37) )) (Reps.c2 (show Kd.M k37 _ _ _ (⟨a2_0, a2_1⟩ : S37) [.int .i64 a2_0, .int .i64 a2_1] from (k37_mkM _ _ _ (⟨a2_0, a2_1⟩ : S37) )) (Reps.none _ _))))); intro v470 w19 qc hb hg_ hnew_; clear hg_ hnew_; (first | rw [← Ny469.out] at qc | (simp only [Int.reduceToNat] at qc; rw [← Ny469.out] at qc)); have q3 := Aside0.mk (Kd.R_lower (Kd.R_newB (Kd.R_newB (Kd.R_newB qc (g := q9) (o := .cells #[.int .i64 a0_0, .int .i64 a0_1] 37 (0, 0)) (pk q0)) (g := qa) (o := .cells #[.int .i64 a1_0, .int .i64 a1_1] 37 (0, 0)) (pk q1)) (g := qb) (o := .cells #[.int .i64 a2_0, .int .i64 a2_1] 37 (0, 0)) (pk q2)) (below_size (bnow HB))); replace q0 := bb q0 hb; replace q1 := bb q1 hb; replace q2 := bb q2 hb; replace HB := bst HB hb; clear hb qc; obtain ⟨qp, qx, qz⟩ := Kd.R_slice q3.out; subst qz) | ((with_reducible refine gate_callee (f := 49) rfl ?_); refine goesL_ (some 12) rfl rfl Try.func49 (by kernel_rfl) rfl #[.slice qp qe.length qx] rfl am ?_; (with_reducible refine (grids_point.calls k _ _ qe true _ ?side1 ?side2 A4.out).mono ?_); (case side1 => repeat (first | exact (Kd.R_reads' q3.out).2.2 | (with_reducible refine Kd.C_alloc ?_ _) | (with_reducible refine Kd.C_drewN ?_ _) | (with_reducible refine Kd.C_drew ?_))); (case side2 => exact (Kd.R_reads' q3.out).2.1); rintro e w22 ⟨rfl, hb⟩; refine ⟨_, rfl, ?_⟩; replace q3 := Aside0.mk (Kd.R_below (by (with_reducible repeat (first | apply Kd.R_alloc | apply Kd.R_drewN | apply Kd.R_drew)); exact q3.out) hb); replace q0 := bb q0 hb; replace q1 := bb q1 hb; replace q2 := bb q2 hb; replace HB := bst HB hb; (try clear hb); (try clear hb2); (try clear hk); (try clear hi)))
  replace q3 := Aside0.mk (Kd.R_drew q3.out)
  replace q0 := bd q0
  replace q1 := bd q1
  replace q2 := bd q2
  replace HB := bdn HB
  refine start_ (n := 10) (S := fun w' => w'.cell? ⟨q9, 0, none⟩ = some (.int .i64 a0_0) ∧ w'.cell? ⟨q9, 1, none⟩ = some (.int .i64 a0_1) ∧ w'.cell? ⟨qa, 0, none⟩ = some (.int .i64 a1_0) ∧ w'.cell? ⟨qa, 1, none⟩ = some (.int .i64 a1_1) ∧ w'.cell? ⟨qb, 0, none⟩ = some (.int .i64 a2_0) ∧ w'.cell? ⟨qb, 1, none⟩ = some (.int .i64 a2_1)) (ds := []) #[false, false, false, false, false, false, false, false, false, false] (by kernel_rfl) rfl rfl ⟨(blk_cell q0.out 0).trans rfl, (blk_cell q0.out 1).trans rfl, (blk_cell q1.out 0).trans rfl, (blk_cell q1.out 1).trans rfl, (blk_cell q2.out 0).trans rfl, (blk_cell q2.out 1).trans rfl⟩ (fun hHeld => ?_); refine with_tabW grids_Side.tab3 grids_Side.bits3 (fun HT_ HW_ => ?_)
  generalize w22.drew = w23 at q3 q0 q1 q2 HB hHeld ⊢
  refine tz 0 14 HT_ HW_ hHeld ?_
  refine tz 1 15 HT_ HW_ hHeld ?_
  refine tz 3 17 HT_ HW_ hHeld ?_
  refine tz 4 18 HT_ HW_ hHeld ?_
  refine one_ (i := 2) (N := some 16) #[true, true, true, true, true, false, false, false, false, false] rfl rfl (one_of HT_.out (by kernel_rfl)) (by decide) (fun K hK => ?_)
  refine gs _ Try.func50 (grids_to.calls a0_0 a0_1 a1_0 a1_1 ql qm _ A6.out) ?_
  rintro e w24 ⟨rfl, hb⟩
  refine ⟨_, rfl, ?_⟩
  have n0_ := Aside0.mk (Kd.R_below (by (with_reducible repeat (first | apply Kd.R_alloc | apply Kd.R_drewN | apply Kd.R_drew)); exact q3.out) hb)
  have n1_ := bb q0 hb
  have n2_ := bb q1 hb
  have n3_ := bb q2 hb
  have n4_ := bst HB hb
  clear q3
  clear q0
  clear q1
  clear q2
  clear HB
  have q3 := n0_
  have q0 := n1_
  have q1 := n2_
  have q2 := n3_
  have HB := n4_
  clear n0_ n1_ n2_ n3_ n4_
  (try clear hb)
  (try clear hb2)
  (try clear hk)
  (try clear hi)
  refine hK.out _ _ ⟨(blk_cell q0.out 0).trans rfl, (blk_cell q0.out 1).trans rfl, (blk_cell q1.out 0).trans rfl, (blk_cell q1.out 1).trans rfl, (blk_cell q2.out 0).trans rfl, (blk_cell q2.out 1).trans rfl⟩ (fun hHeld => ?_)
  clear hK K
  refine norm_ (a' := ?_) ?_ ?_
  rotate_left
  ·show Act.put _ (some 16) _ = _
   simp only [Act.put, List.setIfInBounds_toArray, List.set_cons_zero, List.set_cons_succ, i64_w, i32_w]
   rfl
  refine one_ (i := 5) (N := some 19) #[true, true, true, true, true, true, false, false, false, false] rfl rfl (one_of HT_.out (by kernel_rfl)) (by decide) (fun K hK => ?_)
  refine gs _ Try.func50 (grids_to.calls a0_0 a0_1 a2_0 a2_1 qn qo _ A7.out) ?_
  rintro e w25 ⟨rfl, hb⟩
  refine ⟨_, rfl, ?_⟩
  have n0_ := Aside0.mk (Kd.R_below (by (with_reducible repeat (first | apply Kd.R_alloc | apply Kd.R_drewN | apply Kd.R_drew)); exact q3.out) hb)
  have n1_ := bb q0 hb
  have n2_ := bb q1 hb
  have n3_ := bb q2 hb
  have n4_ := bst HB hb
  clear q3
  clear q0
  clear q1
  clear q2
  clear HB
  have q3 := n0_
  have q0 := n1_
  have q1 := n2_
  have q2 := n3_
  have HB := n4_
  clear n0_ n1_ n2_ n3_ n4_
  (try clear hb)
  (try clear hb2)
  (try clear hk)
  (try clear hi)
  refine hK.out _ _ ⟨(blk_cell q0.out 0).trans rfl, (blk_cell q0.out 1).trans rfl, (blk_cell q1.out 0).trans rfl, (blk_cell q1.out 1).trans rfl, (blk_cell q2.out 0).trans rfl, (blk_cell q2.out 1).trans rfl⟩ (fun hHeld => ?_)
  clear hK K
  refine norm_ (a' := ?_) ?_ ?_
  rotate_left
  ·show Act.put _ (some 19) _ = _
   simp only [Act.put, List.setIfInBounds_toArray, List.set_cons_zero, List.set_cons_succ, i64_w, i32_w]
   rfl
  refine one_ (i := 6) (N := some 20) #[true, true, true, true, true, true, true, false, false, false] rfl rfl (one_of HT_.out (by kernel_rfl)) (by decide) (fun K hK => ?_)
  refine gs _ Try.func55 (grids_step_cross.calls ql qm qn qo q6 _ A8.out) ?_
  rintro e w26 ⟨rfl, hb⟩
  refine ⟨_, rfl, ?_⟩
  have n0_ := Aside0.mk (Kd.R_below (by (with_reducible repeat (first | apply Kd.R_alloc | apply Kd.R_drewN | apply Kd.R_drew)); exact q3.out) hb)
  have n1_ := bb q0 hb
  have n2_ := bb q1 hb
  have n3_ := bb q2 hb
  have n4_ := bst HB hb
  clear q3
  clear q0
  clear q1
  clear q2
  clear HB
  have q3 := n0_
  have q0 := n1_
  have q1 := n2_
  have q2 := n3_
  have HB := n4_
  clear n0_ n1_ n2_ n3_ n4_
  (try clear hb)
  (try clear hb2)
  (try clear hk)
  (try clear hi)
  refine hK.out _ _ ⟨(blk_cell q0.out 0).trans rfl, (blk_cell q0.out 1).trans rfl, (blk_cell q1.out 0).trans rfl, (blk_cell q1.out 1).trans rfl, (blk_cell q2.out 0).trans rfl, (blk_cell q2.out 1).trans rfl⟩ (fun hHeld => ?_)
  clear hK K
  refine norm_ (a' := ?_) ?_ ?_
  rotate_left
  ·show Act.put _ (some 20) _ = _
   simp only [Act.put, List.setIfInBounds_toArray, List.set_cons_zero, List.set_cons_succ, i64_w, i32_w]
   rfl
  refine one_ (i := 7) (N := some 21) #[true, true, true, true, true, true, true, true, false, false] rfl rfl (one_of HT_.out (by kernel_rfl)) (by decide) (fun K hK => ?_)
  refine gs _ Try.func54 (cmp_Compare_int64.calls q6 0 q7 _ A9.out) ?_
  rintro e w' ⟨rfl, ⟨nd, rfl⟩⟩
  refine ⟨_, rfl, ?_⟩
  refine hK.out _ _ ⟨(blk_cell q0.out 0).trans rfl, (blk_cell q0.out 1).trans rfl, (blk_cell q1.out 0).trans rfl, (blk_cell q1.out 1).trans rfl, (blk_cell q2.out 0).trans rfl, (blk_cell q2.out 1).trans rfl⟩ (fun hHeld => ?_)
  clear hK K
  refine norm_ (a' := ?_) ?_ ?_
  rotate_left
  ·show Act.put _ (some 21) _ = _
   simp only [Act.put, List.setIfInBounds_toArray, List.set_cons_zero, List.set_cons_succ, i64_w, i32_w]
   rfl
  refine pz 8 6 HT_ ?_
  refine pz 9 7 HT_ ?_
  refine done_ (done_of HT_.out (by kernel_rfl)) ?_
  try go_wp2
  go_ret2
  exact rt HB
 ·replace c5 := Bool.eq_false_iff.mpr c5
  subst c5
  have H1 : (some (0, 2)) = some (r1, r2) := by rw [if_neg (show ¬ (false = true) by decide)] at H; exact H
  clear H
  have H := H1
  clear H1
  simp only [Option.some.injEq, Prod.mk.injEq] at H
  obtain ⟨rfl, rfl⟩ := H
  go_enter Try.func21, Try.ntmps21
  go_wp2_with (first | ((with_reducible refine gate_dst (N := 3) rfl ?_); refine bx 3 #[.int .i64 a0_0, .int .i64 a0_1] 37 fun q9 hg w27 q0 hb => ?_; have qu := gw hg HB; have qr := gw hg HB; replace HB := bst HB hb; clear hb hg) | ((with_reducible refine gate_dst (N := 4) rfl ?_); refine bx 4 #[.int .i64 a1_0, .int .i64 a1_1] 37 fun qa hg w28 q1 hb => ?_; have qv := gw hg HB; have qs := gw hg HB; have qf := nlt hg q0; have qh := ngt hg q0; replace q0 := bb q0 hb; replace HB := bst HB hb; clear hb hg) | ((with_reducible refine gate_dst (N := 5) rfl ?_); refine bx 5 #[.int .i64 a2_0, .int .i64 a2_1] 37 fun qb hg w29 q2 hb => ?_; have qw := gw hg HB; have qt := gw hg HB; have qg := nlt hg q0; have qj := ngt hg q0; have qi := nlt hg q1; have qk := ngt hg q1; replace q0 := bb q0 hb; replace q1 := bb q1 hb; replace HB := bst HB hb; clear hb hg; have j2 := qf.out; have j8 := qh.out; have j3 := qg.out; have j9 := qj.out; have ⟨qH, qI, qT, qU⟩ := cf2 q0; have j4 := qi.out; have ja := qk.out; have ⟨qJ, qK, qV, qW⟩ := cf2 q1; have ⟨qL, qM, qX, qY⟩ := cf2 q2) | ((with_reducible refine gate_dst (N := 11) rfl ?_); refine Kd.R_lit k37 _ 37 ?hg (N := 11) ?hd (xs := ([(⟨a0_0, a0_1⟩ : S37), (⟨a1_0, a1_1⟩ : S37), (⟨a2_0, a2_1⟩ : S37)] : List (S37))) (inner := [.int .i64 a0_0, .int .i64 a0_1, .int .i64 a1_0, .int .i64 a1_1, .int .i64 a2_0, .int .i64 a2_1]) (ok := fun _ => True) (okp := fun _ => True) ?hr ?hp (fun _ hk => hk) trivial (Below.refl _ _) (Nat.le_refl _) (by simp) ?_; (case hd => rfl); (case hg => rfl); (case hr => first | (go_simp; done) | (go_simp; rfl)); (case hp => exact (Reps.c2 (show Kd.M k37 _ _ _ (⟨a0_0, a0_1⟩ : S37) [.int .i64 a0_0, .int .i64 a0_1] from (k37_mkM _ _ _ (⟨a0_0, a0_1⟩ : S37) )) (Reps.c2 (show Kd.M k37 _ _ _ (⟨a1_0, a1_1⟩ : S37) [.int .i64 a1_0, .int .i64 a1_1] from (k37_mkM _ _ _ (⟨a1_0, a1_1⟩ : S37) )) (Reps.c2 (show Kd.M k37 _ _ _ (⟨a2_0, a2_1⟩ : S37) [.int .i64 a2_0, .int .i64 a2_1] from (k37_mkM _ _ _ (⟨a2_0, a2_1⟩ : S37) )) (Reps.none _ _))))); intro v470 w36 qd hb hg_ hnew_; clear hg_ hnew_; (first | rw [← Ny469.out] at qd | (simp only [Int.reduceToNat] at qd; rw [← Ny469.out] at qd)); have q3 := Aside0.mk (Kd.R_lower (Kd.R_newB (Kd.R_newB (Kd.R_newB qd (g := q9) (o := .cells #[.int .i64 a0_0, .int .i64 a0_1] 37 (0, 0)) (pk q0)) (g := qa) (o := .cells #[.int .i64 a1_0, .int .i64 a1_1] 37 (0, 0)) (pk q1)) (g := qb) (o := .cells #[.int .i64 a2_0, .int .i64 a2_1] 37 (0, 0)) (pk q2)) (below_size (bnow HB))); replace q0 := bb q0 hb; replace q1 := bb q1 hb; replace q2 := bb q2 hb; replace HB := bst HB hb; clear hb qd; obtain ⟨qq, qy, qA⟩ := Kd.R_slice q3.out; subst qA) | ((with_reducible refine gate_callee (f := 49) rfl ?_); refine goesL_ (some 12) rfl rfl Try.func49 (by kernel_rfl) rfl #[.slice qq qe.length qy] rfl am ?_; (with_reducible refine (grids_point.calls k _ _ qe false _ ?side1 ?side2 A4.out).mono ?_); (case side1 => repeat (first | exact (Kd.R_reads' q3.out).2.2 | (with_reducible refine Kd.C_alloc ?_ _) | (with_reducible refine Kd.C_drewN ?_ _) | (with_reducible refine Kd.C_drew ?_))); (case side2 => exact (Kd.R_reads' q3.out).2.1); rintro e w39 ⟨rfl, hb⟩; refine ⟨_, rfl, ?_⟩; replace q3 := Aside0.mk (Kd.R_below (by (with_reducible repeat (first | apply Kd.R_alloc | apply Kd.R_drewN | apply Kd.R_drew)); exact q3.out) hb); replace q0 := bb q0 hb; replace q1 := bb q1 hb; replace q2 := bb q2 hb; replace HB := bst HB hb; (try clear hb); (try clear hb2); (try clear hk); (try clear hi)))
  go_ret2
  exact rt HB
end
section
/-! ### grids_matrix: function 59 -/
def grids_matrix.f (a0_0 : Int) (a0_1 : Int) (a0_2 : Int) (a0_3 : Int) : Option (Bool) := (grids_outside.f a0_0 10000).bind fun q4 => (if q4 = true then (some false) else ((grids_outside.f a0_1 10000).bind fun q3 => (if q3 = true then (some false) else ((grids_outside.f a0_2 10000).bind fun q1 => (if q1 = true then (some false) else ((grids_outside.f a0_3 10000).bind fun q0 => (some (!q0))))))))
set_option maxHeartbeats 8000000 in
set_option maxRecDepth 100000 in
theorem grids_matrix.calls (a0_0 : Int) (a0_1 : Int) (a0_2 : Int) (a0_3 : Int) (r : Bool) (w : World) (h : grids_matrix.f a0_0 a0_1 a0_2 a0_3 = some r) :
  Calls Try.prog 59 #[.agg #[.int .i64 a0_0, .int .i64 a0_1, .int .i64 a0_2, .int .i64 a0_3]] w fun e w' => e = .returned (.bool r) ∧ Below w.heap.size w w' := by
 have hu25 := Try.underlying25
 have HB := Aside0.mk (Below.refl w.heap.size w)
 have H : ((grids_outside.f a0_0 10000).bind fun q4 => (if q4 = true then (some false) else ((grids_outside.f a0_1 10000).bind fun q3 => (if q3 = true then (some false) else ((grids_outside.f a0_2 10000).bind fun q1 => (if q1 = true then (some false) else ((grids_outside.f a0_3 10000).bind fun q0 => (some (!q0))))))))) = some r := h
 clear h
 obtain ⟨q4, A2, H⟩ := ob H
 by_cases c3 : q4 = true
 ·subst c3
  have H1 : (some false) = some r := by rw [if_pos rfl] at H; exact H
  clear H
  have H := H1
  clear H1
  obtain rfl := Option.some.inj H
  go_enter Try.func59, Try.ntmps59
  go_wp2_with (first | ((with_reducible refine gate_dst (N := 1) rfl ?_); refine bx 1 #[.int .i64 a0_0, .int .i64 a0_1, .int .i64 a0_2, .int .i64 a0_3] 25 fun q7 hg w4 q2 hb => ?_; have q6 := gw hg HB; have q5 := gw hg HB; replace HB := bst HB hb; clear hb hg; have ⟨qg, qh, qi, qj, qw, qx, qy, qz⟩ := cf4 q2) | ((with_reducible refine gate_callee (f := 46) rfl ?_); refine goesL_ (some 5) rfl rfl Try.func46 (by kernel_rfl) rfl #[.int .i64 a0_0, .int .i64 10000] rfl am ?_; (with_reducible refine (grids_outside.calls a0_0 10000 true _ A2.out).mono ?_); rintro e w' ⟨rfl, ⟨nd, rfl⟩⟩; refine ⟨_, rfl, ?_⟩))
  go_ret
  exact rt HB
 ·replace c3 := Bool.eq_false_iff.mpr c3
  subst c3
  have H1 : ((grids_outside.f a0_1 10000).bind fun q3 => (if q3 = true then (some false) else ((grids_outside.f a0_2 10000).bind fun q1 => (if q1 = true then (some false) else ((grids_outside.f a0_3 10000).bind fun q0 => (some (!q0))))))) = some r := by rw [if_neg (show ¬ (false = true) by decide)] at H; exact H
  clear H
  have H := H1
  clear H1
  obtain ⟨q3, A6, H⟩ := ob H
  by_cases c7 : q3 = true
  ·subst c7
   have H1 : (some false) = some r := by rw [if_pos rfl] at H; exact H
   clear H
   have H := H1
   clear H1
   obtain rfl := Option.some.inj H
   go_enter Try.func59, Try.ntmps59
   go_wp2_with (first | ((with_reducible refine gate_dst (N := 1) rfl ?_); refine bx 1 #[.int .i64 a0_0, .int .i64 a0_1, .int .i64 a0_2, .int .i64 a0_3] 25 fun q7 hg w8 q2 hb => ?_; have q6 := gw hg HB; have q5 := gw hg HB; replace HB := bst HB hb; clear hb hg; have ⟨qk, ql, qm, qn, qA, qB, qC, qD⟩ := cf4 q2) | ((with_reducible refine gate_callee (f := 46) rfl ?_); refine goesL_ (some 5) rfl rfl Try.func46 (by kernel_rfl) rfl #[.int .i64 a0_0, .int .i64 10000] rfl am ?_; (with_reducible refine (grids_outside.calls a0_0 10000 false _ A2.out).mono ?_); rintro e w' ⟨rfl, ⟨nd, rfl⟩⟩; refine ⟨_, rfl, ?_⟩) | (go_at_call 46; (with_reducible refine (grids_outside.calls a0_1 10000 true _ A6.out).mono ?_); rintro e w' ⟨rfl, ⟨nd, rfl⟩⟩))
   go_ret
   exact rt HB
  ·replace c7 := Bool.eq_false_iff.mpr c7
   subst c7
   have H1 : ((grids_outside.f a0_2 10000).bind fun q1 => (if q1 = true then (some false) else ((grids_outside.f a0_3 10000).bind fun q0 => (some (!q0))))) = some r := by rw [if_neg (show ¬ (false = true) by decide)] at H; exact H
   clear H
   have H := H1
   clear H1
   obtain ⟨q1, A10, H⟩ := ob H
   by_cases c11 : q1 = true
   ·subst c11
    have H1 : (some false) = some r := by rw [if_pos rfl] at H; exact H
    clear H
    have H := H1
    clear H1
    obtain rfl := Option.some.inj H
    go_enter Try.func59, Try.ntmps59
    go_wp2_with (first | ((with_reducible refine gate_dst (N := 1) rfl ?_); refine bx 1 #[.int .i64 a0_0, .int .i64 a0_1, .int .i64 a0_2, .int .i64 a0_3] 25 fun q7 hg w12 q2 hb => ?_; have q6 := gw hg HB; have q5 := gw hg HB; replace HB := bst HB hb; clear hb hg; have ⟨q8, q9, qa, qb, qo, qp, qq, qr⟩ := cf4 q2) | ((with_reducible refine gate_callee (f := 46) rfl ?_); refine goesL_ (some 5) rfl rfl Try.func46 (by kernel_rfl) rfl #[.int .i64 a0_0, .int .i64 10000] rfl am ?_; (with_reducible refine (grids_outside.calls a0_0 10000 false _ A2.out).mono ?_); rintro e w' ⟨rfl, ⟨nd, rfl⟩⟩; refine ⟨_, rfl, ?_⟩) | (go_at_call 46; (with_reducible refine (grids_outside.calls a0_1 10000 false _ A6.out).mono ?_); rintro e w' ⟨rfl, ⟨nd, rfl⟩⟩) | (go_at_call 46; (with_reducible refine (grids_outside.calls a0_2 10000 true _ A10.out).mono ?_); rintro e w' ⟨rfl, ⟨nd, rfl⟩⟩))
    go_ret
    exact rt HB
   ·replace c11 := Bool.eq_false_iff.mpr c11
    subst c11
    have H1 : ((grids_outside.f a0_3 10000).bind fun q0 => (some (!q0))) = some r := by rw [if_neg (show ¬ (false = true) by decide)] at H; exact H
    clear H
    have H := H1
    clear H1
    obtain ⟨q0, A14, H⟩ := ob H
    obtain rfl := Option.some.inj H
    go_enter Try.func59, Try.ntmps59
    go_wp2_with (first | ((with_reducible refine gate_dst (N := 1) rfl ?_); refine bx 1 #[.int .i64 a0_0, .int .i64 a0_1, .int .i64 a0_2, .int .i64 a0_3] 25 fun q7 hg w15 q2 hb => ?_; have q6 := gw hg HB; have q5 := gw hg HB; replace HB := bst HB hb; clear hb hg; have ⟨qc, qd, qe, qf, qs, qt, qu, qv⟩ := cf4 q2) | ((with_reducible refine gate_callee (f := 46) rfl ?_); refine goesL_ (some 5) rfl rfl Try.func46 (by kernel_rfl) rfl #[.int .i64 a0_0, .int .i64 10000] rfl am ?_; (with_reducible refine (grids_outside.calls a0_0 10000 false _ A2.out).mono ?_); rintro e w' ⟨rfl, ⟨nd, rfl⟩⟩; refine ⟨_, rfl, ?_⟩) | (go_at_call 46; (with_reducible refine (grids_outside.calls a0_1 10000 false _ A6.out).mono ?_); rintro e w' ⟨rfl, ⟨nd, rfl⟩⟩) | (go_at_call 46; (with_reducible refine (grids_outside.calls a0_2 10000 false _ A10.out).mono ?_); rintro e w' ⟨rfl, ⟨nd, rfl⟩⟩) | (go_at_call 46; (with_reducible refine (grids_outside.calls a0_3 10000 q0 _ A14.out).mono ?_); rintro e w' ⟨rfl, ⟨nd, rfl⟩⟩))
    go_ret
    exact rt HB
end
section
/-! ### grids_move: function 62 -/
def grids_move.f (k : Nat) (a0_0 : Int) (a0_1 : Int) (a0_2 : Int) (a0_3 : Int) (a0_4 : Int) (a0_5 : Int) : Option (Bool) := (grids_matrix.f a0_0 a0_1 a0_2 a0_3).bind fun q4 => (if q4 = true then ((grids_point.f k (([(⟨a0_4, a0_5⟩ : S37)] : List (S37)))).bind fun q1 => (some q1)) else (some false))
theorem grids_move.mono : ∀ a0 a1 a2 a3 a4 a5 k, LeO (grids_move.f k a0 a1 a2 a3 a4 a5) (grids_move.f (k + 1) a0 a1 a2 a3 a4 a5) := by
 intro a0 a1 a2 a3 a4 a5 k
 unfold grids_move.f
 repeat' first
   | (with_reducible exact grids_point.mono _ _)
   | (with_reducible exact LeO.refl _)
   | (with_reducible exact LeO.none _)
   | (with_reducible refine LeO.ite ?_ ?_)
   | (with_reducible refine LeO.bind ?_ (fun _ => ?_))
   | exact grids_point.mono _ _
   | exact LeO.none _
   | refine LeO.ite ?_ ?_
   | refine LeO.bind ?_ (fun _ => ?_)
set_option maxHeartbeats 8000000 in
set_option maxRecDepth 100000 in
theorem grids_move.calls (k : Nat) (a0_0 : Int) (a0_1 : Int) (a0_2 : Int) (a0_3 : Int) (a0_4 : Int) (a0_5 : Int) (r : Bool) (w : World) (h : grids_move.f k a0_0 a0_1 a0_2 a0_3 a0_4 a0_5 = some r) :
  Calls Try.prog 62 #[.agg #[.int .i64 a0_0, .int .i64 a0_1, .int .i64 a0_2, .int .i64 a0_3, .int .i64 a0_4, .int .i64 a0_5]] w fun e w' => e = .returned (.bool r) ∧ Below w.heap.size w w' := by
 have hu55 := Try.underlying55
 have hu25 := Try.underlying25
 have hu37 := Try.underlying37
 have HB := Aside0.mk (Below.refl w.heap.size w)
 have H : ((grids_matrix.f a0_0 a0_1 a0_2 a0_3).bind fun q4 => (if q4 = true then ((grids_point.f k (([(⟨a0_4, a0_5⟩ : S37)] : List (S37)))).bind fun q1 => (some q1)) else (some false))) = some r := h
 clear h
 obtain ⟨q4, A2, H⟩ := ob H
 by_cases c3 : q4 = true
 ·subst c3
  have H1 : ((grids_point.f k (([(⟨a0_4, a0_5⟩ : S37)] : List (S37)))).bind fun q1 => (some q1)) = some r := by rw [if_pos rfl] at H; exact H
  clear H
  have H := H1
  clear H1
  obtain ⟨q5, hy543⟩ : ∃ y_ : List (S37), y_ = (([(⟨a0_4, a0_5⟩ : S37)] : List (S37))) := ⟨_, rfl⟩
  replace H : ((grids_point.f k q5).bind fun q1 => (some q1)) = some r := by first | (rw [hy543]; with_reducible exact H) | (have H2_ := (Option.bind_some _ _).symm.trans H; rw [hy543]; with_reducible exact H2_) | (have H2_ := (Option.bind_some _ _).symm.trans H; with_reducible exact H2_) | with_reducible exact H | (rw [hy543]; exact H) | exact H
  have Ny543 := Aside0.mk hy543
  clear hy543
  obtain ⟨q1, A4, H⟩ := ob H
  obtain rfl := Option.some.inj H
  go_enter Try.func62, Try.ntmps62
  go_wp2_with (first | ((with_reducible refine gate_dst (N := 1) rfl ?_); (try (refine gate_guard (by rfl) ?_; dsimp only)); refine bx 1 #[.int .i64 a0_0, .int .i64 a0_1, .int .i64 a0_2, .int .i64 a0_3, .int .i64 a0_4, .int .i64 a0_5] 55 fun q9 hg w5 q0 hb => ?_; have q7 := gw hg HB; have q6 := gw hg HB; replace HB := bst HB hb; clear hb hg; have ⟨qi, qj, qk, ql, qm, qn, qA, qB, qC, qD, qE, qF⟩ := cf6 q0) | ((with_reducible refine gate_callee (f := 59) rfl ?_); refine gl 5 Try.func59 (grids_matrix.calls a0_0 a0_1 a0_2 a0_3 true _ A2.out) ?_; rintro e w7 ⟨rfl, hb⟩; refine ⟨_, rfl, ?_⟩; replace q0 := bb q0 hb; replace HB := bst HB hb; clear hb; have ⟨qo, qp, qq, qr, qs, qt, qG, qH, qI, qJ, qK, qL⟩ := cf6 q0) | ((with_reducible refine gate_dst (N := 9) rfl ?_); (try (refine gate_guard (by rfl) ?_; dsimp only)); refine Kd.R_lit k37 _ 37 ?hg (N := 9) ?hd (xs := ([(⟨a0_4, a0_5⟩ : S37)] : List (S37))) (inner := [.int .i64 a0_4, .int .i64 a0_5]) (ok := fun _ => True) (okp := fun _ => True) ?hr ?hp (fun _ hk => hk) trivial (Below.refl _ _) (Nat.le_refl _) (by simp) ?_; (case hd => rfl); (case hg => rfl); (case hr => first | (go_simp; done) | (go_simp; rfl)); (case hp => exact (Reps.c2 (show Kd.M k37 _ _ _ (⟨a0_4, a0_5⟩ : S37) [.int .i64 a0_4, .int .i64 a0_5] from (k37_mkM _ _ _ (⟨a0_4, a0_5⟩ : S37) )) (Reps.none _ _))); intro v544 w9 q3 hb hg_ hnew_; clear hg_ hnew_; (first | rw [← Ny543.out] at q3 | (simp only [Int.reduceToNat] at q3; rw [← Ny543.out] at q3)); have q2 := Aside0.mk (Kd.R_lower q3 (below_size (bnow HB))); replace q0 := bb q0 hb; replace HB := bst HB hb; clear hb q3; obtain ⟨qa, qb, q8⟩ := Kd.R_slice q2.out; subst q8) | (go_at_call 49; (with_reducible refine (grids_point.calls k _ _ q5 q1 _ ?side1 ?side2 A4.out).mono ?_); (case side1 => repeat (first | exact (Kd.R_reads' q2.out).2.2 | (with_reducible refine Kd.C_alloc ?_ _) | (with_reducible refine Kd.C_drewN ?_ _) | (with_reducible refine Kd.C_drew ?_))); (case side2 => exact (Kd.R_reads' q2.out).2.1); rintro e w12 ⟨rfl, hb⟩; replace q2 := Aside0.mk (Kd.R_below (by (with_reducible repeat (first | apply Kd.R_alloc | apply Kd.R_drewN | apply Kd.R_drew)); exact q2.out) hb); replace q0 := bb q0 hb; replace HB := bst HB hb; (try clear hb); (try clear hb2); (try clear hk); (try clear hi)))
  go_ret
  exact rt HB
 ·replace c3 := Bool.eq_false_iff.mpr c3
  subst c3
  have H1 : (some false) = some r := by rw [if_neg (show ¬ (false = true) by decide)] at H; exact H
  clear H
  have H := H1
  clear H1
  obtain rfl := Option.some.inj H
  go_enter Try.func62, Try.ntmps62
  go_wp2_with (first | ((with_reducible refine gate_dst (N := 1) rfl ?_); (try (refine gate_guard (by rfl) ?_; dsimp only)); refine bx 1 #[.int .i64 a0_0, .int .i64 a0_1, .int .i64 a0_2, .int .i64 a0_3, .int .i64 a0_4, .int .i64 a0_5] 55 fun q9 hg w13 q0 hb => ?_; have q7 := gw hg HB; have q6 := gw hg HB; replace HB := bst HB hb; clear hb hg; have ⟨qc, qd, qe, qf, qg, qh, qu, qv, qw, qx, qy, qz⟩ := cf6 q0) | ((with_reducible refine gate_callee (f := 59) rfl ?_); refine gl 5 Try.func59 (grids_matrix.calls a0_0 a0_1 a0_2 a0_3 false _ A2.out) ?_; rintro e w15 ⟨rfl, hb⟩; refine ⟨_, rfl, ?_⟩; replace q0 := bb q0 hb; replace HB := bst HB hb; clear hb))
  go_ret
  exact rt HB
end
section
/-! ### grids_image: function 63 -/
def grids_image.f (a0_0 : Int) (a0_1 : Int) (a0_2 : Int) (a0_3 : Int) (a0_4 : Int) (a0_5 : Int) (a1_0 : Int) (a1_1 : Int) : Option (Int × Int) := (some (wrap64 (a0_0 * a1_0))).bind fun q2 => ((some (wrap64 (a0_1 * a1_1))).bind fun q3 => ((some (wrap64 (q2 + q3))).bind fun q4 => ((some (wrap64 (q4 + a0_4))).bind fun q1 => ((some (wrap64 (a0_2 * a1_0))).bind fun q5 => ((some (wrap64 (a0_3 * a1_1))).bind fun q6 => ((some (wrap64 (q5 + q6))).bind fun q7 => ((some (wrap64 (q7 + a0_5))).bind fun q8 => (some (q1, q8)))))))))
set_option maxHeartbeats 8000000 in
set_option maxRecDepth 100000 in
theorem grids_image.calls (a0_0 : Int) (a0_1 : Int) (a0_2 : Int) (a0_3 : Int) (a0_4 : Int) (a0_5 : Int) (a1_0 : Int) (a1_1 : Int) (r1 : Int) (r2 : Int) (w : World) (h : grids_image.f a0_0 a0_1 a0_2 a0_3 a0_4 a0_5 a1_0 a1_1 = some (r1, r2)) :
  Calls Try.prog 63 #[.agg #[.int .i64 a0_0, .int .i64 a0_1, .int .i64 a0_2, .int .i64 a0_3, .int .i64 a0_4, .int .i64 a0_5], .agg #[.int .i64 a1_0, .int .i64 a1_1]] w fun e w' => e = .returned (.agg #[.int .i64 r1, .int .i64 r2]) ∧ Below w.heap.size w w' := by
 have hu55 := Try.underlying55
 have hu37 := Try.underlying37
 have HB := Aside0.mk (Below.refl w.heap.size w)
 have H : ((some (wrap64 (a0_0 * a1_0))).bind fun q2 => ((some (wrap64 (a0_1 * a1_1))).bind fun q3 => ((some (wrap64 (q2 + q3))).bind fun q4 => ((some (wrap64 (q4 + a0_4))).bind fun q1 => ((some (wrap64 (a0_2 * a1_0))).bind fun q5 => ((some (wrap64 (a0_3 * a1_1))).bind fun q6 => ((some (wrap64 (q5 + q6))).bind fun q7 => ((some (wrap64 (q7 + a0_5))).bind fun q8 => (some (q1, q8)))))))))) = some (r1, r2) := h
 clear h
 obtain ⟨q2, E30, H⟩ := oc H
 have E3w : (IntKind.i64.wrap (a0_0 * a1_0)) = q2 := (i64_w _).trans E30
 obtain ⟨q3, E40, H⟩ := oc H
 have E4w : (IntKind.i64.wrap (a0_1 * a1_1)) = q3 := (i64_w _).trans E40
 obtain ⟨q4, E50, H⟩ := oc H
 have E5w : (IntKind.i64.wrap (q2 + q3)) = q4 := (i64_w _).trans E50
 obtain ⟨q1, E60, H⟩ := oc H
 have E6w : (IntKind.i64.wrap (q4 + a0_4)) = q1 := (i64_w _).trans E60
 obtain ⟨q5, E70, H⟩ := oc H
 have E7w : (IntKind.i64.wrap (a0_2 * a1_0)) = q5 := (i64_w _).trans E70
 obtain ⟨q6, E80, H⟩ := oc H
 have E8w : (IntKind.i64.wrap (a0_3 * a1_1)) = q6 := (i64_w _).trans E80
 obtain ⟨q7, E90, H⟩ := oc H
 have E9w : (IntKind.i64.wrap (q5 + q6)) = q7 := (i64_w _).trans E90
 obtain ⟨q8, E100, H⟩ := oc H
 have E10w : (IntKind.i64.wrap (q7 + a0_5)) = q8 := (i64_w _).trans E100
 simp only [Option.some.injEq, Prod.mk.injEq] at H
 obtain ⟨rfl, rfl⟩ := H
 go_enter Try.func63, Try.ntmps63
 go_wp2_with (first | ((with_reducible refine gate_dst (N := 2) rfl ?_); refine bx 2 #[.int .i64 a0_0, .int .i64 a0_1, .int .i64 a0_2, .int .i64 a0_3, .int .i64 a0_4, .int .i64 a0_5] 55 fun qo hg w11 q0 hb => ?_; have ql := gw hg HB; have qi := gw hg HB; replace HB := bst HB hb; clear hb hg) | ((with_reducible refine gate_dst (N := 3) rfl ?_); refine bx 3 #[.int .i64 a1_0, .int .i64 a1_1] 37 fun qp hg w12 q9 hb => ?_; have qm := gw hg HB; have qj := gw hg HB; have qb := nlt hg q0; have qd := ngt hg q0; replace q0 := bb q0 hb; replace HB := bst HB hb; clear hb hg) | ((with_reducible refine gate_dst (N := 4) rfl ?_); refine bx 4 #[.int .i64 0, .int .i64 0] 37 fun qh hg w13 qa hb => ?_; have qn := gw hg HB; have qk := gw hg HB; have qc := nlt hg q0; have qf := ngt hg q0; have qe := nlt hg q9; have qg := ngt hg q9; replace q0 := bb q0 hb; replace q9 := bb q9 hb; replace HB := bst HB hb; clear hb hg; have qK := qb.out; have qN := qd.out; have qL := qc.out; have qO := qf.out; have ⟨qq, qr, qs, qt, qu, qv, qA, qB, qC, qD, qE, qF⟩ := cf6 q0; have qM := qe.out; have qP := qg.out; have ⟨qw, qx, qG, qH⟩ := cf2 q9; have ⟨qy, qz, qI, qJ⟩ := cf2 qa))
 refine bodyPost_ret (results_cell_row rfl _ _ qh 37 #[.int .i64 q1, .int .i64 q8] (0, 0) _ rfl (by (with_reducible repeat (first | refine blk_drewN ?_ _ | refine blk_drew ?_ | refine blk_alloc ?_ _)); refine blk_put (cs := #[.int .i64 q1, .int .i64 0]) ?_ 1 _ rfl; (with_reducible repeat (first | refine blk_drewN ?_ _ | refine blk_drew ?_ | refine blk_alloc ?_ _)); refine blk_put (cs := #[.int .i64 0, .int .i64 0]) ?_ 0 _ rfl; (with_reducible repeat (first | refine blk_drewN ?_ _ | refine blk_drew ?_ | refine blk_alloc ?_ _)); exact qa.out) Try.underlying37 rfl (by kernel_rfl)) rfl ?_
 exact rt HB
end
section
/-! ### grids_Apply: function 27 -/
def grids_Apply.j0 : Nat → Bool → Int → Int → Int → Int → Int → Int → Int → Int → Option (Int × Int × Int)
 | 0, _, _, _, _, _, _, _, _, _ => none
 | k + 1, x15, x559000, x559001, x559002, x559003, x559004, x559005, x560000, x560001 => if x15 = true then (some (0, 0, 2)) else ((grids_image.f x559000 x559001 x559002 x559003 x559004 x559005 x560000 x560001).bind fun qa => ((grids_point.f k (([(⟨qa.1, qa.2⟩ : S37)] : List (S37)))).bind fun qd => (if qd = true then (some (qa.1, qa.2, 0)) else (some (0, 0, 7)))))
def grids_Apply.f (k : Nat) (a0_0 : Int) (a0_1 : Int) (a0_2 : Int) (a0_3 : Int) (a0_4 : Int) (a0_5 : Int) (a1_0 : Int) (a1_1 : Int) : Option (Int × Int × Int) := (grids_move.f k a0_0 a0_1 a0_2 a0_3 a0_4 a0_5).bind fun qm => (if qm = true then ((grids_point.f k (([(⟨a1_0, a1_1⟩ : S37)] : List (S37)))).bind fun q9 => (grids_Apply.j0 k (!q9) a0_0 a0_1 a0_2 a0_3 a0_4 a0_5 a1_0 a1_1)) else (grids_Apply.j0 k true a0_0 a0_1 a0_2 a0_3 a0_4 a0_5 a1_0 a1_1))
theorem grids_Apply.mono_l : ∀ k, (∀ y0 y1 y2 y3 y4 y5 y6 y7 y8, LeO (grids_Apply.j0 k y0 y1 y2 y3 y4 y5 y6 y7 y8) (grids_Apply.j0 (k + 1) y0 y1 y2 y3 y4 y5 y6 y7 y8))
 | 0 => fun _ _ _ _ _ _ _ _ _ r h => by simp [grids_Apply.j0] at h
 | k + 1 => by
  have ih0 := grids_Apply.mono_l k
  ·intro y0 y1 y2 y3 y4 y5 y6 y7 y8
   unfold grids_Apply.j0
   repeat' first
   | (with_reducible exact ih0 _ _ _ _ _ _ _ _ _)
   | (with_reducible exact grids_move.mono _ _ _ _ _ _ _)
   | (with_reducible exact grids_point.mono _ _)
   | (with_reducible exact LeO.refl _)
   | (with_reducible exact LeO.none _)
   | (with_reducible refine LeO.ite ?_ ?_)
   | (with_reducible refine LeO.bind ?_ (fun _ => ?_))
   | exact ih0 _ _ _ _ _ _ _ _ _
   | exact grids_move.mono _ _ _ _ _ _ _
   | exact grids_point.mono _ _
   | exact LeO.none _
   | refine LeO.ite ?_ ?_
   | refine LeO.bind ?_ (fun _ => ?_)
theorem grids_Apply.mono : ∀ a0 a1 a2 a3 a4 a5 a6 a7 k, LeO (grids_Apply.f k a0 a1 a2 a3 a4 a5 a6 a7) (grids_Apply.f (k + 1) a0 a1 a2 a3 a4 a5 a6 a7) := by
 intro a0 a1 a2 a3 a4 a5 a6 a7 k
 have ih0 := grids_Apply.mono_l k
 unfold grids_Apply.f
 repeat' first
   | (with_reducible exact ih0 _ _ _ _ _ _ _ _ _)
   | (with_reducible exact grids_move.mono _ _ _ _ _ _ _)
   | (with_reducible exact grids_point.mono _ _)
   | (with_reducible exact LeO.refl _)
   | (with_reducible exact LeO.none _)
   | (with_reducible refine LeO.ite ?_ ?_)
   | (with_reducible refine LeO.bind ?_ (fun _ => ?_))
   | exact ih0 _ _ _ _ _ _ _ _ _
   | exact grids_move.mono _ _ _ _ _ _ _
   | exact grids_point.mono _ _
   | exact LeO.none _
   | refine LeO.ite ?_ ?_
   | refine LeO.bind ?_ (fun _ => ?_)
set_option maxHeartbeats 8000000 in
set_option maxRecDepth 100000 in
theorem grids_Apply.calls (k : Nat) (a0_0 : Int) (a0_1 : Int) (a0_2 : Int) (a0_3 : Int) (a0_4 : Int) (a0_5 : Int) (a1_0 : Int) (a1_1 : Int) (r1 : Int) (r2 : Int) (r3 : Int) (w : World) (h : grids_Apply.f k a0_0 a0_1 a0_2 a0_3 a0_4 a0_5 a1_0 a1_1 = some (r1, r2, r3)) :
  Calls Try.prog 27 #[.agg #[.int .i64 a0_0, .int .i64 a0_1, .int .i64 a0_2, .int .i64 a0_3, .int .i64 a0_4, .int .i64 a0_5], .agg #[.int .i64 a1_0, .int .i64 a1_1]] w fun e w' => e = .returned (.tuple #[.agg #[.int .i64 r1, .int .i64 r2], .int .i64 r3]) ∧ Below w.heap.size w w' := by
 have hu55 := Try.underlying55
 have hu37 := Try.underlying37
 have HB := Aside0.mk (Below.refl w.heap.size w)
 have H : ((grids_move.f k a0_0 a0_1 a0_2 a0_3 a0_4 a0_5).bind fun qm => (if qm = true then ((grids_point.f k (([(⟨a1_0, a1_1⟩ : S37)] : List (S37)))).bind fun q9 => (grids_Apply.j0 k (!q9) a0_0 a0_1 a0_2 a0_3 a0_4 a0_5 a1_0 a1_1)) else (grids_Apply.j0 k true a0_0 a0_1 a0_2 a0_3 a0_4 a0_5 a1_0 a1_1))) = some (r1, r2, r3) := h
 clear h
 have HC3 := Aside0.mk H
 clear H
 go_enter Try.func27, Try.ntmps27
 go_upto_region 1 with (first | ((with_reducible refine gate_dst (N := 2) rfl ?_); (try (refine gate_guard (by rfl) ?_; dsimp only)); refine bx 2 #[.int .i64 a0_0, .int .i64 a0_1, .int .i64 a0_2, .int .i64 a0_3, .int .i64 a0_4, .int .i64 a0_5] 55 fun qv hg w4 q0 hb => ?_; have jc := gw hg HB; have j9 := gw hg HB; replace HB := bst HB hb; clear hb hg) | ((with_reducible refine gate_dst (N := 3) rfl ?_); (try (refine gate_guard (by rfl) ?_; dsimp only)); refine bx 3 #[.int .i64 a1_0, .int .i64 a1_1] 37 fun qe hg w5 q1 hb => ?_; have jd := gw hg HB; have ja := gw hg HB; have qo := nlt hg q0; have qp := ngt hg q0; replace q0 := bb q0 hb; replace HB := bst HB hb; clear hb hg) | ((with_reducible refine gate_dst (N := 4) rfl ?_); (try (refine gate_guard (by rfl) ?_; dsimp only)); refine bx 4 #[.int .i64 0, .int .i64 0] 37 fun qb hg w6 q2 hb => ?_; have je := gw hg HB; have jb := gw hg HB; have qg := nlt hg q0; have qh := ngt hg q0; have qq := nlt hg q1; have qr := ngt hg q1; replace q0 := bb q0 hb; replace q1 := bb q1 hb; replace HB := bst HB hb; clear hb hg))
 (try simp only [Act.put, List.setIfInBounds_toArray, List.set_cons_zero, List.set_cons_succ])
 go_cut [15] (fun v15 wc => ∃ (kq : Nat) (x15_2 : Bool), v15 = .bool x15_2 ∧ Aside0 (grids_Apply.j0 kq x15_2 a0_0 a0_1 a0_2 a0_3 a0_4 a0_5 a1_0 a1_1 = some (r1, r2, r3)) ∧ Aside0 (kq ≤ k) ∧ Aside0 (wc.heap[qv]? = some (.cells #[.int .i64 a0_0, .int .i64 a0_1, .int .i64 a0_2, .int .i64 a0_3, .int .i64 a0_4, .int .i64 a0_5] 55 (0, 0))) ∧ Aside0 (wc.heap[qe]? = some (.cells #[.int .i64 a1_0, .int .i64 a1_1] 37 (0, 0))) ∧ Aside0 (wc.heap[qb]? = some (.cells #[.int .i64 0, .int .i64 0] 37 (0, 0))) ∧ Aside0 (Below w.heap.size w wc))
 case first =>
  have H := HC3.out
  clear HC3
  obtain ⟨qm, A7, H⟩ := ob H
  by_cases c8 : qm = true
  ·subst c8
   have H1 : ((grids_point.f k (([(⟨a1_0, a1_1⟩ : S37)] : List (S37)))).bind fun q9 => (grids_Apply.j0 k (!q9) a0_0 a0_1 a0_2 a0_3 a0_4 a0_5 a1_0 a1_1)) = some (r1, r2, r3) := by rw [if_pos rfl] at H; exact H
   clear H
   have H := H1
   clear H1
   obtain ⟨qw, hy562⟩ : ∃ y_ : List (S37), y_ = (([(⟨a1_0, a1_1⟩ : S37)] : List (S37))) := ⟨_, rfl⟩
   replace H : ((grids_point.f k qw).bind fun q9 => (grids_Apply.j0 k (!q9) a0_0 a0_1 a0_2 a0_3 a0_4 a0_5 a1_0 a1_1)) = some (r1, r2, r3) := by first | (rw [hy562]; with_reducible exact H) | (have H2_ := (Option.bind_some _ _).symm.trans H; rw [hy562]; with_reducible exact H2_) | (have H2_ := (Option.bind_some _ _).symm.trans H; with_reducible exact H2_) | with_reducible exact H | (rw [hy562]; exact H) | exact H
   have Ny562 := Aside0.mk hy562
   clear hy562
   obtain ⟨q9, A9, H⟩ := ob H
   have H' := Aside0.mk H
   clear H
   have ga := qo.out
   have gu := qp.out
   have gb := qg.out
   have gv := qh.out
   have ⟨qG, qH, qI, qJ, qK, qL, qU, qV, qW, qX, qY, qZ⟩ := cf6 q0
   go_wp2_with (first | ((with_reducible refine gate_callee (f := 62) rfl ?_); refine gl 8 Try.func62 (grids_move.calls k a0_0 a0_1 a0_2 a0_3 a0_4 a0_5 true _ A7.out) ?_; rintro e w13 ⟨rfl, hb⟩; refine ⟨_, rfl, ?_⟩; replace q0 := bb q0 hb; replace q1 := bb q1 hb; replace q2 := bb q2 hb; replace HB := bst HB hb; clear hb; have gc := qq.out; have gx := qr.out; have ⟨qM, qN, j0, j1⟩ := cf2 q1) | ((with_reducible refine gate_dst (N := 12) rfl ?_); (try (refine gate_guard (by rfl) ?_; dsimp only)); refine Kd.R_lit k37 _ 37 ?hg (N := 12) ?hd (xs := ([(⟨a1_0, a1_1⟩ : S37)] : List (S37))) (inner := [.int .i64 a1_0, .int .i64 a1_1]) (ok := fun _ => True) (okp := fun _ => True) ?hr ?hp (fun _ hk => hk) trivial (Below.refl _ _) (Nat.le_refl _) (by simp) ?_; (case hd => rfl); (case hg => rfl); (case hr => first | (go_simp; done) | (go_simp; rfl)); (case hp => exact (Reps.c2 (show Kd.M k37 _ _ _ (⟨a1_0, a1_1⟩ : S37) [.int .i64 a1_0, .int .i64 a1_1] from (k37_mkM _ _ _ (⟨a1_0, a1_1⟩ : S37) )) (Reps.none _ _))); intro v563 w16 qj hb hg_ hnew_; clear hg_ hnew_; (first | rw [← Ny562.out] at qj | (simp only [Int.reduceToNat] at qj; rw [← Ny562.out] at qj)); have qf := Aside0.mk (Kd.R_lower (Kd.R_newB (Kd.R_newB qj (g := qe) (o := .cells #[.int .i64 a1_0, .int .i64 a1_1] 37 (0, 0)) (pk q1)) (g := qb) (o := .cells #[.int .i64 0, .int .i64 0] 37 (0, 0)) (pk q2)) (below_size (bnow HB))); replace q0 := bb q0 hb; replace q1 := bb q1 hb; replace q2 := bb q2 hb; replace HB := bst HB hb; clear hb qj; obtain ⟨j8, jf, qD⟩ := Kd.R_slice qf.out; subst qD) | (go_at_call 49; (with_reducible refine (grids_point.calls k _ _ qw q9 _ ?side1 ?side2 A9.out).mono ?_); (case side1 => repeat (first | exact (Kd.R_reads' qf.out).2.2 | (with_reducible refine Kd.C_alloc ?_ _) | (with_reducible refine Kd.C_drewN ?_ _) | (with_reducible refine Kd.C_drew ?_))); (case side2 => exact (Kd.R_reads' qf.out).2.1); rintro e w19 ⟨rfl, hb⟩; replace qf := Aside0.mk (Kd.R_below (by (with_reducible repeat (first | apply Kd.R_alloc | apply Kd.R_drewN | apply Kd.R_drew)); exact qf.out) hb); replace q0 := bb q0 hb; replace q1 := bb q1 hb; replace q2 := bb q2 hb; replace HB := bst HB hb; (try clear hb); (try clear hb2); (try clear hk); (try clear hi)))
   go_meet
   case rel => exact ⟨_, (!q9), (by first | rfl | (simp; done) | (simp [*]; done)), H', ⟨by first | omega | exact Nat.le_refl _⟩, ⟨pk q0⟩, ⟨pk q1⟩, ⟨pk q2⟩, ⟨bnow HB⟩⟩
  ·replace c8 := Bool.eq_false_iff.mpr c8
   subst c8
   have H1 : (grids_Apply.j0 k true a0_0 a0_1 a0_2 a0_3 a0_4 a0_5 a1_0 a1_1) = some (r1, r2, r3) := by rw [if_neg (show ¬ (false = true) by decide)] at H; exact H
   clear H
   have H := H1
   clear H1
   have H' := Aside0.mk H
   clear H
   have gd := qo.out
   have gy := qp.out
   have ge := qg.out
   have gz := qh.out
   have ⟨qO, qP, qQ, qR, qS, qT, j2, j3, j4, j5, j6, j7⟩ := cf6 q0
   go_wp2_with (first | ((with_reducible refine gate_callee (f := 62) rfl ?_); refine gl 8 Try.func62 (grids_move.calls k a0_0 a0_1 a0_2 a0_3 a0_4 a0_5 false _ A7.out) ?_; rintro e w23 ⟨rfl, hb⟩; refine ⟨_, rfl, ?_⟩; replace q0 := bb q0 hb; replace q1 := bb q1 hb; replace q2 := bb q2 hb; replace HB := bst HB hb; clear hb))
   go_meet
   case rel => exact ⟨_, (true), (by first | rfl | (simp; done) | (simp [*]; done)), H', ⟨by first | omega | exact Nat.le_refl _⟩, ⟨pk q0⟩, ⟨pk q1⟩, ⟨pk q2⟩, ⟨bnow HB⟩⟩
 case rest =>
  clear HC3
  try clear c1; try clear c2; try clear p2; try clear c6; try clear c8; try clear c10; try clear c11; try clear c14; try clear c20; try clear c21; try clear qG; try clear qH; try clear qI; try clear qJ; try clear qK; try clear qL; try clear qM; try clear qN; try clear qO; try clear qP; try clear qQ; try clear qR; try clear qS; try clear qT; try clear qU; try clear qV; try clear qW; try clear qX; try clear qY; try clear qZ; try clear j0; try clear j1; try clear j2; try clear j3; try clear j4; try clear j5; try clear j6; try clear j7
  obtain ⟨kq, x15_2, rfl, HA, HJ2, q0, q1, q2, HB⟩ := hcut
  cases kq with
  | zero => exact absurd HA.out (by simp [grids_Apply.j0])
  | succ kj2 =>
   have H := HA.out
   clear HA
   simp only [grids_Apply.j0] at H
   by_cases c24 : x15_2 = true
   ·subst c24
    have H1 : (some (0, 0, 2)) = some (r1, r2, r3) := by rw [if_pos rfl] at H; exact H
    clear H
    have H := H1
    clear H1
    simp only [Option.some.injEq, Prod.mk.injEq] at H
    obtain ⟨rfl, rfl, rfl⟩ := H
    have gf := qh.out
    have gA := qg.out
    have gg := qr.out
    have gB := qq.out
    have ⟨jg, jh, jI, jJ⟩ := cf2 q2
    go_wp2
    refine bodyPost_ret (results_ct rfl _ _ qb 37 #[.int .i64 0, .int .i64 0] (0, 0) _ rfl (by (with_reducible repeat (first | refine blk_drewN ?_ _ | refine blk_drew ?_ | refine blk_alloc ?_ _)); refine blk_put (cs := #[.int .i64 0, .int .i64 0]) ?_ 1 _ rfl; (with_reducible repeat (first | refine blk_drewN ?_ _ | refine blk_drew ?_ | refine blk_alloc ?_ _)); refine blk_put (cs := #[.int .i64 0, .int .i64 0]) ?_ 0 _ rfl; (with_reducible repeat (first | refine blk_drewN ?_ _ | refine blk_drew ?_ | refine blk_alloc ?_ _)); exact q2.out) Try.underlying37 rfl (by kernel_rfl)) rfl ?_
    exact rt HB
   ·replace c24 := Bool.eq_false_iff.mpr c24
    subst c24
    have H1 : ((grids_image.f a0_0 a0_1 a0_2 a0_3 a0_4 a0_5 a1_0 a1_1).bind fun qa => ((grids_point.f kj2 (([(⟨qa.1, qa.2⟩ : S37)] : List (S37)))).bind fun qd => (if qd = true then (some (qa.1, qa.2, 0)) else (some (0, 0, 7))))) = some (r1, r2, r3) := by rw [if_neg (show ¬ (false = true) by decide)] at H; exact H
    clear H
    have H := H1
    clear H1
    obtain ⟨⟨q3, q4⟩, A28, H⟩ := ob H
    obtain ⟨qn, hy569⟩ : ∃ y_ : List (S37), y_ = (([(⟨q3, q4⟩ : S37)] : List (S37))) := ⟨_, rfl⟩
    replace H : ((grids_point.f kj2 qn).bind fun qd => (if qd = true then (some (q3, q4, 0)) else (some (0, 0, 7)))) = some (r1, r2, r3) := by first | (rw [hy569]; with_reducible exact H) | (have H2_ := (Option.bind_some _ _).symm.trans H; rw [hy569]; with_reducible exact H2_) | (have H2_ := (Option.bind_some _ _).symm.trans H; with_reducible exact H2_) | with_reducible exact H | (rw [hy569]; exact H) | exact H
    have Ny569 := Aside0.mk hy569
    clear hy569
    obtain ⟨qd, A29, H⟩ := ob H
    by_cases c30 : qd = true
    ·subst c30
     have H1 : (some (q3, q4, 0)) = some (r1, r2, r3) := by rw [if_pos rfl] at H; exact H
     clear H
     have H := H1
     clear H1
     simp only [Option.some.injEq, Prod.mk.injEq] at H
     obtain ⟨rfl, rfl, rfl⟩ := H
     have gh := qo.out
     have gC := qp.out
     have gi := qg.out
     have gD := qh.out
     have ⟨ji, jj, jk, jl, jm, jn, jK, jL, jM, jN, jO, jP⟩ := cf6 q0
     have gj := qq.out
     have gE := qr.out
     have ⟨jo, jp, jQ, jR⟩ := cf2 q1
     go_wp2_with (first | ((with_reducible refine gate_callee (f := 63) rfl ?_); refine gl 19 Try.func63 (grids_image.calls a0_0 a0_1 a0_2 a0_3 a0_4 a0_5 a1_0 a1_1 q3 q4 _ A28.out) ?_; rintro e w36 ⟨rfl, hb⟩; refine ⟨_, rfl, ?_⟩; replace q0 := bb q0 hb; replace q1 := bb q1 hb; replace q2 := bb q2 hb; replace HB := bst HB hb; clear hb) | ((with_reducible refine gate_dst (N := 6) rfl ?_); (try (refine gate_guard (by rfl) ?_; dsimp only)); refine bx 6 #[.int .i64 0, .int .i64 0] 37 fun qi hg w37 q5 hb => ?_; have qA := gw hg HB; have qz := gw hg HB; have qc := nlt hg q0; have qs := ngt hg q0; have q7 := nlt hg q1; have qt := ngt hg q1; have q8 := nlt hg q2; have qu := ngt hg q2; replace q0 := bb q0 hb; replace q1 := bb q1 hb; replace q2 := bb q2 hb; replace HB := bst HB hb; clear hb hg; have gk := qs.out; have gF := qc.out; have gm := qt.out; have gG := q7.out; have gn := qu.out; have gH := q8.out; have ⟨jq, jr, jS, jT⟩ := cf2 q5) | ((with_reducible refine gate_dst (N := 21) rfl ?_); (try (refine gate_guard (by rfl) ?_; dsimp only)); refine Kd.R_lit k37 _ 37 ?hg (N := 21) ?hd (xs := ([(⟨q3, q4⟩ : S37)] : List (S37))) (inner := [.int .i64 q3, .int .i64 q4]) (ok := fun _ => True) (okp := fun _ => True) ?hr ?hp (fun _ hk => hk) trivial (Below.refl _ _) (Nat.le_refl _) (by simp) ?_; (case hd => rfl); (case hg => rfl); (case hr => first | (go_simp; done) | (go_simp; rfl)); (case hp => exact (Reps.c2 (show Kd.M k37 _ _ _ (⟨q3, q4⟩ : S37) [.int .i64 q3, .int .i64 q4] from (k37_mkM _ _ _ (⟨q3, q4⟩ : S37) )) (Reps.none _ _))); intro v570 w42 qk hb hg_ hnew_; clear hg_ hnew_; (first | rw [← Ny569.out] at qk | (simp only [Int.reduceToNat] at qk; rw [← Ny569.out] at qk)); have q6 := Aside0.mk (Kd.R_lower (Kd.R_newB (Kd.R_newB (Kd.R_newB qk (g := qe) (o := .cells #[.int .i64 a1_0, .int .i64 a1_1] 37 (0, 0)) (by (with_reducible repeat (first | refine blk_drewN ?_ _ | refine blk_drew ?_ | refine blk_alloc ?_ _)); refine blk_far ?_ q7.out _; (with_reducible repeat (first | refine blk_drewN ?_ _ | refine blk_drew ?_ | refine blk_alloc ?_ _)); refine blk_far ?_ q7.out _; (with_reducible repeat (first | refine blk_drewN ?_ _ | refine blk_drew ?_ | refine blk_alloc ?_ _)); exact q1.out)) (g := qb) (o := .cells #[.int .i64 0, .int .i64 0] 37 (0, 0)) (by (with_reducible repeat (first | refine blk_drewN ?_ _ | refine blk_drew ?_ | refine blk_alloc ?_ _)); refine blk_far ?_ q8.out _; (with_reducible repeat (first | refine blk_drewN ?_ _ | refine blk_drew ?_ | refine blk_alloc ?_ _)); refine blk_far ?_ q8.out _; (with_reducible repeat (first | refine blk_drewN ?_ _ | refine blk_drew ?_ | refine blk_alloc ?_ _)); exact q2.out)) (g := qi) (o := .cells #[.int .i64 q3, .int .i64 q4] 37 (0, 0)) (by (with_reducible repeat (first | refine blk_drewN ?_ _ | refine blk_drew ?_ | refine blk_alloc ?_ _)); refine blk_put (cs := #[.int .i64 q3, .int .i64 0]) ?_ 1 _ rfl; (with_reducible repeat (first | refine blk_drewN ?_ _ | refine blk_drew ?_ | refine blk_alloc ?_ _)); refine blk_put (cs := #[.int .i64 0, .int .i64 0]) ?_ 0 _ rfl; (with_reducible repeat (first | refine blk_drewN ?_ _ | refine blk_drew ?_ | refine blk_alloc ?_ _)); exact q5.out)) (below_size (bnow HB))); replace q0 := Aside0.mk (blk_below (g := qv) (o := .cells #[.int .i64 a0_0, .int .i64 a0_1, .int .i64 a0_2, .int .i64 a0_3, .int .i64 a0_4, .int .i64 a0_5] 55 (0, 0)) (by (with_reducible repeat (first | refine blk_drewN ?_ _ | refine blk_drew ?_ | refine blk_alloc ?_ _)); refine blk_far ?_ qc.out _; (with_reducible repeat (first | refine blk_drewN ?_ _ | refine blk_drew ?_ | refine blk_alloc ?_ _)); refine blk_far ?_ qc.out _; (with_reducible repeat (first | refine blk_drewN ?_ _ | refine blk_drew ?_ | refine blk_alloc ?_ _)); exact q0.out) hb); replace q1 := Aside0.mk (blk_below (g := qe) (o := .cells #[.int .i64 a1_0, .int .i64 a1_1] 37 (0, 0)) (by (with_reducible repeat (first | refine blk_drewN ?_ _ | refine blk_drew ?_ | refine blk_alloc ?_ _)); refine blk_far ?_ q7.out _; (with_reducible repeat (first | refine blk_drewN ?_ _ | refine blk_drew ?_ | refine blk_alloc ?_ _)); refine blk_far ?_ q7.out _; (with_reducible repeat (first | refine blk_drewN ?_ _ | refine blk_drew ?_ | refine blk_alloc ?_ _)); exact q1.out) hb); replace q2 := Aside0.mk (blk_below (g := qb) (o := .cells #[.int .i64 0, .int .i64 0] 37 (0, 0)) (by (with_reducible repeat (first | refine blk_drewN ?_ _ | refine blk_drew ?_ | refine blk_alloc ?_ _)); refine blk_far ?_ q8.out _; (with_reducible repeat (first | refine blk_drewN ?_ _ | refine blk_drew ?_ | refine blk_alloc ?_ _)); refine blk_far ?_ q8.out _; (with_reducible repeat (first | refine blk_drewN ?_ _ | refine blk_drew ?_ | refine blk_alloc ?_ _)); exact q2.out) hb); replace q5 := Aside0.mk (blk_below (g := qi) (o := .cells #[.int .i64 q3, .int .i64 q4] 37 (0, 0)) (by (with_reducible repeat (first | refine blk_drewN ?_ _ | refine blk_drew ?_ | refine blk_alloc ?_ _)); refine blk_put (cs := #[.int .i64 q3, .int .i64 0]) ?_ 1 _ rfl; (with_reducible repeat (first | refine blk_drewN ?_ _ | refine blk_drew ?_ | refine blk_alloc ?_ _)); refine blk_put (cs := #[.int .i64 0, .int .i64 0]) ?_ 0 _ rfl; (with_reducible repeat (first | refine blk_drewN ?_ _ | refine blk_drew ?_ | refine blk_alloc ?_ _)); exact q5.out) hb); replace HB := bst HB hb; clear hb qk; obtain ⟨qx, qB, qE⟩ := Kd.R_slice q6.out; subst qE) | ((with_reducible refine gate_callee (f := 49) rfl ?_); refine goesL_ (some 22) rfl rfl Try.func49 (by kernel_rfl) rfl #[.slice qx qn.length qB] rfl am ?_; (with_reducible refine (grids_point.calls kj2 _ _ qn true _ ?side1 ?side2 A29.out).mono ?_); (case side1 => repeat (first | exact (Kd.R_reads' q6.out).2.2 | (with_reducible refine Kd.C_alloc ?_ _) | (with_reducible refine Kd.C_drewN ?_ _) | (with_reducible refine Kd.C_drew ?_))); (case side2 => exact (Kd.R_reads' q6.out).2.1); rintro e w45 ⟨rfl, hb⟩; refine ⟨_, rfl, ?_⟩; replace q6 := Aside0.mk (Kd.R_below (by (with_reducible repeat (first | apply Kd.R_alloc | apply Kd.R_drewN | apply Kd.R_drew)); exact q6.out) hb); replace q0 := bb q0 hb; replace q1 := bb q1 hb; replace q2 := bb q2 hb; replace q5 := bb q5 hb; replace HB := bst HB hb; (try clear hb); (try clear hb2); (try clear hk); (try clear hi); have ⟨js, jt, jU, jV⟩ := cf2 q5; have ⟨ju, jv, jW, jX⟩ := cf2 q2))
     refine bodyPost_ret (results_ct rfl _ _ qb 37 #[.int .i64 q3, .int .i64 q4] (0, 0) _ rfl (by (with_reducible repeat (first | refine blk_drewN ?_ _ | refine blk_drew ?_ | refine blk_alloc ?_ _)); refine blk_put (cs := #[.int .i64 q3, .int .i64 0]) ?_ 1 _ rfl; (with_reducible repeat (first | refine blk_drewN ?_ _ | refine blk_drew ?_ | refine blk_alloc ?_ _)); refine blk_put (cs := #[.int .i64 0, .int .i64 0]) ?_ 0 _ rfl; (with_reducible repeat (first | refine blk_drewN ?_ _ | refine blk_drew ?_ | refine blk_alloc ?_ _)); exact q2.out) Try.underlying37 rfl (by kernel_rfl)) rfl ?_
     exact rt HB
    ·replace c30 := Bool.eq_false_iff.mpr c30
     subst c30
     have H1 : (some (0, 0, 7)) = some (r1, r2, r3) := by rw [if_neg (show ¬ (false = true) by decide)] at H; exact H
     clear H
     have H := H1
     clear H1
     simp only [Option.some.injEq, Prod.mk.injEq] at H
     obtain ⟨rfl, rfl, rfl⟩ := H
     have go := qo.out
     have gI := qp.out
     have gp := qg.out
     have gJ := qh.out
     have ⟨jw, jx, jy, jz, jA, jB, jY, jZ, g0, g1, g2, g3⟩ := cf6 q0
     have gq := qq.out
     have gK := qr.out
     have ⟨jC, jD, g4, g5⟩ := cf2 q1
     go_wp2_with (first | ((with_reducible refine gate_callee (f := 63) rfl ?_); refine gl 19 Try.func63 (grids_image.calls a0_0 a0_1 a0_2 a0_3 a0_4 a0_5 a1_0 a1_1 q3 q4 _ A28.out) ?_; rintro e w53 ⟨rfl, hb⟩; refine ⟨_, rfl, ?_⟩; replace q0 := bb q0 hb; replace q1 := bb q1 hb; replace q2 := bb q2 hb; replace HB := bst HB hb; clear hb) | ((with_reducible refine gate_dst (N := 6) rfl ?_); (try (refine gate_guard (by rfl) ?_; dsimp only)); refine bx 6 #[.int .i64 0, .int .i64 0] 37 fun qi hg w54 q5 hb => ?_; have qA := gw hg HB; have qz := gw hg HB; have qc := nlt hg q0; have qs := ngt hg q0; have q7 := nlt hg q1; have qt := ngt hg q1; have q8 := nlt hg q2; have qu := ngt hg q2; replace q0 := bb q0 hb; replace q1 := bb q1 hb; replace q2 := bb q2 hb; replace HB := bst HB hb; clear hb hg; have gr := qs.out; have gL := qc.out; have gs := qt.out; have gM := q7.out; have gt := qu.out; have gN := q8.out; have ⟨jE, jF, g6, g7⟩ := cf2 q5) | ((with_reducible refine gate_dst (N := 21) rfl ?_); (try (refine gate_guard (by rfl) ?_; dsimp only)); refine Kd.R_lit k37 _ 37 ?hg (N := 21) ?hd (xs := ([(⟨q3, q4⟩ : S37)] : List (S37))) (inner := [.int .i64 q3, .int .i64 q4]) (ok := fun _ => True) (okp := fun _ => True) ?hr ?hp (fun _ hk => hk) trivial (Below.refl _ _) (Nat.le_refl _) (by simp) ?_; (case hd => rfl); (case hg => rfl); (case hr => first | (go_simp; done) | (go_simp; rfl)); (case hp => exact (Reps.c2 (show Kd.M k37 _ _ _ (⟨q3, q4⟩ : S37) [.int .i64 q3, .int .i64 q4] from (k37_mkM _ _ _ (⟨q3, q4⟩ : S37) )) (Reps.none _ _))); intro v570 w59 ql hb hg_ hnew_; clear hg_ hnew_; (first | rw [← Ny569.out] at ql | (simp only [Int.reduceToNat] at ql; rw [← Ny569.out] at ql)); have q6 := Aside0.mk (Kd.R_lower (Kd.R_newB (Kd.R_newB (Kd.R_newB ql (g := qe) (o := .cells #[.int .i64 a1_0, .int .i64 a1_1] 37 (0, 0)) (by (with_reducible repeat (first | refine blk_drewN ?_ _ | refine blk_drew ?_ | refine blk_alloc ?_ _)); refine blk_far ?_ q7.out _; (with_reducible repeat (first | refine blk_drewN ?_ _ | refine blk_drew ?_ | refine blk_alloc ?_ _)); refine blk_far ?_ q7.out _; (with_reducible repeat (first | refine blk_drewN ?_ _ | refine blk_drew ?_ | refine blk_alloc ?_ _)); exact q1.out)) (g := qb) (o := .cells #[.int .i64 0, .int .i64 0] 37 (0, 0)) (by (with_reducible repeat (first | refine blk_drewN ?_ _ | refine blk_drew ?_ | refine blk_alloc ?_ _)); refine blk_far ?_ q8.out _; (with_reducible repeat (first | refine blk_drewN ?_ _ | refine blk_drew ?_ | refine blk_alloc ?_ _)); refine blk_far ?_ q8.out _; (with_reducible repeat (first | refine blk_drewN ?_ _ | refine blk_drew ?_ | refine blk_alloc ?_ _)); exact q2.out)) (g := qi) (o := .cells #[.int .i64 q3, .int .i64 q4] 37 (0, 0)) (by (with_reducible repeat (first | refine blk_drewN ?_ _ | refine blk_drew ?_ | refine blk_alloc ?_ _)); refine blk_put (cs := #[.int .i64 q3, .int .i64 0]) ?_ 1 _ rfl; (with_reducible repeat (first | refine blk_drewN ?_ _ | refine blk_drew ?_ | refine blk_alloc ?_ _)); refine blk_put (cs := #[.int .i64 0, .int .i64 0]) ?_ 0 _ rfl; (with_reducible repeat (first | refine blk_drewN ?_ _ | refine blk_drew ?_ | refine blk_alloc ?_ _)); exact q5.out)) (below_size (bnow HB))); replace q0 := Aside0.mk (blk_below (g := qv) (o := .cells #[.int .i64 a0_0, .int .i64 a0_1, .int .i64 a0_2, .int .i64 a0_3, .int .i64 a0_4, .int .i64 a0_5] 55 (0, 0)) (by (with_reducible repeat (first | refine blk_drewN ?_ _ | refine blk_drew ?_ | refine blk_alloc ?_ _)); refine blk_far ?_ qc.out _; (with_reducible repeat (first | refine blk_drewN ?_ _ | refine blk_drew ?_ | refine blk_alloc ?_ _)); refine blk_far ?_ qc.out _; (with_reducible repeat (first | refine blk_drewN ?_ _ | refine blk_drew ?_ | refine blk_alloc ?_ _)); exact q0.out) hb); replace q1 := Aside0.mk (blk_below (g := qe) (o := .cells #[.int .i64 a1_0, .int .i64 a1_1] 37 (0, 0)) (by (with_reducible repeat (first | refine blk_drewN ?_ _ | refine blk_drew ?_ | refine blk_alloc ?_ _)); refine blk_far ?_ q7.out _; (with_reducible repeat (first | refine blk_drewN ?_ _ | refine blk_drew ?_ | refine blk_alloc ?_ _)); refine blk_far ?_ q7.out _; (with_reducible repeat (first | refine blk_drewN ?_ _ | refine blk_drew ?_ | refine blk_alloc ?_ _)); exact q1.out) hb); replace q2 := Aside0.mk (blk_below (g := qb) (o := .cells #[.int .i64 0, .int .i64 0] 37 (0, 0)) (by (with_reducible repeat (first | refine blk_drewN ?_ _ | refine blk_drew ?_ | refine blk_alloc ?_ _)); refine blk_far ?_ q8.out _; (with_reducible repeat (first | refine blk_drewN ?_ _ | refine blk_drew ?_ | refine blk_alloc ?_ _)); refine blk_far ?_ q8.out _; (with_reducible repeat (first | refine blk_drewN ?_ _ | refine blk_drew ?_ | refine blk_alloc ?_ _)); exact q2.out) hb); replace q5 := Aside0.mk (blk_below (g := qi) (o := .cells #[.int .i64 q3, .int .i64 q4] 37 (0, 0)) (by (with_reducible repeat (first | refine blk_drewN ?_ _ | refine blk_drew ?_ | refine blk_alloc ?_ _)); refine blk_put (cs := #[.int .i64 q3, .int .i64 0]) ?_ 1 _ rfl; (with_reducible repeat (first | refine blk_drewN ?_ _ | refine blk_drew ?_ | refine blk_alloc ?_ _)); refine blk_put (cs := #[.int .i64 0, .int .i64 0]) ?_ 0 _ rfl; (with_reducible repeat (first | refine blk_drewN ?_ _ | refine blk_drew ?_ | refine blk_alloc ?_ _)); exact q5.out) hb); replace HB := bst HB hb; clear hb ql; obtain ⟨qy, qC, qF⟩ := Kd.R_slice q6.out; subst qF) | ((with_reducible refine gate_callee (f := 49) rfl ?_); refine goesL_ (some 22) rfl rfl Try.func49 (by kernel_rfl) rfl #[.slice qy qn.length qC] rfl am ?_; (with_reducible refine (grids_point.calls kj2 _ _ qn false _ ?side1 ?side2 A29.out).mono ?_); (case side1 => repeat (first | exact (Kd.R_reads' q6.out).2.2 | (with_reducible refine Kd.C_alloc ?_ _) | (with_reducible refine Kd.C_drewN ?_ _) | (with_reducible refine Kd.C_drew ?_))); (case side2 => exact (Kd.R_reads' q6.out).2.1); rintro e w62 ⟨rfl, hb⟩; refine ⟨_, rfl, ?_⟩; replace q6 := Aside0.mk (Kd.R_below (by (with_reducible repeat (first | apply Kd.R_alloc | apply Kd.R_drewN | apply Kd.R_drew)); exact q6.out) hb); replace q0 := bb q0 hb; replace q1 := bb q1 hb; replace q2 := bb q2 hb; replace q5 := bb q5 hb; replace HB := bst HB hb; (try clear hb); (try clear hb2); (try clear hk); (try clear hi); have ⟨jG, jH, g8, g9⟩ := cf2 q2))
     refine bodyPost_ret (results_ct rfl _ _ qb 37 #[.int .i64 0, .int .i64 0] (0, 0) _ rfl (by (with_reducible repeat (first | refine blk_drewN ?_ _ | refine blk_drew ?_ | refine blk_alloc ?_ _)); refine blk_put (cs := #[.int .i64 0, .int .i64 0]) ?_ 1 _ rfl; (with_reducible repeat (first | refine blk_drewN ?_ _ | refine blk_drew ?_ | refine blk_alloc ?_ _)); refine blk_put (cs := #[.int .i64 0, .int .i64 0]) ?_ 0 _ rfl; (with_reducible repeat (first | refine blk_drewN ?_ _ | refine blk_drew ?_ | refine blk_alloc ?_ _)); exact q2.out) Try.underlying37 rfl (by kernel_rfl)) rfl ?_
     exact rt HB
end
section
attribute [local go_sem high] eqA25
/-! ### grids_Order: function 33 -/
mutual
def grids_Order.j0 : Nat → Int → Int → Bool → Option (Int × Int)
 | 0, _, _, _ => none
 | k + 1, x5, x6, x28 => if x28 = true then (some (3, 0)) else (if x5 = 1 then (grids_Order.j1 k x5 x6 (x6 == 0)) else (grids_Order.j1 k x5 x6 false))
def grids_Order.j1 : Nat → Int → Int → Bool → Option (Int × Int)
 | 0, _, _, _ => none
 | k + 1, x5, x6, x35 => if x35 = true then (some (4, 0)) else (if x5 = 1 then (if x6 = 1 then (some (6, 0)) else (some (0, 0))) else (some (0, 0)))
end
def grids_Order.f (k : Nat) (a0_0 : Int) (a0_1 : Int) (a0_2 : Int) (a0_3 : Int) : Option (Int × Int) := (grids_matrix.f a0_0 a0_1 a0_2 a0_3).bind fun qf => (if qf = true then ((grids_det.f a0_0 a0_1 a0_2 a0_3).bind fun q2 => ((some (wrap64 (a0_0 + a0_3))).bind fun q3 => (if (a0_0 == 1 && (a0_1 == 0 && (a0_2 == 0 && (a0_3 == 1)))) = true then (some (1, 0)) else ((grids_times.f a0_0 a0_1 a0_2 a0_3 a0_0 a0_1 a0_2 a0_3).bind fun q6 => (if (q6.1 == 1 && (q6.2.1 == 0 && (q6.2.2.1 == 0 && (q6.2.2.2 == 1)))) = true then (some (2, 0)) else (if q2 = 1 then (grids_Order.j0 k q2 q3 (q3 == (-1))) else (grids_Order.j0 k q2 q3 false))))))) else (some (0, 2)))
theorem grids_Order.mono_l : ∀ k, (∀ y0 y1 y2, LeO (grids_Order.j0 k y0 y1 y2) (grids_Order.j0 (k + 1) y0 y1 y2)) ∧ (∀ y0 y1 y2, LeO (grids_Order.j1 k y0 y1 y2) (grids_Order.j1 (k + 1) y0 y1 y2))
 | 0 => ⟨fun _ _ _ r h => by simp [grids_Order.j0] at h, fun _ _ _ r h => by simp [grids_Order.j1] at h⟩
 | k + 1 => by
  obtain ⟨ih0, ih1⟩ := grids_Order.mono_l k
  refine ⟨?_, ?_⟩
  ·intro y0 y1 y2
   unfold grids_Order.j0
   repeat' first
   | (with_reducible exact ih0 _ _ _)
   | (with_reducible exact ih1 _ _ _)
   | (with_reducible exact LeO.refl _)
   | (with_reducible exact LeO.none _)
   | (with_reducible refine LeO.ite ?_ ?_)
   | (with_reducible refine LeO.bind ?_ (fun _ => ?_))
   | exact ih0 _ _ _
   | exact ih1 _ _ _
   | exact LeO.none _
   | refine LeO.ite ?_ ?_
   | refine LeO.bind ?_ (fun _ => ?_)
  ·intro y0 y1 y2
   unfold grids_Order.j1
   repeat' first
   | (with_reducible exact ih0 _ _ _)
   | (with_reducible exact ih1 _ _ _)
   | (with_reducible exact LeO.refl _)
   | (with_reducible exact LeO.none _)
   | (with_reducible refine LeO.ite ?_ ?_)
   | (with_reducible refine LeO.bind ?_ (fun _ => ?_))
   | exact ih0 _ _ _
   | exact ih1 _ _ _
   | exact LeO.none _
   | refine LeO.ite ?_ ?_
   | refine LeO.bind ?_ (fun _ => ?_)
theorem grids_Order.mono : ∀ a0 a1 a2 a3 k, LeO (grids_Order.f k a0 a1 a2 a3) (grids_Order.f (k + 1) a0 a1 a2 a3) := by
 intro a0 a1 a2 a3 k
 obtain ⟨ih0, ih1⟩ := grids_Order.mono_l k
 unfold grids_Order.f
 repeat' first
   | (with_reducible exact ih0 _ _ _)
   | (with_reducible exact ih1 _ _ _)
   | (with_reducible exact LeO.refl _)
   | (with_reducible exact LeO.none _)
   | (with_reducible refine LeO.ite ?_ ?_)
   | (with_reducible refine LeO.bind ?_ (fun _ => ?_))
   | exact ih0 _ _ _
   | exact ih1 _ _ _
   | exact LeO.none _
   | refine LeO.ite ?_ ?_
   | refine LeO.bind ?_ (fun _ => ?_)
def grids_Order.T4 : Bool × List (List Nat × List Nat) := (true, [([], []), ([0], [0]), ([], []), ([2], [2]), ([], []), ([4], [4]), ([3, 5], [3, 5]), ([1, 1, 0, 1], [1]), ([6, 7, 0, 1, 2, 3, 4, 5, 6, 7], [6])])
def grids_Order.B4 : List Nat := [0, 1, 0, 4, 0, 16, 60, 3, 255]
theorem grids_Order.tab4 : rtab .any (opsOf Try.f33 4) = grids_Order.T4 := by kernel_rfl
theorem grids_Order.bits4 : waitsOk grids_Order.T4.2 grids_Order.B4 = true := by kernel_rfl
set_option maxHeartbeats 8000000 in
set_option maxRecDepth 100000 in
theorem grids_Order.calls (k : Nat) (a0_0 : Int) (a0_1 : Int) (a0_2 : Int) (a0_3 : Int) (r1 : Int) (r2 : Int) (w : World) (h : grids_Order.f k a0_0 a0_1 a0_2 a0_3 = some (r1, r2)) :
  Calls Try.prog 33 #[.agg #[.int .i64 a0_0, .int .i64 a0_1, .int .i64 a0_2, .int .i64 a0_3]] w fun e w' => e = .returned (.tuple #[.int .i64 r1, .int .i64 r2]) ∧ Below w.heap.size w w' := by
 have hu25 := Try.underlying25
 have HB := Aside0.mk (Below.refl w.heap.size w)
 have H : ((grids_matrix.f a0_0 a0_1 a0_2 a0_3).bind fun qf => (if qf = true then ((grids_det.f a0_0 a0_1 a0_2 a0_3).bind fun q2 => ((some (wrap64 (a0_0 + a0_3))).bind fun q3 => (if (a0_0 == 1 && (a0_1 == 0 && (a0_2 == 0 && (a0_3 == 1)))) = true then (some (1, 0)) else ((grids_times.f a0_0 a0_1 a0_2 a0_3 a0_0 a0_1 a0_2 a0_3).bind fun q6 => (if (q6.1 == 1 && (q6.2.1 == 0 && (q6.2.2.1 == 0 && (q6.2.2.2 == 1)))) = true then (some (2, 0)) else (if q2 = 1 then (grids_Order.j0 k q2 q3 (q3 == (-1))) else (grids_Order.j0 k q2 q3 false))))))) else (some (0, 2)))) = some (r1, r2) := h
 clear h
 obtain ⟨qf, A2, H⟩ := ob H
 by_cases c3 : qf = true
 ·subst c3
  have H1 : ((grids_det.f a0_0 a0_1 a0_2 a0_3).bind fun q2 => ((some (wrap64 (a0_0 + a0_3))).bind fun q3 => (if (a0_0 == 1 && (a0_1 == 0 && (a0_2 == 0 && (a0_3 == 1)))) = true then (some (1, 0)) else ((grids_times.f a0_0 a0_1 a0_2 a0_3 a0_0 a0_1 a0_2 a0_3).bind fun q6 => (if (q6.1 == 1 && (q6.2.1 == 0 && (q6.2.2.1 == 0 && (q6.2.2.2 == 1)))) = true then (some (2, 0)) else (if q2 = 1 then (grids_Order.j0 k q2 q3 (q3 == (-1))) else (grids_Order.j0 k q2 q3 false))))))) = some (r1, r2) := by rw [if_pos rfl] at H; exact H
  clear H
  have H := H1
  clear H1
  obtain ⟨q2, A4, H⟩ := ob H
  obtain ⟨q3, E50, H⟩ := oc H
  have E5w : (IntKind.i64.wrap (a0_0 + a0_3)) = q3 := (i64_w _).trans E50
  by_cases c6 : (a0_0 == 1 && (a0_1 == 0 && (a0_2 == 0 && (a0_3 == 1)))) = true
  ·rw [if_pos c6] at H
   have qo : (a0_0 == 1 && (a0_1 == 0 && (a0_2 == 0 && (a0_3 == 1)))) = true := c6
   (try (have qp : decide (a0_0 = 1 && (a0_1 == 0 && (a0_2 == 0 && (a0_3 == 1)))) = true := by simpa using c6))
   (try (have qq : (a0_0 == 1 && (a0_1 == 0 && (a0_2 == 0 && (a0_3 == 1)))) = true := by simpa using c6))
   clear c6
   simp only [Option.some.injEq, Prod.mk.injEq] at H
   obtain ⟨rfl, rfl⟩ := H
   go_enter Try.func33, Try.ntmps33
   try go_wp2_with (first | ((with_reducible refine gate_dst (N := 1) rfl ?_); refine bx 1 #[.int .i64 a0_0, .int .i64 a0_1, .int .i64 a0_2, .int .i64 a0_3] 25 fun q4 hg w7 q0 hb => ?_; have qh := gw hg HB; have qg := gw hg HB; replace HB := bst HB hb; clear hb hg; have ⟨jc, jd, je, jf, jY, jZ, g0, g1⟩ := cf4 q0) | ((with_reducible refine gate_callee (f := 59) rfl ?_); refine gl 8 Try.func59 (grids_matrix.calls a0_0 a0_1 a0_2 a0_3 true _ A2.out) ?_; rintro e w9 ⟨rfl, hb⟩; refine ⟨_, rfl, ?_⟩; replace q0 := bb q0 hb; replace HB := bst HB hb; clear hb) | ((with_reducible refine gate_dst (N := 4) rfl ?_); refine bx 4 #[.int .i64 0, .int .i64 0, .int .i64 0, .int .i64 0] 25 fun q5 hg w10 q1 hb => ?_; have qs := gw hg HB; have qr := gw hg HB; have qd := nlt hg q0; have qe := ngt hg q0; replace q0 := bb q0 hb; replace HB := bst HB hb; clear hb hg; have gg := qe.out; have gj := qd.out; have ⟨qu, qv, qw, qx, jg, jh, ji, jj⟩ := cf4 q1) | ((with_reducible refine gate_store (t := 25) (p := 4) rfl ?_); refine sx 25 4 (((((w10.setCell ⟨q5, 0, none⟩ (.int .i64 1)).setCell ⟨q5, 1, none⟩ (.int .i64 0)).setCell ⟨q5, 2, none⟩ (.int .i64 0)).setCell ⟨q5, 3, none⟩ (.int .i64 1))) fun w13 hw => ?_; replace q0 := fw hw q0; replace q1 := pw4 hw q1; replace HB := bw hw HB; clear hw))
   replace q0 := bd q0
   replace q1 := bd q1
   replace HB := bdn HB
   refine start_ (n := 9) (S := fun w' => w'.cell? ⟨q4, 0, none⟩ = some (.int .i64 a0_0) ∧ w'.cell? ⟨q4, 1, none⟩ = some (.int .i64 a0_1) ∧ w'.cell? ⟨q4, 2, none⟩ = some (.int .i64 a0_2) ∧ w'.cell? ⟨q4, 3, none⟩ = some (.int .i64 a0_3)) (ds := []) #[false, false, false, false, false, false, false, false, false] (by kernel_rfl) rfl rfl ⟨(blk_cell q0.out 0).trans rfl, (blk_cell q0.out 1).trans rfl, (blk_cell q0.out 2).trans rfl, (blk_cell q0.out 3).trans rfl⟩ (fun hHeld => ?_); refine with_tabW grids_Order.tab4 grids_Order.bits4 (fun HT_ HW_ => ?_)
   generalize w13.drew = w14 at q0 q1 HB hHeld ⊢
   refine pz 2 13 HT_ ?_
   refine pz 4 15 HT_ ?_
   refine tz 0 11 HT_ HW_ hHeld ?_
   refine tz 3 14 HT_ HW_ hHeld ?_
   refine tz 5 16 HT_ HW_ hHeld ?_
   refine pz 6 17 HT_ ?_
   refine one_ (i := 1) (N := some 12) #[true, true, true, true, true, true, true, false, false] rfl rfl (one_of HT_.out (by kernel_rfl)) (by decide) (fun K hK => ?_)
   refine gs _ Try.func68 (grids_det.calls a0_0 a0_1 a0_2 a0_3 q2 _ A4.out) ?_
   rintro e w15 ⟨rfl, hb⟩
   refine ⟨_, rfl, ?_⟩
   replace q0 := bb q0 hb
   replace q1 := bb q1 hb
   replace HB := bst HB hb
   (try clear hb)
   (try clear hb2)
   (try clear hk)
   (try clear hi)
   refine hK.out _ _ ⟨(blk_cell q0.out 0).trans rfl, (blk_cell q0.out 1).trans rfl, (blk_cell q0.out 2).trans rfl, (blk_cell q0.out 3).trans rfl⟩ (fun hHeld => ?_)
   clear hK K
   refine norm_ (a' := ?_) ?_ ?_
   rotate_left
   ·show Act.put _ (some 12) _ = _
    simp only [Act.put, List.setIfInBounds_toArray, List.set_cons_zero, List.set_cons_succ, i64_w, i32_w]
    rfl
   refine pz 7 5 HT_ ?_
   refine pz 8 6 HT_ ?_
   refine done_ (done_of HT_.out (by kernel_rfl)) ?_
   have ⟨qy, qz, qA, qB, jk, jl, jm, jn⟩ := cf4 q0
   have ⟨qC, qD, qE, qF, jo, jp, jq, jr⟩ := cf4 q1
   try go_wp2
   go_ret2
   exact rt HB
  ·rw [if_neg c6] at H
   have qo : (a0_0 == 1 && (a0_1 == 0 && (a0_2 == 0 && (a0_3 == 1)))) = false := by simpa using c6
   (try (have qp : decide (a0_0 = 1 && (a0_1 == 0 && (a0_2 == 0 && (a0_3 == 1)))) = false := by simpa using c6))
   (try (have qq : (a0_0 == 1 && (a0_1 == 0 && (a0_2 == 0 && (a0_3 == 1)))) = false := by simpa using c6))
   (try (have g7 : ¬ (a0_0 = 1 && (a0_1 == 0 && (a0_2 == 0 && (a0_3 == 1)))) := by simpa using c6))
   clear c6
   obtain ⟨⟨q7, q8, q9, qa⟩, A18, H⟩ := ob H
   by_cases c19 : (q7 == 1 && (q8 == 0 && (q9 == 0 && (qa == 1)))) = true
   ·rw [if_pos c19] at H
    have qk : (q7 == 1 && (q8 == 0 && (q9 == 0 && (qa == 1)))) = true := c19
    (try (have ql : decide (q7 = 1 && (q8 == 0 && (q9 == 0 && (qa == 1)))) = true := by simpa using c19))
    (try (have qm : (q7 == 1 && (q8 == 0 && (q9 == 0 && (qa == 1)))) = true := by simpa using c19))
    clear c19
    simp only [Option.some.injEq, Prod.mk.injEq] at H
    obtain ⟨rfl, rfl⟩ := H
    go_enter Try.func33, Try.ntmps33
    try go_wp2_with (first | ((with_reducible refine gate_dst (N := 1) rfl ?_); refine bx 1 #[.int .i64 a0_0, .int .i64 a0_1, .int .i64 a0_2, .int .i64 a0_3] 25 fun q4 hg w20 q0 hb => ?_; have qh := gw hg HB; have qg := gw hg HB; replace HB := bst HB hb; clear hb hg; have ⟨qG, qH, qI, qJ, js, jt, ju, jv⟩ := cf4 q0) | ((with_reducible refine gate_callee (f := 59) rfl ?_); refine gl 8 Try.func59 (grids_matrix.calls a0_0 a0_1 a0_2 a0_3 true _ A2.out) ?_; rintro e w22 ⟨rfl, hb⟩; refine ⟨_, rfl, ?_⟩; replace q0 := bb q0 hb; replace HB := bst HB hb; clear hb) | ((with_reducible refine gate_dst (N := 4) rfl ?_); refine bx 4 #[.int .i64 0, .int .i64 0, .int .i64 0, .int .i64 0] 25 fun q5 hg w23 q1 hb => ?_; have qs := gw hg HB; have qr := gw hg HB; have qd := nlt hg q0; have qe := ngt hg q0; replace q0 := bb q0 hb; replace HB := bst HB hb; clear hb hg; have gh := qe.out; have gk := qd.out; have ⟨qK, qL, qM, qN, jw, jx, jy, jz⟩ := cf4 q1) | ((with_reducible refine gate_store (t := 25) (p := 4) rfl ?_); refine sx 25 4 (((((w23.setCell ⟨q5, 0, none⟩ (.int .i64 1)).setCell ⟨q5, 1, none⟩ (.int .i64 0)).setCell ⟨q5, 2, none⟩ (.int .i64 0)).setCell ⟨q5, 3, none⟩ (.int .i64 1))) fun w26 hw => ?_; replace q0 := fw hw q0; replace q1 := pw4 hw q1; replace HB := bw hw HB; clear hw))
    replace q0 := bd q0
    replace q1 := bd q1
    replace HB := bdn HB
    refine start_ (n := 9) (S := fun w' => w'.cell? ⟨q4, 0, none⟩ = some (.int .i64 a0_0) ∧ w'.cell? ⟨q4, 1, none⟩ = some (.int .i64 a0_1) ∧ w'.cell? ⟨q4, 2, none⟩ = some (.int .i64 a0_2) ∧ w'.cell? ⟨q4, 3, none⟩ = some (.int .i64 a0_3)) (ds := []) #[false, false, false, false, false, false, false, false, false] (by kernel_rfl) rfl rfl ⟨(blk_cell q0.out 0).trans rfl, (blk_cell q0.out 1).trans rfl, (blk_cell q0.out 2).trans rfl, (blk_cell q0.out 3).trans rfl⟩ (fun hHeld => ?_); refine with_tabW grids_Order.tab4 grids_Order.bits4 (fun HT_ HW_ => ?_)
    generalize w26.drew = w27 at q0 q1 HB hHeld ⊢
    refine pz 2 13 HT_ ?_
    refine pz 4 15 HT_ ?_
    refine tz 0 11 HT_ HW_ hHeld ?_
    refine tz 3 14 HT_ HW_ hHeld ?_
    refine tz 5 16 HT_ HW_ hHeld ?_
    refine pz 6 17 HT_ ?_
    refine one_ (i := 1) (N := some 12) #[true, true, true, true, true, true, true, false, false] rfl rfl (one_of HT_.out (by kernel_rfl)) (by decide) (fun K hK => ?_)
    refine gs _ Try.func68 (grids_det.calls a0_0 a0_1 a0_2 a0_3 q2 _ A4.out) ?_
    rintro e w28 ⟨rfl, hb⟩
    refine ⟨_, rfl, ?_⟩
    replace q0 := bb q0 hb
    replace q1 := bb q1 hb
    replace HB := bst HB hb
    (try clear hb)
    (try clear hb2)
    (try clear hk)
    (try clear hi)
    refine hK.out _ _ ⟨(blk_cell q0.out 0).trans rfl, (blk_cell q0.out 1).trans rfl, (blk_cell q0.out 2).trans rfl, (blk_cell q0.out 3).trans rfl⟩ (fun hHeld => ?_)
    clear hK K
    refine norm_ (a' := ?_) ?_ ?_
    rotate_left
    ·show Act.put _ (some 12) _ = _
     simp only [Act.put, List.setIfInBounds_toArray, List.set_cons_zero, List.set_cons_succ, i64_w, i32_w]
     rfl
    refine pz 7 5 HT_ ?_
    refine pz 8 6 HT_ ?_
    refine done_ (done_of HT_.out (by kernel_rfl)) ?_
    have ⟨qO, qP, qQ, qR, jA, jB, jC, jD⟩ := cf4 q0
    have ⟨qS, qT, qU, qV, jE, jF, jG, jH⟩ := cf4 q1
    try go_wp2
    replace q0 := bd q0
    replace q1 := bd q1
    replace HB := bdn HB
    refine start_ (n := 6) (S := fun w' => w'.cell? ⟨q4, 0, none⟩ = some (.int .i64 a0_0) ∧ w'.cell? ⟨q4, 1, none⟩ = some (.int .i64 a0_1) ∧ w'.cell? ⟨q4, 2, none⟩ = some (.int .i64 a0_2) ∧ w'.cell? ⟨q4, 3, none⟩ = some (.int .i64 a0_3) ∧ w'.cell? ⟨q5, 0, none⟩ = some (.int .i64 1) ∧ w'.cell? ⟨q5, 1, none⟩ = some (.int .i64 0) ∧ w'.cell? ⟨q5, 2, none⟩ = some (.int .i64 0) ∧ w'.cell? ⟨q5, 3, none⟩ = some (.int .i64 1)) (ds := []) #[false, false, false, false, false, false] (by kernel_rfl) rfl rfl ⟨(blk_cell q0.out 0).trans rfl, (blk_cell q0.out 1).trans rfl, (blk_cell q0.out 2).trans rfl, (blk_cell q0.out 3).trans rfl, (blk_cell q1.out 0).trans rfl, (blk_cell q1.out 1).trans rfl, (blk_cell q1.out 2).trans rfl, (blk_cell q1.out 3).trans rfl⟩ (fun hHeld => ?_)
    generalize w28.drew = w31 at q0 q1 HB hHeld ⊢
    refine take_ (i := 0) (N := some 23) (v := ?_) (a' := ?_) #[true, false, false, false, false, false] rfl rfl (by kernel_rfl) (fun _ _ _ h => h) (Or.inl ⟨by rfl, ?_⟩) hHeld ?_ ?_
    rotate_left
    ·rintro w' ⟨s0, s1, s2, s3, s4, s5, s6, s7⟩
     go_simp
     with_reducible rfl
    rotate_left
    ·simp only [Act.put, List.setIfInBounds_toArray, List.set_cons_zero, List.set_cons_succ, i64_w, i32_w]
     rfl
    refine take_ (i := 1) (N := some 24) (v := ?_) (a' := ?_) #[true, true, false, false, false, false] rfl rfl (by kernel_rfl) (fun _ _ _ h => h) (Or.inl ⟨by rfl, ?_⟩) hHeld ?_ ?_
    rotate_left
    ·rintro w' ⟨s0, s1, s2, s3, s4, s5, s6, s7⟩
     go_simp
     with_reducible rfl
    rotate_left
    ·simp only [Act.put, List.setIfInBounds_toArray, List.set_cons_zero, List.set_cons_succ, i64_w, i32_w]
     rfl
    refine take_ (i := 3) (N := some 26) (v := ?_) (a' := ?_) #[true, true, false, true, false, false] rfl rfl (by kernel_rfl) (fun _ _ _ h => h) (Or.inl ⟨by rfl, ?_⟩) hHeld ?_ ?_
    rotate_left
    ·rintro w' ⟨s0, s1, s2, s3, s4, s5, s6, s7⟩
     go_simp
     with_reducible rfl
    rotate_left
    ·simp only [Act.put, List.setIfInBounds_toArray, List.set_cons_zero, List.set_cons_succ, i64_w, i32_w]
     rfl
    refine one_ (i := 2) (N := some 25) #[true, true, true, true, false, false] rfl rfl (by kernel_rfl) (by decide) (fun K hK => ?_)
    refine gs _ Try.func40 (grids_times.calls a0_0 a0_1 a0_2 a0_3 a0_0 a0_1 a0_2 a0_3 q7 q8 q9 qa _ A18.out) ?_
    rintro e w32 ⟨rfl, hb⟩
    refine ⟨_, rfl, ?_⟩
    replace q0 := bb q0 hb
    replace q1 := bb q1 hb
    replace HB := bst HB hb
    (try clear hb)
    (try clear hb2)
    (try clear hk)
    (try clear hi)
    refine hK.out _ _ ⟨(blk_cell q0.out 0).trans rfl, (blk_cell q0.out 1).trans rfl, (blk_cell q0.out 2).trans rfl, (blk_cell q0.out 3).trans rfl, (blk_cell q1.out 0).trans rfl, (blk_cell q1.out 1).trans rfl, (blk_cell q1.out 2).trans rfl, (blk_cell q1.out 3).trans rfl⟩ (fun hHeld => ?_)
    clear hK K
    refine norm_ (a' := ?_) ?_ ?_
    rotate_left
    ·show Act.put _ (some 25) _ = _
     simp only [Act.put, List.setIfInBounds_toArray, List.set_cons_zero, List.set_cons_succ, i64_w, i32_w]
     rfl
    refine pure_ (i := 4) (N := some 27) (v := ?_) (a' := ?_) #[true, true, true, true, true, false] rfl rfl (by kernel_rfl) (fun _ _ _ h => h) (Or.inl ⟨by rfl, ?_⟩) ?_ ?_
    rotate_left
    ·intro w'
     go_simp
     with_reducible rfl
    rotate_left
    ·simp only [Act.put, List.setIfInBounds_toArray, List.set_cons_zero, List.set_cons_succ, i64_w, i32_w]
     rfl
    refine pure_ (i := 5) (N := some 22) (v := ?_) (a' := ?_) #[true, true, true, true, true, true] rfl rfl (by kernel_rfl) (fun _ _ _ h => h) (Or.inl ⟨by rfl, ?_⟩) ?_ ?_
    rotate_left
    ·intro w'
     go_simp
     with_reducible rfl
    rotate_left
    ·simp only [Act.put, List.setIfInBounds_toArray, List.set_cons_zero, List.set_cons_succ, i64_w, i32_w]
     rfl
    refine done_ (by kernel_rfl) ?_
    try go_wp2
    go_ret2
    exact rt HB
   ·rw [if_neg c19] at H
    have qk : (q7 == 1 && (q8 == 0 && (q9 == 0 && (qa == 1)))) = false := by simpa using c19
    (try (have ql : decide (q7 = 1 && (q8 == 0 && (q9 == 0 && (qa == 1)))) = false := by simpa using c19))
    (try (have qm : (q7 == 1 && (q8 == 0 && (q9 == 0 && (qa == 1)))) = false := by simpa using c19))
    (try (have g6 : ¬ (q7 = 1 && (q8 == 0 && (q9 == 0 && (qa == 1)))) := by simpa using c19))
    clear c19
    have qi := Aside0.mk H
    clear H
    go_enter Try.func33, Try.ntmps33
    try go_wp2_with (first | ((with_reducible refine gate_dst (N := 1) rfl ?_); refine bx 1 #[.int .i64 a0_0, .int .i64 a0_1, .int .i64 a0_2, .int .i64 a0_3] 25 fun q4 hg w34 q0 hb => ?_; have qh := gw hg HB; have qg := gw hg HB; replace HB := bst HB hb; clear hb hg; have ⟨qW, qX, qY, qZ, jI, jJ, jK, jL⟩ := cf4 q0) | ((with_reducible refine gate_callee (f := 59) rfl ?_); refine gl 8 Try.func59 (grids_matrix.calls a0_0 a0_1 a0_2 a0_3 true _ A2.out) ?_; rintro e w36 ⟨rfl, hb⟩; refine ⟨_, rfl, ?_⟩; replace q0 := bb q0 hb; replace HB := bst HB hb; clear hb) | ((with_reducible refine gate_dst (N := 4) rfl ?_); refine bx 4 #[.int .i64 0, .int .i64 0, .int .i64 0, .int .i64 0] 25 fun q5 hg w37 q1 hb => ?_; have qs := gw hg HB; have qr := gw hg HB; have qd := nlt hg q0; have qe := ngt hg q0; replace q0 := bb q0 hb; replace HB := bst HB hb; clear hb hg; have gi := qe.out; have gm := qd.out; have ⟨j0, j1, j2, j3, jM, jN, jO, jP⟩ := cf4 q1) | ((with_reducible refine gate_store (t := 25) (p := 4) rfl ?_); refine sx 25 4 (((((w37.setCell ⟨q5, 0, none⟩ (.int .i64 1)).setCell ⟨q5, 1, none⟩ (.int .i64 0)).setCell ⟨q5, 2, none⟩ (.int .i64 0)).setCell ⟨q5, 3, none⟩ (.int .i64 1))) fun w40 hw => ?_; replace q0 := fw hw q0; replace q1 := pw4 hw q1; replace HB := bw hw HB; clear hw))
    replace q0 := bd q0
    replace q1 := bd q1
    replace HB := bdn HB
    refine start_ (n := 9) (S := fun w' => w'.cell? ⟨q4, 0, none⟩ = some (.int .i64 a0_0) ∧ w'.cell? ⟨q4, 1, none⟩ = some (.int .i64 a0_1) ∧ w'.cell? ⟨q4, 2, none⟩ = some (.int .i64 a0_2) ∧ w'.cell? ⟨q4, 3, none⟩ = some (.int .i64 a0_3)) (ds := []) #[false, false, false, false, false, false, false, false, false] (by kernel_rfl) rfl rfl ⟨(blk_cell q0.out 0).trans rfl, (blk_cell q0.out 1).trans rfl, (blk_cell q0.out 2).trans rfl, (blk_cell q0.out 3).trans rfl⟩ (fun hHeld => ?_); refine with_tabW grids_Order.tab4 grids_Order.bits4 (fun HT_ HW_ => ?_)
    generalize w40.drew = w41 at q0 q1 HB hHeld ⊢
    refine pz 2 13 HT_ ?_
    refine pz 4 15 HT_ ?_
    refine tz 0 11 HT_ HW_ hHeld ?_
    refine tz 3 14 HT_ HW_ hHeld ?_
    refine tz 5 16 HT_ HW_ hHeld ?_
    refine pz 6 17 HT_ ?_
    refine one_ (i := 1) (N := some 12) #[true, true, true, true, true, true, true, false, false] rfl rfl (one_of HT_.out (by kernel_rfl)) (by decide) (fun K hK => ?_)
    refine gs _ Try.func68 (grids_det.calls a0_0 a0_1 a0_2 a0_3 q2 _ A4.out) ?_
    rintro e w42 ⟨rfl, hb⟩
    refine ⟨_, rfl, ?_⟩
    replace q0 := bb q0 hb
    replace q1 := bb q1 hb
    replace HB := bst HB hb
    (try clear hb)
    (try clear hb2)
    (try clear hk)
    (try clear hi)
    refine hK.out _ _ ⟨(blk_cell q0.out 0).trans rfl, (blk_cell q0.out 1).trans rfl, (blk_cell q0.out 2).trans rfl, (blk_cell q0.out 3).trans rfl⟩ (fun hHeld => ?_)
    clear hK K
    refine norm_ (a' := ?_) ?_ ?_
    rotate_left
    ·show Act.put _ (some 12) _ = _
     simp only [Act.put, List.setIfInBounds_toArray, List.set_cons_zero, List.set_cons_succ, i64_w, i32_w]
     rfl
    refine pz 7 5 HT_ ?_
    refine pz 8 6 HT_ ?_
    refine done_ (done_of HT_.out (by kernel_rfl)) ?_
    have ⟨j4, j5, j6, j7, jQ, jR, jS, jT⟩ := cf4 q0
    have ⟨j8, j9, ja, jb, jU, jV, jW, jX⟩ := cf4 q1
    try go_wp2
    replace q0 := bd q0
    replace q1 := bd q1
    replace HB := bdn HB
    refine start_ (n := 6) (S := fun w' => w'.cell? ⟨q4, 0, none⟩ = some (.int .i64 a0_0) ∧ w'.cell? ⟨q4, 1, none⟩ = some (.int .i64 a0_1) ∧ w'.cell? ⟨q4, 2, none⟩ = some (.int .i64 a0_2) ∧ w'.cell? ⟨q4, 3, none⟩ = some (.int .i64 a0_3) ∧ w'.cell? ⟨q5, 0, none⟩ = some (.int .i64 1) ∧ w'.cell? ⟨q5, 1, none⟩ = some (.int .i64 0) ∧ w'.cell? ⟨q5, 2, none⟩ = some (.int .i64 0) ∧ w'.cell? ⟨q5, 3, none⟩ = some (.int .i64 1)) (ds := []) #[false, false, false, false, false, false] (by kernel_rfl) rfl rfl ⟨(blk_cell q0.out 0).trans rfl, (blk_cell q0.out 1).trans rfl, (blk_cell q0.out 2).trans rfl, (blk_cell q0.out 3).trans rfl, (blk_cell q1.out 0).trans rfl, (blk_cell q1.out 1).trans rfl, (blk_cell q1.out 2).trans rfl, (blk_cell q1.out 3).trans rfl⟩ (fun hHeld => ?_)
    generalize w42.drew = w45 at q0 q1 HB hHeld ⊢
    refine take_ (i := 0) (N := some 23) (v := ?_) (a' := ?_) #[true, false, false, false, false, false] rfl rfl (by kernel_rfl) (fun _ _ _ h => h) (Or.inl ⟨by rfl, ?_⟩) hHeld ?_ ?_
    rotate_left
    ·rintro w' ⟨s0, s1, s2, s3, s4, s5, s6, s7⟩
     go_simp
     with_reducible rfl
    rotate_left
    ·simp only [Act.put, List.setIfInBounds_toArray, List.set_cons_zero, List.set_cons_succ, i64_w, i32_w]
     rfl
    refine take_ (i := 1) (N := some 24) (v := ?_) (a' := ?_) #[true, true, false, false, false, false] rfl rfl (by kernel_rfl) (fun _ _ _ h => h) (Or.inl ⟨by rfl, ?_⟩) hHeld ?_ ?_
    rotate_left
    ·rintro w' ⟨s0, s1, s2, s3, s4, s5, s6, s7⟩
     go_simp
     with_reducible rfl
    rotate_left
    ·simp only [Act.put, List.setIfInBounds_toArray, List.set_cons_zero, List.set_cons_succ, i64_w, i32_w]
     rfl
    refine take_ (i := 3) (N := some 26) (v := ?_) (a' := ?_) #[true, true, false, true, false, false] rfl rfl (by kernel_rfl) (fun _ _ _ h => h) (Or.inl ⟨by rfl, ?_⟩) hHeld ?_ ?_
    rotate_left
    ·rintro w' ⟨s0, s1, s2, s3, s4, s5, s6, s7⟩
     go_simp
     with_reducible rfl
    rotate_left
    ·simp only [Act.put, List.setIfInBounds_toArray, List.set_cons_zero, List.set_cons_succ, i64_w, i32_w]
     rfl
    refine one_ (i := 2) (N := some 25) #[true, true, true, true, false, false] rfl rfl (by kernel_rfl) (by decide) (fun K hK => ?_)
    refine gs _ Try.func40 (grids_times.calls a0_0 a0_1 a0_2 a0_3 a0_0 a0_1 a0_2 a0_3 q7 q8 q9 qa _ A18.out) ?_
    rintro e w46 ⟨rfl, hb⟩
    refine ⟨_, rfl, ?_⟩
    replace q0 := bb q0 hb
    replace q1 := bb q1 hb
    replace HB := bst HB hb
    (try clear hb)
    (try clear hb2)
    (try clear hk)
    (try clear hi)
    refine hK.out _ _ ⟨(blk_cell q0.out 0).trans rfl, (blk_cell q0.out 1).trans rfl, (blk_cell q0.out 2).trans rfl, (blk_cell q0.out 3).trans rfl, (blk_cell q1.out 0).trans rfl, (blk_cell q1.out 1).trans rfl, (blk_cell q1.out 2).trans rfl, (blk_cell q1.out 3).trans rfl⟩ (fun hHeld => ?_)
    clear hK K
    refine norm_ (a' := ?_) ?_ ?_
    rotate_left
    ·show Act.put _ (some 25) _ = _
     simp only [Act.put, List.setIfInBounds_toArray, List.set_cons_zero, List.set_cons_succ, i64_w, i32_w]
     rfl
    refine pure_ (i := 4) (N := some 27) (v := ?_) (a' := ?_) #[true, true, true, true, true, false] rfl rfl (by kernel_rfl) (fun _ _ _ h => h) (Or.inl ⟨by rfl, ?_⟩) ?_ ?_
    rotate_left
    ·intro w'
     go_simp
     with_reducible rfl
    rotate_left
    ·simp only [Act.put, List.setIfInBounds_toArray, List.set_cons_zero, List.set_cons_succ, i64_w, i32_w]
     rfl
    refine pure_ (i := 5) (N := some 22) (v := ?_) (a' := ?_) #[true, true, true, true, true, true] rfl rfl (by kernel_rfl) (fun _ _ _ h => h) (Or.inl ⟨by rfl, ?_⟩) ?_ ?_
    rotate_left
    ·intro w'
     go_simp
     with_reducible rfl
    rotate_left
    ·simp only [Act.put, List.setIfInBounds_toArray, List.set_cons_zero, List.set_cons_succ, i64_w, i32_w]
     rfl
    refine done_ (by kernel_rfl) ?_
    go_upto_region 9 with (fail)
    go_cut [28] (fun v28 wc => ∃ (kq : Nat) (x28_32 : Bool), v28 = .bool x28_32 ∧ Aside0 (grids_Order.j0 kq q2 q3 x28_32 = some (r1, r2)) ∧ Aside0 (kq ≤ k) ∧ Aside0 (wc.heap[q4]? = some (.cells #[.int .i64 a0_0, .int .i64 a0_1, .int .i64 a0_2, .int .i64 a0_3] 25 (0, 0))) ∧ Aside0 (wc.heap[q5]? = some (.cells #[.int .i64 1, .int .i64 0, .int .i64 0, .int .i64 1] 25 (0, 0))) ∧ Aside0 (Below w.heap.size w wc))
    case first =>
     have H := qi.out
     clear qi
     by_cases c47 : q2 = 1
     ·rw [if_pos c47] at H
      have qb : (q2 == 1) = true := beq_iff_eq.mpr c47
      have qn : (q2 != 1) = false := bne_eq_false_iff_eq.mpr c47
      clear c47
      (first | rw [qb] | (simp only [i64_w, i32_w]; rw [qb]) | skip)
      have H' := Aside0.mk H
      clear H
      go_wp2
      go_meet
      case rel => exact ⟨_, ((q3 == (-1))), (by first | rfl | (simp; done) | (simp [*]; done)), H', ⟨by first | omega | exact Nat.le_refl _⟩, ⟨pk q0⟩, ⟨pk q1⟩, ⟨bnow HB⟩⟩
     ·rw [if_neg c47] at H
      have qb : (q2 == 1) = false := beq_eq_false_iff_ne.mpr c47
      have qn : (q2 != 1) = true := bne_iff_ne.mpr c47
      (first | rw [qb] | (simp only [i64_w, i32_w]; rw [qb]) | skip)
      have H' := Aside0.mk H
      clear H
      go_wp2
      go_meet
      case rel => exact ⟨_, (false), (by first | rfl | (simp; done) | (simp [*]; done)), H', ⟨by first | omega | exact Nat.le_refl _⟩, ⟨pk q0⟩, ⟨pk q1⟩, ⟨bnow HB⟩⟩
    case rest =>
     clear qi
     try clear c1; try clear c2; try clear p2; try clear c3; try clear c4; try clear c5; try clear c6; try clear qo; try clear qp; try clear qq; try clear p6; try clear c11; try clear c19; try clear qk; try clear ql; try clear qm; try clear c24; try clear c33; try clear c38; try clear c40; try clear c47; try clear qb; try clear qn; try clear qu; try clear qv; try clear qw; try clear qx; try clear qy; try clear qz; try clear qA; try clear qB; try clear qC; try clear qD; try clear qE; try clear qF; try clear qG; try clear qH; try clear qI; try clear qJ; try clear qK; try clear qL; try clear qM; try clear qN; try clear qO; try clear qP; try clear qQ; try clear qR; try clear qS; try clear qT; try clear qU; try clear qV; try clear qW; try clear qX; try clear qY; try clear qZ; try clear j0; try clear j1; try clear j2; try clear j3; try clear j4; try clear j5; try clear j6; try clear j7; try clear j8; try clear j9; try clear ja; try clear jb; try clear jc; try clear jd; try clear je; try clear jf; try clear jg; try clear jh; try clear ji; try clear jj; try clear jk; try clear jl; try clear jm; try clear jn; try clear jo; try clear jp; try clear jq; try clear jr; try clear js; try clear jt; try clear ju; try clear jv; try clear jw; try clear jx; try clear jy; try clear jz; try clear jA; try clear jB; try clear jC; try clear jD; try clear jE; try clear jF; try clear jG; try clear jH; try clear jI; try clear jJ; try clear jK; try clear jL; try clear jM; try clear jN; try clear jO; try clear jP; try clear jQ; try clear jR; try clear jS; try clear jT; try clear jU; try clear jV; try clear jW; try clear jX; try clear jY; try clear jZ; try clear g0; try clear g1
     obtain ⟨kq, x28_32, rfl, HA, HJ32, q0, q1, HB⟩ := hcut
     cases kq with
     | zero => exact absurd HA.out (by simp [grids_Order.j0])
     | succ kj32 =>
      have H := HA.out
      clear HA
      simp only [grids_Order.j0] at H
      by_cases c48 : x28_32 = true
      ·subst c48
       have H1 : (some (3, 0)) = some (r1, r2) := by rw [if_pos rfl] at H; exact H
       clear H
       have H := H1
       clear H1
       simp only [Option.some.injEq, Prod.mk.injEq] at H
       obtain ⟨rfl, rfl⟩ := H
       go_wp2
       go_ret2
       exact rt HB
      ·replace c48 := Bool.eq_false_iff.mpr c48
       subst c48
       have H1 : (if q2 = 1 then (grids_Order.j1 kj32 q2 q3 (q3 == 0)) else (grids_Order.j1 kj32 q2 q3 false)) = some (r1, r2) := by rw [if_neg (show ¬ (false = true) by decide)] at H; exact H
       clear H
       have H := H1
       clear H1
       have qj := Aside0.mk H
       clear H
       go_upto_region 11 with (fail)
       go_cut [35] (fun v35 wc => ∃ (kq : Nat) (x35_48 : Bool), v35 = .bool x35_48 ∧ Aside0 (grids_Order.j1 kq q2 q3 x35_48 = some (r1, r2)) ∧ Aside0 (kq ≤ kj32) ∧ Aside0 (wc.heap[q4]? = some (.cells #[.int .i64 a0_0, .int .i64 a0_1, .int .i64 a0_2, .int .i64 a0_3] 25 (0, 0))) ∧ Aside0 (wc.heap[q5]? = some (.cells #[.int .i64 1, .int .i64 0, .int .i64 0, .int .i64 1] 25 (0, 0))) ∧ Aside0 (Below w.heap.size w wc))
       case first =>
        have H := qj.out
        clear qj
        by_cases c50 : q2 = 1
        ·rw [if_pos c50] at H
         have qc : (q2 == 1) = true := beq_iff_eq.mpr c50
         have qt : (q2 != 1) = false := bne_eq_false_iff_eq.mpr c50
         clear c50
         (first | rw [qc] | (simp only [i64_w, i32_w]; rw [qc]) | skip)
         have H' := Aside0.mk H
         clear H
         go_wp2
         go_meet
         case rel => exact ⟨_, ((q3 == 0)), (by first | rfl | (simp; done) | (simp [*]; done)), H', ⟨by have := HJ32.out; first | omega | exact Nat.le_refl _⟩, ⟨pk q0⟩, ⟨pk q1⟩, ⟨bnow HB⟩⟩
        ·rw [if_neg c50] at H
         have qc : (q2 == 1) = false := beq_eq_false_iff_ne.mpr c50
         have qt : (q2 != 1) = true := bne_iff_ne.mpr c50
         (first | rw [qc] | (simp only [i64_w, i32_w]; rw [qc]) | skip)
         have H' := Aside0.mk H
         clear H
         go_wp2
         go_meet
         case rel => exact ⟨_, (false), (by first | rfl | (simp; done) | (simp [*]; done)), H', ⟨by have := HJ32.out; first | omega | exact Nat.le_refl _⟩, ⟨pk q0⟩, ⟨pk q1⟩, ⟨bnow HB⟩⟩
       case rest =>
        clear qj
        try clear c1; try clear c2; try clear p2; try clear c3; try clear c4; try clear c5; try clear c6; try clear qo; try clear qp; try clear qq; try clear p6; try clear c11; try clear c19; try clear qk; try clear ql; try clear qm; try clear c24; try clear c33; try clear c38; try clear c40; try clear c47; try clear qb; try clear qn; try clear c48; try clear c50; try clear qc; try clear qt; try clear qu; try clear qv; try clear qw; try clear qx; try clear qy; try clear qz; try clear qA; try clear qB; try clear qC; try clear qD; try clear qE; try clear qF; try clear qG; try clear qH; try clear qI; try clear qJ; try clear qK; try clear qL; try clear qM; try clear qN; try clear qO; try clear qP; try clear qQ; try clear qR; try clear qS; try clear qT; try clear qU; try clear qV; try clear qW; try clear qX; try clear qY; try clear qZ; try clear j0; try clear j1; try clear j2; try clear j3; try clear j4; try clear j5; try clear j6; try clear j7; try clear j8; try clear j9; try clear ja; try clear jb; try clear jc; try clear jd; try clear je; try clear jf; try clear jg; try clear jh; try clear ji; try clear jj; try clear jk; try clear jl; try clear jm; try clear jn; try clear jo; try clear jp; try clear jq; try clear jr; try clear js; try clear jt; try clear ju; try clear jv; try clear jw; try clear jx; try clear jy; try clear jz; try clear jA; try clear jB; try clear jC; try clear jD; try clear jE; try clear jF; try clear jG; try clear jH; try clear jI; try clear jJ; try clear jK; try clear jL; try clear jM; try clear jN; try clear jO; try clear jP; try clear jQ; try clear jR; try clear jS; try clear jT; try clear jU; try clear jV; try clear jW; try clear jX; try clear jY; try clear jZ; try clear g0; try clear g1; try clear p2; try clear p6
        obtain ⟨kq, x35_48, rfl, HA, HJ48, q0, q1, HB⟩ := hcut
        cases kq with
        | zero => exact absurd HA.out (by simp [grids_Order.j1])
        | succ kj48 =>
         have H := HA.out
         clear HA
         simp only [grids_Order.j1] at H
         by_cases c51 : x35_48 = true
         ·subst c51
          have H1 : (some (4, 0)) = some (r1, r2) := by rw [if_pos rfl] at H; exact H
          clear H
          have H := H1
          clear H1
          simp only [Option.some.injEq, Prod.mk.injEq] at H
          obtain ⟨rfl, rfl⟩ := H
          go_wp2
          go_ret2
          exact rt HB
         ·replace c51 := Bool.eq_false_iff.mpr c51
          subst c51
          have H1 : (if q2 = 1 then (if q3 = 1 then (some (6, 0)) else (some (0, 0))) else (some (0, 0))) = some (r1, r2) := by rw [if_neg (show ¬ (false = true) by decide)] at H; exact H
          clear H
          have H := H1
          clear H1
          by_cases c52 : q2 = 1
          ·rw [if_pos c52] at H
           have g2 : (q2 == 1) = true := beq_iff_eq.mpr c52
           have g3 : (q2 != 1) = false := bne_eq_false_iff_eq.mpr c52
           clear c52
           by_cases c53 : q3 = 1
           ·rw [if_pos c53] at H
            have g4 : (q3 == 1) = true := beq_iff_eq.mpr c53
            have g5 : (q3 != 1) = false := bne_eq_false_iff_eq.mpr c53
            clear c53
            simp only [Option.some.injEq, Prod.mk.injEq] at H
            obtain ⟨rfl, rfl⟩ := H
            go_wp2
            go_ret2
            exact rt HB
           ·rw [if_neg c53] at H
            have g4 : (q3 == 1) = false := beq_eq_false_iff_ne.mpr c53
            have g5 : (q3 != 1) = true := bne_iff_ne.mpr c53
            simp only [Option.some.injEq, Prod.mk.injEq] at H
            obtain ⟨rfl, rfl⟩ := H
            go_wp2
            go_ret2
            exact rt HB
          ·rw [if_neg c52] at H
           have g2 : (q2 == 1) = false := beq_eq_false_iff_ne.mpr c52
           have g3 : (q2 != 1) = true := bne_iff_ne.mpr c52
           simp only [Option.some.injEq, Prod.mk.injEq] at H
           obtain ⟨rfl, rfl⟩ := H
           go_wp2
           go_ret2
           exact rt HB
 ·replace c3 := Bool.eq_false_iff.mpr c3
  subst c3
  have H1 : (some (0, 2)) = some (r1, r2) := by rw [if_neg (show ¬ (false = true) by decide)] at H; exact H
  clear H
  have H := H1
  clear H1
  simp only [Option.some.injEq, Prod.mk.injEq] at H
  obtain ⟨rfl, rfl⟩ := H
  go_enter Try.func33, Try.ntmps33
  go_wp2_with (first | ((with_reducible refine gate_dst (N := 1) rfl ?_); refine bx 1 #[.int .i64 a0_0, .int .i64 a0_1, .int .i64 a0_2, .int .i64 a0_3] 25 fun q4 hg w54 q0 hb => ?_; have qh := gw hg HB; have qg := gw hg HB; replace HB := bst HB hb; clear hb hg; have ⟨g8, g9, ga, gb, gc, gd, ge, gf⟩ := cf4 q0) | ((with_reducible refine gate_callee (f := 59) rfl ?_); refine gl 8 Try.func59 (grids_matrix.calls a0_0 a0_1 a0_2 a0_3 false _ A2.out) ?_; rintro e w56 ⟨rfl, hb⟩; refine ⟨_, rfl, ?_⟩; replace q0 := bb q0 hb; replace HB := bst HB hb; clear hb))
  go_ret2
  exact rt HB
end
end Go.Proofs.Ytmcajdepoohlhaa.G
