/- Functions of the program as plain Lean functions, and their contracts (printed by a program of this session). No condition beyond what each states. -/
import Derived.Test.YtmcajdepoohlhaaCKeepY
import Derived.Test.YtmcajdepoohlhaaCKeepP0
import Derived.Test.YtmcajdepoohlhaaCKeepP2
import Derived.Test.YtmcajdepoohlhaaCKeepP4
import Derived.Test.YtmcajdepoohlhaaCKeepP3
namespace Go.Proofs.Ytmcajdepoohlhaa.G
open Go.RowKit Go.Proofs.YtmcajdepoohlhaaW.PrintWords Go.Proofs.YtmcajdepoohlhaaW.PrintLast Go.Proofs.YtmcajdepoohlhaaW.PrintMore
attribute [local go_sem] max2_int min2_int max_two min_two max_three min_three max_four min_four
set_option linter.unusedVariables false
set_option linter.unusedSimpArgs false
section
/-! ### grids_Compose: function 29 -/
def grids_Compose.j0 : Nat → Bool → Int → Int → Int → Int → Int → Int → Int → Int → Int → Int → Int → Int → Option (Int × Int × Int × Int × Int × Int × Int)
 | 0, _, _, _, _, _, _, _, _, _, _, _, _, _ => none
 | k + 1, x13, x874000, x874001, x874002, x874003, x874004, x874005, x875000, x875001, x875002, x875003, x875004, x875005 => if x13 = true then (some (0, 0, 0, 0, 0, 0, 2)) else ((grids_times.f x874000 x874001 x874002 x874003 x875000 x875001 x875002 x875003).bind fun q8 => ((grids_image.f x874000 x874001 x874002 x874003 x874004 x874005 x875004 x875005).bind fun qf => ((grids_valid.f k q8.1 q8.2.1 q8.2.2.1 q8.2.2.2 qf.1 qf.2).bind fun q6 => (some (q6.1, q6.2.1, q6.2.2.1, q6.2.2.2.1, q6.2.2.2.2.1, q6.2.2.2.2.2.1, q6.2.2.2.2.2.2)))))
def grids_Compose.f (k : Nat) (a0_0 : Int) (a0_1 : Int) (a0_2 : Int) (a0_3 : Int) (a0_4 : Int) (a0_5 : Int) (a1_0 : Int) (a1_1 : Int) (a1_2 : Int) (a1_3 : Int) (a1_4 : Int) (a1_5 : Int) : Option (Int × Int × Int × Int × Int × Int × Int) := (grids_move.f k a0_0 a0_1 a0_2 a0_3 a0_4 a0_5).bind fun qg => (if qg = true then ((grids_move.f k a1_0 a1_1 a1_2 a1_3 a1_4 a1_5).bind fun qa => (grids_Compose.j0 k (!qa) a0_0 a0_1 a0_2 a0_3 a0_4 a0_5 a1_0 a1_1 a1_2 a1_3 a1_4 a1_5)) else (grids_Compose.j0 k true a0_0 a0_1 a0_2 a0_3 a0_4 a0_5 a1_0 a1_1 a1_2 a1_3 a1_4 a1_5))
theorem grids_Compose.mono_l : ∀ k, (∀ y0 y1 y2 y3 y4 y5 y6 y7 y8 y9 y10 y11 y12, LeO (grids_Compose.j0 k y0 y1 y2 y3 y4 y5 y6 y7 y8 y9 y10 y11 y12) (grids_Compose.j0 (k + 1) y0 y1 y2 y3 y4 y5 y6 y7 y8 y9 y10 y11 y12))
 | 0 => fun _ _ _ _ _ _ _ _ _ _ _ _ _ r h => by simp [grids_Compose.j0] at h
 | k + 1 => by
  have ih0 := grids_Compose.mono_l k
  ·intro y0 y1 y2 y3 y4 y5 y6 y7 y8 y9 y10 y11 y12
   unfold grids_Compose.j0
   repeat' first
   | (with_reducible exact ih0 _ _ _ _ _ _ _ _ _ _ _ _ _)
   | (with_reducible exact grids_move.mono _ _ _ _ _ _ _)
   | (with_reducible exact grids_valid.mono _ _ _ _ _ _ _)
   | (with_reducible exact LeO.refl _)
   | (with_reducible exact LeO.none _)
   | (with_reducible refine LeO.ite ?_ ?_)
   | (with_reducible refine LeO.bind ?_ (fun _ => ?_))
   | exact ih0 _ _ _ _ _ _ _ _ _ _ _ _ _
   | exact grids_move.mono _ _ _ _ _ _ _
   | exact grids_valid.mono _ _ _ _ _ _ _
   | exact LeO.none _
   | refine LeO.ite ?_ ?_
   | refine LeO.bind ?_ (fun _ => ?_)
theorem grids_Compose.mono : ∀ a0 a1 a2 a3 a4 a5 a6 a7 a8 a9 a10 a11 k, LeO (grids_Compose.f k a0 a1 a2 a3 a4 a5 a6 a7 a8 a9 a10 a11) (grids_Compose.f (k + 1) a0 a1 a2 a3 a4 a5 a6 a7 a8 a9 a10 a11) := by
 intro a0 a1 a2 a3 a4 a5 a6 a7 a8 a9 a10 a11 k
 have ih0 := grids_Compose.mono_l k
 unfold grids_Compose.f
 repeat' first
   | (with_reducible exact ih0 _ _ _ _ _ _ _ _ _ _ _ _ _)
   | (with_reducible exact grids_move.mono _ _ _ _ _ _ _)
   | (with_reducible exact grids_valid.mono _ _ _ _ _ _ _)
   | (with_reducible exact LeO.refl _)
   | (with_reducible exact LeO.none _)
   | (with_reducible refine LeO.ite ?_ ?_)
   | (with_reducible refine LeO.bind ?_ (fun _ => ?_))
   | exact ih0 _ _ _ _ _ _ _ _ _ _ _ _ _
   | exact grids_move.mono _ _ _ _ _ _ _
   | exact grids_valid.mono _ _ _ _ _ _ _
   | exact LeO.none _
   | refine LeO.ite ?_ ?_
   | refine LeO.bind ?_ (fun _ => ?_)
def grids_Compose.T3 : Bool × List (List Nat × List Nat) := (true, [([], []), ([0], [0]), ([], []), ([2], [2]), ([1, 3], [1, 3]), ([], []), ([], []), ([6], [6]), ([5, 7, 4], [5, 7]), ([4, 8], [4, 8]), ([9, 8], [9]), ([10], [10]), ([10], [10]), ([11, 10, 0, 1, 2, 3, 4, 5, 6, 7, 8, 9, 10, 11, 12], [11]), ([12, 13, 0, 1, 2, 3, 4, 5, 6, 7, 8, 9, 10, 11, 12, 13], [12])])
def grids_Compose.B3 : List Nat := [0, 1, 0, 4, 15, 0, 0, 64, 255, 511, 1023, 2047, 2047, 8191, 16383]
theorem grids_Compose.tab3 : rtab .any (opsOf Try.f29 3) = grids_Compose.T3 := by kernel_rfl
theorem grids_Compose.bits3 : waitsOk grids_Compose.T3.2 grids_Compose.B3 = true := by kernel_rfl
set_option maxHeartbeats 8000000 in
set_option maxRecDepth 100000 in
theorem grids_Compose.calls (k : Nat) (a0_0 : Int) (a0_1 : Int) (a0_2 : Int) (a0_3 : Int) (a0_4 : Int) (a0_5 : Int) (a1_0 : Int) (a1_1 : Int) (a1_2 : Int) (a1_3 : Int) (a1_4 : Int) (a1_5 : Int) (r1 : Int) (r2 : Int) (r3 : Int) (r4 : Int) (r5 : Int) (r6 : Int) (r7 : Int) (w : World) (h : grids_Compose.f k a0_0 a0_1 a0_2 a0_3 a0_4 a0_5 a1_0 a1_1 a1_2 a1_3 a1_4 a1_5 = some (r1, r2, r3, r4, r5, r6, r7)) :
  Calls Try.prog 29 #[.agg #[.int .i64 a0_0, .int .i64 a0_1, .int .i64 a0_2, .int .i64 a0_3, .int .i64 a0_4, .int .i64 a0_5], .agg #[.int .i64 a1_0, .int .i64 a1_1, .int .i64 a1_2, .int .i64 a1_3, .int .i64 a1_4, .int .i64 a1_5]] w fun e w' => e = .returned (.tuple #[.agg #[.int .i64 r1, .int .i64 r2, .int .i64 r3, .int .i64 r4, .int .i64 r5, .int .i64 r6], .int .i64 r7]) ∧ Below w.heap.size w w' := by
 have hu55 := Try.underlying55
 have hu25 := Try.underlying25
 have hu37 := Try.underlying37
 have HB := Aside0.mk (Below.refl w.heap.size w)
 have H : ((grids_move.f k a0_0 a0_1 a0_2 a0_3 a0_4 a0_5).bind fun qg => (if qg = true then ((grids_move.f k a1_0 a1_1 a1_2 a1_3 a1_4 a1_5).bind fun qa => (grids_Compose.j0 k (!qa) a0_0 a0_1 a0_2 a0_3 a0_4 a0_5 a1_0 a1_1 a1_2 a1_3 a1_4 a1_5)) else (grids_Compose.j0 k true a0_0 a0_1 a0_2 a0_3 a0_4 a0_5 a1_0 a1_1 a1_2 a1_3 a1_4 a1_5))) = some (r1, r2, r3, r4, r5, r6, r7) := h
 clear h
 have HC3 := Aside0.mk H
 clear H
 go_enter Try.func29, Try.ntmps29
 go_upto_region 1 with (first | ((with_reducible refine gate_dst (N := 2) rfl ?_); refine bx 2 #[.int .i64 a0_0, .int .i64 a0_1, .int .i64 a0_2, .int .i64 a0_3, .int .i64 a0_4, .int .i64 a0_5] 55 fun qb hg w4 q1 hb => ?_; have j7 := gw hg HB; have j4 := gw hg HB; replace HB := bst HB hb; clear hb hg) | ((with_reducible refine gate_dst (N := 3) rfl ?_); refine bx 3 #[.int .i64 a1_0, .int .i64 a1_1, .int .i64 a1_2, .int .i64 a1_3, .int .i64 a1_4, .int .i64 a1_5] 55 fun qc hg w5 q2 hb => ?_; have j8 := gw hg HB; have j5 := gw hg HB; have qk := nlt hg q1; have ql := ngt hg q1; replace q1 := bb q1 hb; replace HB := bst HB hb; clear hb hg) | ((with_reducible refine gate_dst (N := 4) rfl ?_); refine bx 4 #[.int .i64 0, .int .i64 0, .int .i64 0, .int .i64 0, .int .i64 0, .int .i64 0] 55 fun q0 hg w6 q5 hb => ?_; have j9 := gw hg HB; have j6 := gw hg HB; have q3 := nlt hg q1; have q7 := ngt hg q1; have q4 := nlt hg q2; have q9 := ngt hg q2; replace q1 := bb q1 hb; replace q2 := bb q2 hb; replace HB := bst HB hb; clear hb hg))
 (try simp only [Act.put, List.setIfInBounds_toArray, List.set_cons_zero, List.set_cons_succ])
 go_cut [13] (fun v13 wc => ∃ (kq : Nat) (x13_2 : Bool), v13 = .bool x13_2 ∧ Aside0 (grids_Compose.j0 kq x13_2 a0_0 a0_1 a0_2 a0_3 a0_4 a0_5 a1_0 a1_1 a1_2 a1_3 a1_4 a1_5 = some (r1, r2, r3, r4, r5, r6, r7)) ∧ Aside0 (kq ≤ k) ∧ Aside0 (wc.heap[qb]? = some (.cells #[.int .i64 a0_0, .int .i64 a0_1, .int .i64 a0_2, .int .i64 a0_3, .int .i64 a0_4, .int .i64 a0_5] 55 (0, 0))) ∧ Aside0 (wc.heap[qc]? = some (.cells #[.int .i64 a1_0, .int .i64 a1_1, .int .i64 a1_2, .int .i64 a1_3, .int .i64 a1_4, .int .i64 a1_5] 55 (0, 0))) ∧ Aside0 (wc.heap[q0]? = some (.cells #[.int .i64 0, .int .i64 0, .int .i64 0, .int .i64 0, .int .i64 0, .int .i64 0] 55 (0, 0))) ∧ Aside0 (Below w.heap.size w wc))
 case first =>
  have H := HC3.out
  clear HC3
  obtain ⟨qg, A7, H⟩ := ob H
  by_cases c8 : qg = true
  ·subst c8
   have H1 : ((grids_move.f k a1_0 a1_1 a1_2 a1_3 a1_4 a1_5).bind fun qa => (grids_Compose.j0 k (!qa) a0_0 a0_1 a0_2 a0_3 a0_4 a0_5 a1_0 a1_1 a1_2 a1_3 a1_4 a1_5)) = some (r1, r2, r3, r4, r5, r6, r7) := by rw [if_pos rfl] at H; exact H
   clear H
   have H := H1
   clear H1
   obtain ⟨qa, A9, H⟩ := ob H
   have H' := Aside0.mk H
   clear H
   have jE := qk.out
   have jL := ql.out
   have jF := q3.out
   have jM := q7.out
   have ⟨qt, qu, qv, qw, qx, qy, qL, qM, qN, qO, qP, qQ⟩ := cf6 q1
   go_wp2_with (first | ((with_reducible refine gate_callee (f := 62) rfl ?_); refine gl 7 Try.func62 (grids_move.calls k a0_0 a0_1 a0_2 a0_3 a0_4 a0_5 true _ A7.out) ?_; rintro e w13 ⟨rfl, hb⟩; refine ⟨_, rfl, ?_⟩; replace q1 := bb q1 hb; replace q2 := bb q2 hb; replace q5 := bb q5 hb; replace HB := bst HB hb; clear hb; have jG := q4.out; have jN := q9.out; have ⟨qz, qA, qB, qC, qD, qE, qR, qS, qT, qU, qV, qW⟩ := cf6 q2) | (go_at_call 62; (with_reducible refine (grids_move.calls k a1_0 a1_1 a1_2 a1_3 a1_4 a1_5 qa _ A9.out).mono ?_); rintro e w16 ⟨rfl, hb⟩; replace q1 := bb q1 hb; replace q2 := bb q2 hb; replace q5 := bb q5 hb; replace HB := bst HB hb; clear hb))
   go_meet
   case rel => exact ⟨_, (!qa), (by first | rfl | (simp; done) | (simp [*]; done)), H', ⟨by first | omega | exact Nat.le_refl _⟩, ⟨pk q1⟩, ⟨pk q2⟩, ⟨pk q5⟩, ⟨bnow HB⟩⟩
  ·replace c8 := Bool.eq_false_iff.mpr c8
   subst c8
   have H1 : (grids_Compose.j0 k true a0_0 a0_1 a0_2 a0_3 a0_4 a0_5 a1_0 a1_1 a1_2 a1_3 a1_4 a1_5) = some (r1, r2, r3, r4, r5, r6, r7) := by rw [if_neg (show ¬ (false = true) by decide)] at H; exact H
   clear H
   have H := H1
   clear H1
   have H' := Aside0.mk H
   clear H
   have jH := qk.out
   have jO := ql.out
   have jI := q3.out
   have jP := q7.out
   have ⟨qF, qG, qH, qI, qJ, qK, qX, qY, qZ, j0, j1, j2⟩ := cf6 q1
   go_wp2_with (first | ((with_reducible refine gate_callee (f := 62) rfl ?_); refine gl 7 Try.func62 (grids_move.calls k a0_0 a0_1 a0_2 a0_3 a0_4 a0_5 false _ A7.out) ?_; rintro e w20 ⟨rfl, hb⟩; refine ⟨_, rfl, ?_⟩; replace q1 := bb q1 hb; replace q2 := bb q2 hb; replace q5 := bb q5 hb; replace HB := bst HB hb; clear hb))
   go_meet
   case rel => exact ⟨_, (true), (by first | rfl | (simp; done) | (simp [*]; done)), H', ⟨by first | omega | exact Nat.le_refl _⟩, ⟨pk q1⟩, ⟨pk q2⟩, ⟨pk q5⟩, ⟨bnow HB⟩⟩
 case rest =>
  clear HC3
  try clear c1; try clear c2; try clear p2; try clear c6; try clear c8; try clear c10; try clear c11; try clear c14; try clear c17; try clear c18; try clear qt; try clear qu; try clear qv; try clear qw; try clear qx; try clear qy; try clear qz; try clear qA; try clear qB; try clear qC; try clear qD; try clear qE; try clear qF; try clear qG; try clear qH; try clear qI; try clear qJ; try clear qK; try clear qL; try clear qM; try clear qN; try clear qO; try clear qP; try clear qQ; try clear qR; try clear qS; try clear qT; try clear qU; try clear qV; try clear qW; try clear qX; try clear qY; try clear qZ; try clear j0; try clear j1; try clear j2
  obtain ⟨kq, x13_2, rfl, HA, HJ2, q1, q2, q5, HB⟩ := hcut
  cases kq with
  | zero => exact absurd HA.out (by simp [grids_Compose.j0])
  | succ kj2 =>
   have H := HA.out
   clear HA
   simp only [grids_Compose.j0] at H
   by_cases c21 : x13_2 = true
   ·subst c21
    have H1 : (some (0, 0, 0, 0, 0, 0, 2)) = some (r1, r2, r3, r4, r5, r6, r7) := by rw [if_pos rfl] at H; exact H
    clear H
    have H := H1
    clear H1
    simp only [Option.some.injEq, Prod.mk.injEq] at H
    obtain ⟨rfl, rfl, rfl, rfl, rfl, rfl, rfl⟩ := H
    have jJ := q7.out
    have jQ := q3.out
    have jK := q9.out
    have jR := q4.out
    have ⟨ja, jb, jc, jd, je, jf, jm, jn, jo, jp, jq, jr⟩ := cf6 q5
    go_wp2_with (first | ((with_reducible refine gate_store (t := 55) (p := 4) rfl ?_); refine sx 55 4 (((((((wc.setCell ⟨q0, 0, none⟩ (.int .i64 0)).setCell ⟨q0, 1, none⟩ (.int .i64 0)).setCell ⟨q0, 2, none⟩ (.int .i64 0)).setCell ⟨q0, 3, none⟩ (.int .i64 0)).setCell ⟨q0, 4, none⟩ (.int .i64 0)).setCell ⟨q0, 5, none⟩ (.int .i64 0))) fun w25 hw => ?_; replace q1 := fw hw q1; replace q2 := fw hw q2; replace q5 := pw6 hw q5; replace HB := bw hw HB; clear hw))
    refine bodyPost_ret (results_ct rfl _ _ q0 55 #[.int .i64 0, .int .i64 0, .int .i64 0, .int .i64 0, .int .i64 0, .int .i64 0] (0, 0) _ rfl (pk q5) Try.underlying55 rfl (by kernel_rfl)) rfl ?_
    exact rt HB
   ·replace c21 := Bool.eq_false_iff.mpr c21
    subst c21
    have H1 : ((grids_times.f a0_0 a0_1 a0_2 a0_3 a1_0 a1_1 a1_2 a1_3).bind fun q8 => ((grids_image.f a0_0 a0_1 a0_2 a0_3 a0_4 a0_5 a1_4 a1_5).bind fun qf => ((grids_valid.f kj2 q8.1 q8.2.1 q8.2.2.1 q8.2.2.2 qf.1 qf.2).bind fun q6 => (some (q6.1, q6.2.1, q6.2.2.1, q6.2.2.2.1, q6.2.2.2.2.1, q6.2.2.2.2.2.1, q6.2.2.2.2.2.2))))) = some (r1, r2, r3, r4, r5, r6, r7) := by rw [if_neg (show ¬ (false = true) by decide)] at H; exact H
    clear H
    have H := H1
    clear H1
    obtain ⟨⟨qm, qn, qo, qp⟩, A26, H⟩ := ob H
    obtain ⟨⟨qq, qr⟩, A27, H⟩ := ob H
    obtain ⟨⟨qd, qe, qh, qi, qj, qs, j3⟩, A28, H⟩ := ob H
    simp only [Option.some.injEq, Prod.mk.injEq] at H
    obtain ⟨rfl, rfl, rfl, rfl, rfl, rfl, rfl⟩ := H
    try go_wp2
    replace q1 := bd q1
    replace q2 := bd q2
    replace q5 := bd q5
    replace HB := bdn HB
    refine start_ (n := 15) (S := fun w' => w'.cell? ⟨qb, 0, none⟩ = some (.int .i64 a0_0) ∧ w'.cell? ⟨qb, 1, none⟩ = some (.int .i64 a0_1) ∧ w'.cell? ⟨qb, 2, none⟩ = some (.int .i64 a0_2) ∧ w'.cell? ⟨qb, 3, none⟩ = some (.int .i64 a0_3) ∧ w'.cell? ⟨qb, 4, none⟩ = some (.int .i64 a0_4) ∧ w'.cell? ⟨qb, 5, none⟩ = some (.int .i64 a0_5) ∧ w'.cell? ⟨qc, 0, none⟩ = some (.int .i64 a1_0) ∧ w'.cell? ⟨qc, 1, none⟩ = some (.int .i64 a1_1) ∧ w'.cell? ⟨qc, 2, none⟩ = some (.int .i64 a1_2) ∧ w'.cell? ⟨qc, 3, none⟩ = some (.int .i64 a1_3) ∧ w'.cell? ⟨qc, 4, none⟩ = some (.int .i64 a1_4) ∧ w'.cell? ⟨qc, 5, none⟩ = some (.int .i64 a1_5)) (ds := []) #[false, false, false, false, false, false, false, false, false, false, false, false, false, false, false] (by kernel_rfl) rfl rfl ⟨(blk_cell q1.out 0).trans rfl, (blk_cell q1.out 1).trans rfl, (blk_cell q1.out 2).trans rfl, (blk_cell q1.out 3).trans rfl, (blk_cell q1.out 4).trans rfl, (blk_cell q1.out 5).trans rfl, (blk_cell q2.out 0).trans rfl, (blk_cell q2.out 1).trans rfl, (blk_cell q2.out 2).trans rfl, (blk_cell q2.out 3).trans rfl, (blk_cell q2.out 4).trans rfl, (blk_cell q2.out 5).trans rfl⟩ (fun hHeld => ?_); refine with_tabW grids_Compose.tab3 grids_Compose.bits3 (fun HT_ HW_ => ?_)
    generalize wc.drew = w29 at q1 q2 q5 HB hHeld ⊢
    refine pz 0 15 HT_ ?_
    refine pz 2 17 HT_ ?_
    refine pz 6 21 HT_ ?_
    refine tz 1 16 HT_ HW_ hHeld ?_
    refine tz 3 18 HT_ HW_ hHeld ?_
    refine tz 5 20 HT_ HW_ hHeld ?_
    refine tz 7 22 HT_ HW_ hHeld ?_
    refine one_ (i := 4) (N := some 19) #[true, true, true, true, true, true, true, true, false, false, false, false, false, false, false] rfl rfl (one_of HT_.out (by kernel_rfl)) (by decide) (fun K hK => ?_)
    refine gs _ Try.func40 (grids_times.calls a0_0 a0_1 a0_2 a0_3 a1_0 a1_1 a1_2 a1_3 qm qn qo qp _ A26.out) ?_
    rintro e w30 ⟨rfl, hb⟩
    refine ⟨_, rfl, ?_⟩
    replace q1 := bb q1 hb
    replace q2 := bb q2 hb
    replace q5 := bb q5 hb
    replace HB := bst HB hb
    (try clear hb)
    (try clear hb2)
    (try clear hk)
    (try clear hi)
    refine hK.out _ _ ⟨(blk_cell q1.out 0).trans rfl, (blk_cell q1.out 1).trans rfl, (blk_cell q1.out 2).trans rfl, (blk_cell q1.out 3).trans rfl, (blk_cell q1.out 4).trans rfl, (blk_cell q1.out 5).trans rfl, (blk_cell q2.out 0).trans rfl, (blk_cell q2.out 1).trans rfl, (blk_cell q2.out 2).trans rfl, (blk_cell q2.out 3).trans rfl, (blk_cell q2.out 4).trans rfl, (blk_cell q2.out 5).trans rfl⟩ (fun hHeld => ?_)
    clear hK K
    refine norm_ (a' := ?_) ?_ ?_
    rotate_left
    ·show Act.put _ (some 19) _ = _
     simp only [Act.put, List.setIfInBounds_toArray, List.set_cons_zero, List.set_cons_succ, i64_w, i32_w]
     rfl
    refine one_ (i := 8) (N := some 23) #[true, true, true, true, true, true, true, true, true, false, false, false, false, false, false] rfl rfl (one_of HT_.out (by kernel_rfl)) (by decide) (fun K hK => ?_)
    refine gs _ Try.func63 (grids_image.calls a0_0 a0_1 a0_2 a0_3 a0_4 a0_5 a1_4 a1_5 qq qr _ A27.out) ?_
    rintro e w31 ⟨rfl, hb⟩
    refine ⟨_, rfl, ?_⟩
    replace q1 := bb q1 hb
    replace q2 := bb q2 hb
    replace q5 := bb q5 hb
    replace HB := bst HB hb
    (try clear hb)
    (try clear hb2)
    (try clear hk)
    (try clear hi)
    refine hK.out _ _ ⟨(blk_cell q1.out 0).trans rfl, (blk_cell q1.out 1).trans rfl, (blk_cell q1.out 2).trans rfl, (blk_cell q1.out 3).trans rfl, (blk_cell q1.out 4).trans rfl, (blk_cell q1.out 5).trans rfl, (blk_cell q2.out 0).trans rfl, (blk_cell q2.out 1).trans rfl, (blk_cell q2.out 2).trans rfl, (blk_cell q2.out 3).trans rfl, (blk_cell q2.out 4).trans rfl, (blk_cell q2.out 5).trans rfl⟩ (fun hHeld => ?_)
    clear hK K
    refine norm_ (a' := ?_) ?_ ?_
    rotate_left
    ·show Act.put _ (some 23) _ = _
     simp only [Act.put, List.setIfInBounds_toArray, List.set_cons_zero, List.set_cons_succ, i64_w, i32_w]
     rfl
    refine pz 9 24 HT_ ?_
    refine one_ (i := 10) (N := some 25) #[true, true, true, true, true, true, true, true, true, true, true, false, false, false, false] rfl rfl (one_of HT_.out (by kernel_rfl)) (by decide) (fun K hK => ?_)
    refine gs _ Try.func67 (grids_valid.calls kj2 qm qn qo qp qq qr qd qe qh qi qj qs j3 _ A28.out) ?_
    rintro e w32 ⟨rfl, hb⟩
    refine ⟨_, rfl, ?_⟩
    replace q1 := bb q1 hb
    replace q2 := bb q2 hb
    replace q5 := bb q5 hb
    replace HB := bst HB hb
    (try clear hb)
    (try clear hb2)
    (try clear hk)
    (try clear hi)
    refine hK.out _ _ ⟨(blk_cell q1.out 0).trans rfl, (blk_cell q1.out 1).trans rfl, (blk_cell q1.out 2).trans rfl, (blk_cell q1.out 3).trans rfl, (blk_cell q1.out 4).trans rfl, (blk_cell q1.out 5).trans rfl, (blk_cell q2.out 0).trans rfl, (blk_cell q2.out 1).trans rfl, (blk_cell q2.out 2).trans rfl, (blk_cell q2.out 3).trans rfl, (blk_cell q2.out 4).trans rfl, (blk_cell q2.out 5).trans rfl⟩ (fun hHeld => ?_)
    clear hK K
    refine norm_ (a' := ?_) ?_ ?_
    rotate_left
    ·show Act.put _ (some 25) _ = _
     simp only [Act.put, List.setIfInBounds_toArray, List.set_cons_zero, List.set_cons_succ, i64_w, i32_w]
     rfl
    refine pz 11 26 HT_ ?_
    refine pz 12 27 HT_ ?_
    refine one_ (i := 13) (N := none) #[true, true, true, true, true, true, true, true, true, true, true, true, true, true, false] rfl rfl (one_of HT_.out (by kernel_rfl)) (by decide) (fun K hK => ?_)
    have g4 : w32.cell? ⟨q0, 0, none⟩ = some (.int .i64 0) := (blk_cell q5.out 0).trans rfl
    have jg := blk_frozen q5.out 0
    have jS := q3.out
    have jT := q4.out
    have js := q7.out
    have jt := q9.out
    have g5 : w32.cell? ⟨q0, 1, none⟩ = some (.int .i64 0) := (blk_cell q5.out 1).trans rfl
    have jh := blk_frozen q5.out 1
    have jU := q3.out
    have jV := q4.out
    have ju := q7.out
    have jv := q9.out
    have g6 : w32.cell? ⟨q0, 2, none⟩ = some (.int .i64 0) := (blk_cell q5.out 2).trans rfl
    have ji := blk_frozen q5.out 2
    have jW := q3.out
    have jX := q4.out
    have jw := q7.out
    have jx := q9.out
    have g7 : w32.cell? ⟨q0, 3, none⟩ = some (.int .i64 0) := (blk_cell q5.out 3).trans rfl
    have jj := blk_frozen q5.out 3
    have jY := q3.out
    have jZ := q4.out
    have jy := q7.out
    have jz := q9.out
    have g8 : w32.cell? ⟨q0, 4, none⟩ = some (.int .i64 0) := (blk_cell q5.out 4).trans rfl
    have jk := blk_frozen q5.out 4
    have g0 := q3.out
    have g1 := q4.out
    have jA := q7.out
    have jB := q9.out
    have g9 : w32.cell? ⟨q0, 5, none⟩ = some (.int .i64 0) := (blk_cell q5.out 5).trans rfl
    have jl := blk_frozen q5.out 5
    have g2 := q3.out
    have g3 := q4.out
    have jC := q7.out
    have jD := q9.out
    refine skip_ (w1 := ?_) (by rfl) rfl ?_ ?_
    rotate_left
    ·go_simp
     rfl
    refine hK.out _ _ ⟨((cell_far (p := ⟨q0, _, none⟩) q3.out _).trans (((cell_far (p := ⟨q0, _, none⟩) q3.out _).trans (((cell_far (p := ⟨q0, _, none⟩) q3.out _).trans (((cell_far (p := ⟨q0, _, none⟩) q3.out _).trans (((cell_far (p := ⟨q0, _, none⟩) q3.out _).trans (((cell_far (p := ⟨q0, _, none⟩) q3.out _).trans (hHeld.1)))))))))))), ((cell_far (p := ⟨q0, _, none⟩) q3.out _).trans (((cell_far (p := ⟨q0, _, none⟩) q3.out _).trans (((cell_far (p := ⟨q0, _, none⟩) q3.out _).trans (((cell_far (p := ⟨q0, _, none⟩) q3.out _).trans (((cell_far (p := ⟨q0, _, none⟩) q3.out _).trans (((cell_far (p := ⟨q0, _, none⟩) q3.out _).trans (hHeld.2.1)))))))))))), ((cell_far (p := ⟨q0, _, none⟩) q3.out _).trans (((cell_far (p := ⟨q0, _, none⟩) q3.out _).trans (((cell_far (p := ⟨q0, _, none⟩) q3.out _).trans (((cell_far (p := ⟨q0, _, none⟩) q3.out _).trans (((cell_far (p := ⟨q0, _, none⟩) q3.out _).trans (((cell_far (p := ⟨q0, _, none⟩) q3.out _).trans (hHeld.2.2.1)))))))))))), ((cell_far (p := ⟨q0, _, none⟩) q3.out _).trans (((cell_far (p := ⟨q0, _, none⟩) q3.out _).trans (((cell_far (p := ⟨q0, _, none⟩) q3.out _).trans (((cell_far (p := ⟨q0, _, none⟩) q3.out _).trans (((cell_far (p := ⟨q0, _, none⟩) q3.out _).trans (((cell_far (p := ⟨q0, _, none⟩) q3.out _).trans (hHeld.2.2.2.1)))))))))))), ((cell_far (p := ⟨q0, _, none⟩) q3.out _).trans (((cell_far (p := ⟨q0, _, none⟩) q3.out _).trans (((cell_far (p := ⟨q0, _, none⟩) q3.out _).trans (((cell_far (p := ⟨q0, _, none⟩) q3.out _).trans (((cell_far (p := ⟨q0, _, none⟩) q3.out _).trans (((cell_far (p := ⟨q0, _, none⟩) q3.out _).trans (hHeld.2.2.2.2.1)))))))))))), ((cell_far (p := ⟨q0, _, none⟩) q3.out _).trans (((cell_far (p := ⟨q0, _, none⟩) q3.out _).trans (((cell_far (p := ⟨q0, _, none⟩) q3.out _).trans (((cell_far (p := ⟨q0, _, none⟩) q3.out _).trans (((cell_far (p := ⟨q0, _, none⟩) q3.out _).trans (((cell_far (p := ⟨q0, _, none⟩) q3.out _).trans (hHeld.2.2.2.2.2.1)))))))))))), ((cell_far (p := ⟨q0, _, none⟩) q4.out _).trans (((cell_far (p := ⟨q0, _, none⟩) q4.out _).trans (((cell_far (p := ⟨q0, _, none⟩) q4.out _).trans (((cell_far (p := ⟨q0, _, none⟩) q4.out _).trans (((cell_far (p := ⟨q0, _, none⟩) q4.out _).trans (((cell_far (p := ⟨q0, _, none⟩) q4.out _).trans (hHeld.2.2.2.2.2.2.1)))))))))))), ((cell_far (p := ⟨q0, _, none⟩) q4.out _).trans (((cell_far (p := ⟨q0, _, none⟩) q4.out _).trans (((cell_far (p := ⟨q0, _, none⟩) q4.out _).trans (((cell_far (p := ⟨q0, _, none⟩) q4.out _).trans (((cell_far (p := ⟨q0, _, none⟩) q4.out _).trans (((cell_far (p := ⟨q0, _, none⟩) q4.out _).trans (hHeld.2.2.2.2.2.2.2.1)))))))))))), ((cell_far (p := ⟨q0, _, none⟩) q4.out _).trans (((cell_far (p := ⟨q0, _, none⟩) q4.out _).trans (((cell_far (p := ⟨q0, _, none⟩) q4.out _).trans (((cell_far (p := ⟨q0, _, none⟩) q4.out _).trans (((cell_far (p := ⟨q0, _, none⟩) q4.out _).trans (((cell_far (p := ⟨q0, _, none⟩) q4.out _).trans (hHeld.2.2.2.2.2.2.2.2.1)))))))))))), ((cell_far (p := ⟨q0, _, none⟩) q4.out _).trans (((cell_far (p := ⟨q0, _, none⟩) q4.out _).trans (((cell_far (p := ⟨q0, _, none⟩) q4.out _).trans (((cell_far (p := ⟨q0, _, none⟩) q4.out _).trans (((cell_far (p := ⟨q0, _, none⟩) q4.out _).trans (((cell_far (p := ⟨q0, _, none⟩) q4.out _).trans (hHeld.2.2.2.2.2.2.2.2.2.1)))))))))))), ((cell_far (p := ⟨q0, _, none⟩) q4.out _).trans (((cell_far (p := ⟨q0, _, none⟩) q4.out _).trans (((cell_far (p := ⟨q0, _, none⟩) q4.out _).trans (((cell_far (p := ⟨q0, _, none⟩) q4.out _).trans (((cell_far (p := ⟨q0, _, none⟩) q4.out _).trans (((cell_far (p := ⟨q0, _, none⟩) q4.out _).trans (hHeld.2.2.2.2.2.2.2.2.2.2.1)))))))))))), ((cell_far (p := ⟨q0, _, none⟩) q4.out _).trans (((cell_far (p := ⟨q0, _, none⟩) q4.out _).trans (((cell_far (p := ⟨q0, _, none⟩) q4.out _).trans (((cell_far (p := ⟨q0, _, none⟩) q4.out _).trans (((cell_far (p := ⟨q0, _, none⟩) q4.out _).trans (((cell_far (p := ⟨q0, _, none⟩) q4.out _).trans (hHeld.2.2.2.2.2.2.2.2.2.2.2))))))))))))⟩ (fun hHeld => ?_)
    clear hK K
    refine pz 14 5 HT_ ?_
    refine done_ (done_of HT_.out (by kernel_rfl)) ?_
    try go_wp2
    refine bodyPost_ret (results_ct rfl _ _ q0 55 #[.int .i64 qd, .int .i64 qe, .int .i64 qh, .int .i64 qi, .int .i64 qj, .int .i64 qs] (0, 0) _ rfl (by (with_reducible repeat (first | refine blk_drewN ?_ _ | refine blk_drew ?_ | refine blk_alloc ?_ _)); refine blk_put (cs := #[.int .i64 qd, .int .i64 qe, .int .i64 qh, .int .i64 qi, .int .i64 qj, .int .i64 0]) ?_ 5 _ rfl; (with_reducible repeat (first | refine blk_drewN ?_ _ | refine blk_drew ?_ | refine blk_alloc ?_ _)); refine blk_put (cs := #[.int .i64 qd, .int .i64 qe, .int .i64 qh, .int .i64 qi, .int .i64 0, .int .i64 0]) ?_ 4 _ rfl; (with_reducible repeat (first | refine blk_drewN ?_ _ | refine blk_drew ?_ | refine blk_alloc ?_ _)); refine blk_put (cs := #[.int .i64 qd, .int .i64 qe, .int .i64 qh, .int .i64 0, .int .i64 0, .int .i64 0]) ?_ 3 _ rfl; (with_reducible repeat (first | refine blk_drewN ?_ _ | refine blk_drew ?_ | refine blk_alloc ?_ _)); refine blk_put (cs := #[.int .i64 qd, .int .i64 qe, .int .i64 0, .int .i64 0, .int .i64 0, .int .i64 0]) ?_ 2 _ rfl; (with_reducible repeat (first | refine blk_drewN ?_ _ | refine blk_drew ?_ | refine blk_alloc ?_ _)); refine blk_put (cs := #[.int .i64 qd, .int .i64 0, .int .i64 0, .int .i64 0, .int .i64 0, .int .i64 0]) ?_ 1 _ rfl; (with_reducible repeat (first | refine blk_drewN ?_ _ | refine blk_drew ?_ | refine blk_alloc ?_ _)); refine blk_put (cs := #[.int .i64 0, .int .i64 0, .int .i64 0, .int .i64 0, .int .i64 0, .int .i64 0]) ?_ 0 _ rfl; (with_reducible repeat (first | refine blk_drewN ?_ _ | refine blk_drew ?_ | refine blk_alloc ?_ _)); exact q5.out) Try.underlying55 rfl (by kernel_rfl)) rfl ?_
    exact rt HB
end
section
/-! ### torchonref06_Product: function 48 -/
def torchonref06_Product.f (a0_0 : Int) (a0_1 : Int) (a0_2 : Int) (a1_0 : Int) (a1_1 : Int) (a2_0 : Int) (a2_1 : Int) : Option (Int) := (some (wrap64 (a0_0 * a1_0))).bind fun q1 => ((some (wrap64 (q1 * a2_0))).bind fun q2 => ((some (wrap64 (a1_0 * a2_1))).bind fun q3 => ((some (wrap64 (a1_1 * a2_0))).bind fun q4 => ((some (wrap64 (q3 + q4))).bind fun q5 => ((some (wrap64 (a0_1 * q5))).bind fun q6 => ((some (wrap64 (q2 + q6))).bind fun q7 => ((some (wrap64 (a0_2 * a1_1))).bind fun q8 => ((some (wrap64 (q8 * a2_1))).bind fun q9 => ((some (wrap64 (q7 + q9))).bind fun qb => (some qb))))))))))
set_option maxHeartbeats 8000000 in
set_option maxRecDepth 100000 in
theorem torchonref06_Product.calls (a0_0 : Int) (a0_1 : Int) (a0_2 : Int) (a1_0 : Int) (a1_1 : Int) (a2_0 : Int) (a2_1 : Int) (r : Int) (w : World) (h : torchonref06_Product.f a0_0 a0_1 a0_2 a1_0 a1_1 a2_0 a2_1 = some r) :
  Calls Try.prog 48 #[.agg #[.int .i64 a0_0, .int .i64 a0_1, .int .i64 a0_2], .agg #[.int .i64 a1_0, .int .i64 a1_1], .agg #[.int .i64 a2_0, .int .i64 a2_1]] w fun e w' => e = .returned (.int .i64 r) ∧ Below w.heap.size w w' := by
 have hu23 := Try.underlying23
 have hu37 := Try.underlying37
 have HB := Aside0.mk (Below.refl w.heap.size w)
 have H : ((some (wrap64 (a0_0 * a1_0))).bind fun q1 => ((some (wrap64 (q1 * a2_0))).bind fun q2 => ((some (wrap64 (a1_0 * a2_1))).bind fun q3 => ((some (wrap64 (a1_1 * a2_0))).bind fun q4 => ((some (wrap64 (q3 + q4))).bind fun q5 => ((some (wrap64 (a0_1 * q5))).bind fun q6 => ((some (wrap64 (q2 + q6))).bind fun q7 => ((some (wrap64 (a0_2 * a1_1))).bind fun q8 => ((some (wrap64 (q8 * a2_1))).bind fun q9 => ((some (wrap64 (q7 + q9))).bind fun qb => (some qb))))))))))) = some r := h
 clear h
 obtain ⟨q1, E40, H⟩ := oc H
 have E4w : (IntKind.i64.wrap (a0_0 * a1_0)) = q1 := (i64_w _).trans E40
 obtain ⟨q2, E50, H⟩ := oc H
 have E5w : (IntKind.i64.wrap (q1 * a2_0)) = q2 := (i64_w _).trans E50
 obtain ⟨q3, E60, H⟩ := oc H
 have E6w : (IntKind.i64.wrap (a1_0 * a2_1)) = q3 := (i64_w _).trans E60
 obtain ⟨q4, E70, H⟩ := oc H
 have E7w : (IntKind.i64.wrap (a1_1 * a2_0)) = q4 := (i64_w _).trans E70
 obtain ⟨q5, E80, H⟩ := oc H
 have E8w : (IntKind.i64.wrap (q3 + q4)) = q5 := (i64_w _).trans E80
 obtain ⟨q6, E90, H⟩ := oc H
 have E9w : (IntKind.i64.wrap (a0_1 * q5)) = q6 := (i64_w _).trans E90
 obtain ⟨q7, E100, H⟩ := oc H
 have E10w : (IntKind.i64.wrap (q2 + q6)) = q7 := (i64_w _).trans E100
 obtain ⟨q8, E110, H⟩ := oc H
 have E11w : (IntKind.i64.wrap (a0_2 * a1_1)) = q8 := (i64_w _).trans E110
 obtain ⟨q9, E120, H⟩ := oc H
 have E12w : (IntKind.i64.wrap (q8 * a2_1)) = q9 := (i64_w _).trans E120
 obtain ⟨qb, E130, H⟩ := oc H
 have E13w : (IntKind.i64.wrap (q7 + q9)) = qb := (i64_w _).trans E130
 obtain rfl := Option.some.inj H
 go_enter Try.func48, Try.ntmps48
 go_wp2_with (first | ((with_reducible refine gate_dst (N := 3) rfl ?_); refine bx 3 #[.int .i64 a0_0, .int .i64 a0_1, .int .i64 a0_2] 23 fun qp hg w14 q0 hb => ?_; have qm := gw hg HB; have qj := gw hg HB; replace HB := bst HB hb; clear hb hg) | ((with_reducible refine gate_dst (N := 4) rfl ?_); refine bx 4 #[.int .i64 a1_0, .int .i64 a1_1] 37 fun qq hg w15 qa hb => ?_; have qn := gw hg HB; have qk := gw hg HB; have qd := nlt hg q0; have qf := ngt hg q0; replace q0 := bb q0 hb; replace HB := bst HB hb; clear hb hg) | ((with_reducible refine gate_dst (N := 5) rfl ?_); refine bx 5 #[.int .i64 a2_0, .int .i64 a2_1] 37 fun qr hg w16 qc hb => ?_; have qo := gw hg HB; have ql := gw hg HB; have qe := nlt hg q0; have qh := ngt hg q0; have qg := nlt hg qa; have qi := ngt hg qa; replace q0 := bb q0 hb; replace qa := bb qa hb; replace HB := bst HB hb; clear hb hg; have qG := qd.out; have qJ := qf.out; have qH := qe.out; have qK := qh.out; have ⟨qs, qt, qu, qz, qA, qB⟩ := cf3 q0; have qI := qg.out; have qL := qi.out; have ⟨qv, qw, qC, qD⟩ := cf2 qa; have ⟨qx, qy, qE, qF⟩ := cf2 qc))
 go_ret
 exact rt HB
end
section
/-! ### torchonlaw06_lead: function 16 -/
def torchonlaw06_lead.f (a0_0 : Int) (a0_1 : Int) (a0_2 : Int) (a1_0 : Int) (a1_1 : Int) (a1_2 : Int) (a1_3 : Int) : Option (Int × Int × Int) := (torchonlaw06_pt.f a1_0 a1_2).bind fun qE => ((torchonlaw06_pt.f a1_1 a1_3).bind fun qF => ((torchonref06_Product.f a0_0 a0_1 a0_2 qE.1 qE.2 qE.1 qE.2).bind fun qW => ((torchonref06_Product.f a0_0 a0_1 a0_2 qE.1 qE.2 qF.1 qF.2).bind fun qX => ((torchonref06_Product.f a0_0 a0_1 a0_2 qF.1 qF.2 qF.1 qF.2).bind fun j2 => (some (qW, qX, j2))))))
def torchonlaw06_lead.T1 : Bool × List (List Nat × List Nat) := (true, [([], []), ([0], [0]), ([], []), ([2], [2]), ([1, 3], [1, 3]), ([], []), ([5], [5]), ([], []), ([7], [7]), ([6, 8, 4], [6, 8]), ([], []), ([], []), ([10, 4, 9, 0, 1, 2, 3, 4, 10, 11], [4, 10]), ([11, 9, 12, 0, 1, 2, 3, 4, 5, 6, 7, 8, 9, 10, 11, 12], [9, 11])])
def torchonlaw06_lead.B1 : List Nat := [0, 1, 0, 4, 15, 0, 32, 0, 128, 511, 0, 0, 4095, 8191]
theorem torchonlaw06_lead.tab1 : rtab .any (opsOf Try.f16 1) = torchonlaw06_lead.T1 := by kernel_rfl
theorem torchonlaw06_lead.bits1 : waitsOk torchonlaw06_lead.T1.2 torchonlaw06_lead.B1 = true := by kernel_rfl
def torchonlaw06_lead.T2 : Bool × List (List Nat × List Nat) := (true, [([], []), ([], []), ([], []), ([0, 1, 2], [0, 1, 2]), ([], []), ([], []), ([], []), ([4, 5, 6, 3], [4, 5, 6]), ([], []), ([], []), ([], []), ([8, 9, 10, 7], [8, 9, 10]), ([3, 7, 11], [3, 7, 11]), ([12, 11, 0, 1, 2, 3, 4, 5, 6, 7, 8, 9, 10, 11, 12], [12])])
def torchonlaw06_lead.B2 : List Nat := [0, 0, 0, 7, 0, 0, 0, 127, 0, 0, 0, 2047, 4095, 8191]
theorem torchonlaw06_lead.tab2 : rtab .any (opsOf Try.f16 2) = torchonlaw06_lead.T2 := by kernel_rfl
theorem torchonlaw06_lead.bits2 : waitsOk torchonlaw06_lead.T2.2 torchonlaw06_lead.B2 = true := by kernel_rfl
set_option maxHeartbeats 8000000 in
set_option maxRecDepth 100000 in
theorem torchonlaw06_lead.calls (a0_0 : Int) (a0_1 : Int) (a0_2 : Int) (a1_0 : Int) (a1_1 : Int) (a1_2 : Int) (a1_3 : Int) (r1 : Int) (r2 : Int) (r3 : Int) (w : World) (h : torchonlaw06_lead.f a0_0 a0_1 a0_2 a1_0 a1_1 a1_2 a1_3 = some (r1, r2, r3)) :
  Calls Try.prog 16 #[.agg #[.int .i64 a0_0, .int .i64 a0_1, .int .i64 a0_2], .agg #[.int .i64 a1_0, .int .i64 a1_1, .int .i64 a1_2, .int .i64 a1_3]] w fun e w' => e = .returned (.agg #[.int .i64 r1, .int .i64 r2, .int .i64 r3]) ∧ Below w.heap.size w w' := by
 have hu23 := Try.underlying23
 have hu25 := Try.underlying25
 have hu37 := Try.underlying37
 have HB := Aside0.mk (Below.refl w.heap.size w)
 have H : ((torchonlaw06_pt.f a1_0 a1_2).bind fun qE => ((torchonlaw06_pt.f a1_1 a1_3).bind fun qF => ((torchonref06_Product.f a0_0 a0_1 a0_2 qE.1 qE.2 qE.1 qE.2).bind fun qW => ((torchonref06_Product.f a0_0 a0_1 a0_2 qE.1 qE.2 qF.1 qF.2).bind fun qX => ((torchonref06_Product.f a0_0 a0_1 a0_2 qF.1 qF.2 qF.1 qF.2).bind fun j2 => (some (qW, qX, j2))))))) = some (r1, r2, r3) := h
 clear h
 obtain ⟨⟨qN, qP⟩, A3, H⟩ := ob H
 obtain ⟨⟨qO, qQ⟩, A4, H⟩ := ob H
 obtain ⟨qW, A5, H⟩ := ob H
 obtain ⟨qX, A6, H⟩ := ob H
 obtain ⟨j2, A7, H⟩ := ob H
 simp only [Option.some.injEq, Prod.mk.injEq] at H
 obtain ⟨rfl, rfl, rfl⟩ := H
 go_enter Try.func16, Try.ntmps16
 try go_wp2_with (first | ((with_reducible refine gate_dst (N := 2) rfl ?_); refine bx 2 #[.int .i64 a0_0, .int .i64 a0_1, .int .i64 a0_2] 23 fun qV hg w8 q0 hb => ?_; have jg := gw hg HB; have jd := gw hg HB; replace HB := bst HB hb; clear hb hg) | ((with_reducible refine gate_dst (N := 3) rfl ?_); refine bx 3 #[.int .i64 a1_0, .int .i64 a1_1, .int .i64 a1_2, .int .i64 a1_3] 25 fun qb hg w9 q1 hb => ?_; have jh := gw hg HB; have je := gw hg HB; have jj := nlt hg q0; have jk := ngt hg q0; replace q0 := bb q0 hb; replace HB := bst HB hb; clear hb hg) | ((with_reducible refine gate_dst (N := 4) rfl ?_); refine bx 4 #[.int .i64 0, .int .i64 0, .int .i64 0] 23 fun q5 hg w10 q4 hb => ?_; have ji := gw hg HB; have jf := gw hg HB; have qG := nlt hg q0; have j9 := ngt hg q0; have j8 := nlt hg q1; have ja := ngt hg q1; replace q0 := bb q0 hb; replace q1 := bb q1 hb; replace HB := bst HB hb; clear hb hg))
 replace q0 := bd q0
 replace q1 := bd q1
 replace q4 := bd q4
 replace HB := bdn HB
 refine start_ (n := 14) (S := fun w' => True) (ds := []) #[false, false, false, false, false, false, false, false, false, false, false, false, false, false] (by kernel_rfl) rfl rfl trivial (fun hHeld => ?_); refine with_tabW torchonlaw06_lead.tab1 torchonlaw06_lead.bits1 (fun HT_ HW_ => ?_)
 generalize w10.drew = w11 at q0 q1 q4 HB hHeld ⊢
 refine pz 0 7 HT_ ?_
 refine pz 2 9 HT_ ?_
 refine pz 5 12 HT_ ?_
 refine pz 7 14 HT_ ?_
 refine inv_at [1, 3, 4, 6, 8, 9, 10, 11, 12, 13] (fun a0_ b a w' => ∃ (q2 : Nat) (q3 : Nat) (qc : Value) (qd : Value), a = putSel a0_ b [(1, 8, .int .i64 a1_0), (3, 10, .int .i64 a1_2), (4, 11, .agg #[.int .i64 qN, .int .i64 qP]), (6, 13, .int .i64 a1_1), (8, 15, .int .i64 a1_3), (9, 16, .agg #[.int .i64 qO, .int .i64 qQ]), (10, 5, qc), (11, 6, qd)] ∧ (w'.heap[qV]? = some (.cells #[.int .i64 a0_0, .int .i64 a0_1, .int .i64 a0_2] 23 (0, 0))) ∧ (w'.heap[qb]? = some (.cells #[.int .i64 a1_0, .int .i64 a1_1, .int .i64 a1_2, .int .i64 a1_3] 25 (0, 0))) ∧ (w'.heap[q5]? = some (.cells #[.int .i64 0, .int .i64 0, .int .i64 0] 23 (0, 0))) ∧ (Below w.heap.size w w') ∧ (b 10 = true → b 11 = true → q3 ≠ q2) ∧ (b 10 = true → b 11 = true → q2 ≠ q3) ∧ (b 10 = true → b 12 = false → w'.heap[q2]? = some (.cells #[.int .i64 0, .int .i64 0] 37 (0, 0))) ∧ (b 10 = true → w.heap.size ≤ q2) ∧ (b 10 = true → w.heap.size ≤ q2) ∧ (b 10 = true → qV ≠ q2) ∧ (b 10 = true → q2 ≠ qV) ∧ (b 10 = true → qb ≠ q2) ∧ (b 10 = true → q2 ≠ qb) ∧ (b 10 = true → q5 ≠ q2) ∧ (b 10 = true → q2 ≠ q5) ∧ (b 11 = true → b 13 = false → w'.heap[q3]? = some (.cells #[.int .i64 0, .int .i64 0] 37 (0, 0))) ∧ (b 11 = true → w.heap.size ≤ q3) ∧ (b 11 = true → w.heap.size ≤ q3) ∧ (b 11 = true → qV ≠ q3) ∧ (b 11 = true → q3 ≠ qV) ∧ (b 11 = true → qb ≠ q3) ∧ (b 11 = true → q3 ≠ qb) ∧ (b 11 = true → q5 ≠ q3) ∧ (b 11 = true → q3 ≠ q5) ∧ (b 12 = true → w'.heap[q2]? = some (.cells #[.int .i64 qN, .int .i64 qP] 37 (0, 0))) ∧ (b 13 = true → w'.heap[q3]? = some (.cells #[.int .i64 qO, .int .i64 qQ] 37 (0, 0))) ∧ (b 10 = true → (qc : Value) = .pointer (some ⟨q2, 0, none⟩)) ∧ (b 11 = true → (qd : Value) = .pointer (some ⟨q3, 0, none⟩))) HT_.out HW_.out (by kernel_rfl) (by kernel_rfl) ?_ ?_ ?_
 ·exact ⟨0, 0, .bool false, .bool false, by simp only [putSel, Bool.false_eq_true, if_false], q0.out, q1.out, q4.out, HB.out, fun h_ => absurd h_ (by decide), fun h_ => absurd h_ (by decide), fun h_ => absurd h_ (by decide), fun h_ => absurd h_ (by decide), fun h_ => absurd h_ (by decide), fun h_ => absurd h_ (by decide), fun h_ => absurd h_ (by decide), fun h_ => absurd h_ (by decide), fun h_ => absurd h_ (by decide), fun h_ => absurd h_ (by decide), fun h_ => absurd h_ (by decide), fun h_ => absurd h_ (by decide), fun h_ => absurd h_ (by decide), fun h_ => absurd h_ (by decide), fun h_ => absurd h_ (by decide), fun h_ => absurd h_ (by decide), fun h_ => absurd h_ (by decide), fun h_ => absurd h_ (by decide), fun h_ => absurd h_ (by decide), fun h_ => absurd h_ (by decide), fun h_ => absurd h_ (by decide), fun h_ => absurd h_ (by decide), fun h_ => absurd h_ (by decide), fun h_ => absurd h_ (by decide)⟩
 ·skip
  clear q0 q1 q4 HB
  refine steps_cons ?_ ?_
  ·rintro b a w' ⟨q2, q3, qc, qd, ha, q8, q9, qa, Q_HB, qx, qw, qf, qi, qg, qk, qq, qm, qr, qo, qs, qe, qj, qh, ql, qt, qn, qu, qp, qv, qA, qB, Q_X10_, Q_X11_⟩ hb_ hon hoff
   refine ⟨_, rfl, fun K hK => ?_⟩
   have e7 : a.tmps[7]? = some (.pointer (some ⟨qb, 0, none⟩)) := by rw [ha]; exact (putSel_off rfl).trans rfl
   replace ha := Aside0.mk ha
   have q0 := Aside0.mk q8
   have q1 := Aside0.mk q9
   have q4 := Aside0.mk qa
   have HB := Aside0.mk Q_HB
   have hc0_ : w'.cell? ⟨qb, 0, none⟩ = some (.int .i64 a1_0) := (blk_cell q1.out 0).trans rfl
   have hc1_ : w'.cell? ⟨qb, 1, none⟩ = some (.int .i64 a1_1) := (blk_cell q1.out 1).trans rfl
   have hc2_ : w'.cell? ⟨qb, 2, none⟩ = some (.int .i64 a1_2) := (blk_cell q1.out 2).trans rfl
   have hc3_ : w'.cell? ⟨qb, 3, none⟩ = some (.int .i64 a1_3) := (blk_cell q1.out 3).trans rfl
   refine value_ (w1 := w') (v := .int .i64 a1_0) (by rfl) rfl ?_ ?_
   ·go_simp
    (try simp only [i64_w])
    try rfl
   refine hK.out _ _ ⟨q2, q3, qc, qd, (by rw [ha.out]; exact putSel_upk 0 hb_ rfl rfl rfl), q8, q9, qa, Q_HB, qx, qw, qf, qi, qg, qk, qq, qm, qr, qo, qs, qe, qj, qh, ql, qt, qn, qu, qp, qv, fun h0_ => absurd ((hoff 12 (by kernel_rfl)).symm.trans h0_) (by decide), fun h0_ => absurd ((hoff 13 (by kernel_rfl)).symm.trans h0_) (by decide), Q_X10_, Q_X11_⟩
  refine steps_cons ?_ ?_
  ·rintro b a w' ⟨q2, q3, qc, qd, ha, q8, q9, qa, Q_HB, qx, qw, qf, qi, qg, qk, qq, qm, qr, qo, qs, qe, qj, qh, ql, qt, qn, qu, qp, qv, qA, qB, Q_X10_, Q_X11_⟩ hb_ hon hoff
   refine ⟨_, rfl, fun K hK => ?_⟩
   have e9 : a.tmps[9]? = some (.pointer (some ⟨qb, 2, none⟩)) := by rw [ha]; exact (putSel_off rfl).trans rfl
   replace ha := Aside0.mk ha
   have q0 := Aside0.mk q8
   have q1 := Aside0.mk q9
   have q4 := Aside0.mk qa
   have HB := Aside0.mk Q_HB
   have hc0_ : w'.cell? ⟨qb, 0, none⟩ = some (.int .i64 a1_0) := (blk_cell q1.out 0).trans rfl
   have hc1_ : w'.cell? ⟨qb, 1, none⟩ = some (.int .i64 a1_1) := (blk_cell q1.out 1).trans rfl
   have hc2_ : w'.cell? ⟨qb, 2, none⟩ = some (.int .i64 a1_2) := (blk_cell q1.out 2).trans rfl
   have hc3_ : w'.cell? ⟨qb, 3, none⟩ = some (.int .i64 a1_3) := (blk_cell q1.out 3).trans rfl
   refine value_ (w1 := w') (v := .int .i64 a1_2) (by rfl) rfl ?_ ?_
   ·go_simp
    (try simp only [i64_w])
    try rfl
   refine hK.out _ _ ⟨q2, q3, qc, qd, (by rw [ha.out]; exact putSel_upk 1 hb_ rfl rfl rfl), q8, q9, qa, Q_HB, qx, qw, qf, qi, qg, qk, qq, qm, qr, qo, qs, qe, qj, qh, ql, qt, qn, qu, qp, qv, fun h0_ => absurd ((hoff 12 (by kernel_rfl)).symm.trans h0_) (by decide), fun h0_ => absurd ((hoff 13 (by kernel_rfl)).symm.trans h0_) (by decide), Q_X10_, Q_X11_⟩
  refine steps_cons ?_ ?_
  ·rintro b a w' ⟨q2, q3, qc, qd, ha, q8, q9, qa, Q_HB, qx, qw, qf, qi, qg, qk, qq, qm, qr, qo, qs, qe, qj, qh, ql, qt, qn, qu, qp, qv, qA, qB, Q_X10_, Q_X11_⟩ hb_ hon hoff
   refine ⟨_, rfl, fun K hK => ?_⟩
   have e8 : a.tmps[8]? = some (.int .i64 a1_0) := by rw [ha]; exact putSel_on (e := (1, 8, .int .i64 a1_0)) 0 rfl rfl (hon 1 (by kernel_rfl)) rfl
   have e10 : a.tmps[10]? = some (.int .i64 a1_2) := by rw [ha]; exact putSel_on (e := (3, 10, .int .i64 a1_2)) 1 rfl rfl (hon 3 (by kernel_rfl)) rfl
   replace ha := Aside0.mk ha
   have q0 := Aside0.mk q8
   have q1 := Aside0.mk q9
   have q4 := Aside0.mk qa
   have HB := Aside0.mk Q_HB
   refine goes_ Try.func19 (by kernel_rfl) rfl #[.int .i64 a1_0, .int .i64 a1_2] (by rfl) rfl rfl (by first | (simp only [List.map_toArray, List.map_cons, List.map_nil, Act.eval, Array.getD_eq_getD_getElem?, Option.getD_some, e8, e10]; done) | (simp only [List.map_toArray, List.map_cons, List.map_nil, Act.eval, Array.getD_eq_getD_getElem?, Option.getD_some, e8, e10]; rfl)) ?_
   with_reducible refine (torchonlaw06_pt.calls a1_0 a1_2 qN qP _ A3.out).mono ?_
   rintro e w12 ⟨rfl, hb⟩
   refine ⟨_, rfl, ?_⟩
   have n0_ := bb q0 hb
   have n1_ := bb q1 hb
   have n2_ := bb q4 hb
   have n3_ := bst HB hb
   have j6 := fun (h0_ : b 10 = true) (h1_ : b 12 = false) => (show w12.heap[q2]? = some (.cells #[.int .i64 0, .int .i64 0] 37 (0, 0)) from by first | exact (blk_below (g := q2) (o := .cells #[.int .i64 0, .int .i64 0] 37 (0, 0)) (by (with_reducible repeat (first | refine blk_drewN ?_ _ | refine blk_drew ?_ | refine blk_alloc ?_ _)); exact (qf h0_ h1_)) hb))
   have j7 := fun (h0_ : b 11 = true) (h1_ : b 13 = false) => (show w12.heap[q3]? = some (.cells #[.int .i64 0, .int .i64 0] 37 (0, 0)) from by first | exact (blk_below (g := q3) (o := .cells #[.int .i64 0, .int .i64 0] 37 (0, 0)) (by (with_reducible repeat (first | refine blk_drewN ?_ _ | refine blk_drew ?_ | refine blk_alloc ?_ _)); exact (qe h0_ h1_)) hb))
   clear q0
   clear q1
   clear q4
   clear HB
   have q0 := n0_
   have q1 := n1_
   have q4 := n2_
   have HB := n3_
   clear n0_ n1_ n2_ n3_
   (try clear hb)
   (try clear hb2)
   (try clear hk)
   (try clear hi)
   refine hK.out _ _ ⟨q2, q3, qc, qd, (by rw [ha.out]; exact putSel_upk 2 hb_ rfl rfl rfl), (pk q0), (pk q1), (pk q4), (bnow HB), qx, qw, j6, qi, qg, qk, qq, qm, qr, qo, qs, j7, qj, qh, ql, qt, qn, qu, qp, qv, fun h0_ => absurd ((hoff 12 (by kernel_rfl)).symm.trans h0_) (by decide), fun h0_ => absurd ((hoff 13 (by kernel_rfl)).symm.trans h0_) (by decide), Q_X10_, Q_X11_⟩
  refine steps_cons ?_ ?_
  ·rintro b a w' ⟨q2, q3, qc, qd, ha, q8, q9, qa, Q_HB, qx, qw, qf, qi, qg, qk, qq, qm, qr, qo, qs, qe, qj, qh, ql, qt, qn, qu, qp, qv, qA, qB, Q_X10_, Q_X11_⟩ hb_ hon hoff
   refine ⟨_, rfl, fun K hK => ?_⟩
   have e12 : a.tmps[12]? = some (.pointer (some ⟨qb, 1, none⟩)) := by rw [ha]; exact (putSel_off rfl).trans rfl
   replace ha := Aside0.mk ha
   have q0 := Aside0.mk q8
   have q1 := Aside0.mk q9
   have q4 := Aside0.mk qa
   have HB := Aside0.mk Q_HB
   have hc0_ : w'.cell? ⟨qb, 0, none⟩ = some (.int .i64 a1_0) := (blk_cell q1.out 0).trans rfl
   have hc1_ : w'.cell? ⟨qb, 1, none⟩ = some (.int .i64 a1_1) := (blk_cell q1.out 1).trans rfl
   have hc2_ : w'.cell? ⟨qb, 2, none⟩ = some (.int .i64 a1_2) := (blk_cell q1.out 2).trans rfl
   have hc3_ : w'.cell? ⟨qb, 3, none⟩ = some (.int .i64 a1_3) := (blk_cell q1.out 3).trans rfl
   refine value_ (w1 := w') (v := .int .i64 a1_1) (by rfl) rfl ?_ ?_
   ·go_simp
    (try simp only [i64_w])
    try rfl
   refine hK.out _ _ ⟨q2, q3, qc, qd, (by rw [ha.out]; exact putSel_upk 3 hb_ rfl rfl rfl), q8, q9, qa, Q_HB, qx, qw, qf, qi, qg, qk, qq, qm, qr, qo, qs, qe, qj, qh, ql, qt, qn, qu, qp, qv, fun h0_ => absurd ((hoff 12 (by kernel_rfl)).symm.trans h0_) (by decide), fun h0_ => absurd ((hoff 13 (by kernel_rfl)).symm.trans h0_) (by decide), Q_X10_, Q_X11_⟩
  refine steps_cons ?_ ?_
  ·rintro b a w' ⟨q2, q3, qc, qd, ha, q8, q9, qa, Q_HB, qx, qw, qf, qi, qg, qk, qq, qm, qr, qo, qs, qe, qj, qh, ql, qt, qn, qu, qp, qv, qA, qB, Q_X10_, Q_X11_⟩ hb_ hon hoff
   refine ⟨_, rfl, fun K hK => ?_⟩
   have e14 : a.tmps[14]? = some (.pointer (some ⟨qb, 3, none⟩)) := by rw [ha]; exact (putSel_off rfl).trans rfl
   replace ha := Aside0.mk ha
   have q0 := Aside0.mk q8
   have q1 := Aside0.mk q9
   have q4 := Aside0.mk qa
   have HB := Aside0.mk Q_HB
   have hc0_ : w'.cell? ⟨qb, 0, none⟩ = some (.int .i64 a1_0) := (blk_cell q1.out 0).trans rfl
   have hc1_ : w'.cell? ⟨qb, 1, none⟩ = some (.int .i64 a1_1) := (blk_cell q1.out 1).trans rfl
   have hc2_ : w'.cell? ⟨qb, 2, none⟩ = some (.int .i64 a1_2) := (blk_cell q1.out 2).trans rfl
   have hc3_ : w'.cell? ⟨qb, 3, none⟩ = some (.int .i64 a1_3) := (blk_cell q1.out 3).trans rfl
   refine value_ (w1 := w') (v := .int .i64 a1_3) (by rfl) rfl ?_ ?_
   ·go_simp
    (try simp only [i64_w])
    try rfl
   refine hK.out _ _ ⟨q2, q3, qc, qd, (by rw [ha.out]; exact putSel_upk 4 hb_ rfl rfl rfl), q8, q9, qa, Q_HB, qx, qw, qf, qi, qg, qk, qq, qm, qr, qo, qs, qe, qj, qh, ql, qt, qn, qu, qp, qv, fun h0_ => absurd ((hoff 12 (by kernel_rfl)).symm.trans h0_) (by decide), fun h0_ => absurd ((hoff 13 (by kernel_rfl)).symm.trans h0_) (by decide), Q_X10_, Q_X11_⟩
  refine steps_cons ?_ ?_
  ·rintro b a w' ⟨q2, q3, qc, qd, ha, q8, q9, qa, Q_HB, qx, qw, qf, qi, qg, qk, qq, qm, qr, qo, qs, qe, qj, qh, ql, qt, qn, qu, qp, qv, qA, qB, Q_X10_, Q_X11_⟩ hb_ hon hoff
   refine ⟨_, rfl, fun K hK => ?_⟩
   have e13 : a.tmps[13]? = some (.int .i64 a1_1) := by rw [ha]; exact putSel_on (e := (6, 13, .int .i64 a1_1)) 3 rfl rfl (hon 6 (by kernel_rfl)) rfl
   have e15 : a.tmps[15]? = some (.int .i64 a1_3) := by rw [ha]; exact putSel_on (e := (8, 15, .int .i64 a1_3)) 4 rfl rfl (hon 8 (by kernel_rfl)) rfl
   replace ha := Aside0.mk ha
   have q0 := Aside0.mk q8
   have q1 := Aside0.mk q9
   have q4 := Aside0.mk qa
   have HB := Aside0.mk Q_HB
   refine goes_ Try.func19 (by kernel_rfl) rfl #[.int .i64 a1_1, .int .i64 a1_3] (by rfl) rfl rfl (by first | (simp only [List.map_toArray, List.map_cons, List.map_nil, Act.eval, Array.getD_eq_getD_getElem?, Option.getD_some, e13, e15]; done) | (simp only [List.map_toArray, List.map_cons, List.map_nil, Act.eval, Array.getD_eq_getD_getElem?, Option.getD_some, e13, e15]; rfl)) ?_
   with_reducible refine (torchonlaw06_pt.calls a1_1 a1_3 qO qQ _ A4.out).mono ?_
   rintro e w14 ⟨rfl, hb⟩
   refine ⟨_, rfl, ?_⟩
   have n0_ := bb q0 hb
   have n1_ := bb q1 hb
   have n2_ := bb q4 hb
   have n3_ := bst HB hb
   have j6 := fun (h0_ : b 10 = true) (h1_ : b 12 = false) => (show w14.heap[q2]? = some (.cells #[.int .i64 0, .int .i64 0] 37 (0, 0)) from by first | exact (blk_below (g := q2) (o := .cells #[.int .i64 0, .int .i64 0] 37 (0, 0)) (by (with_reducible repeat (first | refine blk_drewN ?_ _ | refine blk_drew ?_ | refine blk_alloc ?_ _)); exact (qf h0_ h1_)) hb))
   have j7 := fun (h0_ : b 11 = true) (h1_ : b 13 = false) => (show w14.heap[q3]? = some (.cells #[.int .i64 0, .int .i64 0] 37 (0, 0)) from by first | exact (blk_below (g := q3) (o := .cells #[.int .i64 0, .int .i64 0] 37 (0, 0)) (by (with_reducible repeat (first | refine blk_drewN ?_ _ | refine blk_drew ?_ | refine blk_alloc ?_ _)); exact (qe h0_ h1_)) hb))
   clear q0
   clear q1
   clear q4
   clear HB
   have q0 := n0_
   have q1 := n1_
   have q4 := n2_
   have HB := n3_
   clear n0_ n1_ n2_ n3_
   (try clear hb)
   (try clear hb2)
   (try clear hk)
   (try clear hi)
   refine hK.out _ _ ⟨q2, q3, qc, qd, (by rw [ha.out]; exact putSel_upk 5 hb_ rfl rfl rfl), (pk q0), (pk q1), (pk q4), (bnow HB), qx, qw, j6, qi, qg, qk, qq, qm, qr, qo, qs, j7, qj, qh, ql, qt, qn, qu, qp, qv, fun h0_ => absurd ((hoff 12 (by kernel_rfl)).symm.trans h0_) (by decide), fun h0_ => absurd ((hoff 13 (by kernel_rfl)).symm.trans h0_) (by decide), Q_X10_, Q_X11_⟩
  refine steps_cons ?_ ?_
  ·rintro b a w' ⟨q2, q3, qc, qd, ha, q8, q9, qa, Q_HB, qx, qw, qf, qi, qg, qk, qq, qm, qr, qo, qs, qe, qj, qh, ql, qt, qn, qu, qp, qv, qA, qB, Q_X10_, Q_X11_⟩ hb_ hon hoff
   refine ⟨_, rfl, fun K hK => ?_⟩
   replace ha := Aside0.mk ha
   have q0 := Aside0.mk q8
   have q1 := Aside0.mk q9
   have q4 := Aside0.mk qa
   have HB := Aside0.mk Q_HB
   refine box_step ?hg (N := 5) ?hd (cs := #[.int .i64 0, .int .i64 0]) (t := 37) ?hr ?_; (case hd => rfl); (case hg => rfl); (case hr => first | (go_simp; done) | (go_simp; rfl))
   intro q2 hg w12 hbox hb
   have n0_ := bb q0 hb
   have n1_ := bb q1 hb
   have n2_ := bb q4 hb
   have n3_ := bst HB hb
   have n4_ := Aside0.mk (hbox)
   have n5_ := gw hg HB
   have n6_ := gw hg HB
   have n7_ := nlt hg q0
   have n8_ := ngt hg q0
   have n9_ := nlt hg q1
   have j3 := ngt hg q1
   have j4 := nlt hg q4
   have j5 := ngt hg q4
   have jc := fun (h0_ : up b 10 10 = true) (h1_ : up b 10 11 = true) => (show q3 ≠ q2 from (by cases hb_ : b 13 with | false => exact ((by rw [hg]; exact Nat.ne_of_lt (blk_lt (g := q3) (o := .cells #[.int .i64 0, .int .i64 0] 37 (0, 0)) (by (with_reducible repeat (first | refine blk_drewN ?_ _ | refine blk_drew ?_ | refine blk_alloc ?_ _)); exact (qe h1_ hb_))) : q3 ≠ q2)) | true => exact ((by rw [hg]; exact Nat.ne_of_lt (blk_lt (g := q3) (by (with_reducible repeat (first | refine blk_drewN ?_ _ | refine blk_drew ?_ | refine blk_alloc ?_ _)); exact (qB hb_))) : q3 ≠ q2))))
   have jb := fun (h0_ : up b 10 10 = true) (h1_ : up b 10 11 = true) => (show q2 ≠ q3 from (by cases hb_ : b 13 with | false => exact ((by rw [hg]; exact Nat.ne_of_gt (blk_lt (g := q3) (o := .cells #[.int .i64 0, .int .i64 0] 37 (0, 0)) (by (with_reducible repeat (first | refine blk_drewN ?_ _ | refine blk_drew ?_ | refine blk_alloc ?_ _)); exact (qe h1_ hb_))) : q2 ≠ q3)) | true => exact ((by rw [hg]; exact Nat.ne_of_gt (blk_lt (g := q3) (by (with_reducible repeat (first | refine blk_drewN ?_ _ | refine blk_drew ?_ | refine blk_alloc ?_ _)); exact (qB hb_))) : q2 ≠ q3))))
   have j7 := fun (h0_ : b 11 = true) (h1_ : b 13 = false) => (show w12.heap[q3]? = some (.cells #[.int .i64 0, .int .i64 0] 37 (0, 0)) from by first | exact (blk_below (g := q3) (o := .cells #[.int .i64 0, .int .i64 0] 37 (0, 0)) (by (with_reducible repeat (first | refine blk_drewN ?_ _ | refine blk_drew ?_ | refine blk_alloc ?_ _)); exact (qe h0_ h1_)) hb))
   clear q0
   clear q1
   clear q4
   clear HB
   have q0 := n0_
   have q1 := n1_
   have q4 := n2_
   have HB := n3_
   have q6 := n4_
   have j0 := n5_
   have qY := n6_
   have qH := n7_
   have qR := n8_
   have qJ := n9_
   have qS := j3
   have qC := j4
   have qy := j5
   clear n0_ n1_ n2_ n3_ n4_ n5_ n6_ n7_ n8_ n9_ j3 j4 j5
   clear hb hg
   refine hK.out _ _ ⟨q2, q3, (.pointer (some ⟨q2, 0, none⟩)), qd, (by rw [ha.out]; exact putSel_upk 6 hb_ rfl rfl rfl), (pk q0), (pk q1), (pk q4), (bnow HB), jc, jb, fun _ _ => (pk q6), fun _ => j0.out, fun _ => qY.out, fun _ => qH.out, fun _ => qR.out, fun _ => qJ.out, fun _ => qS.out, fun _ => qC.out, fun _ => qy.out, j7, qj, qh, ql, qt, qn, qu, qp, qv, fun h0_ => absurd ((hoff 12 (by kernel_rfl)).symm.trans h0_) (by decide), fun h0_ => absurd ((hoff 13 (by kernel_rfl)).symm.trans h0_) (by decide), fun _ => rfl, Q_X11_⟩
  refine steps_cons ?_ ?_
  ·rintro b a w' ⟨q2, q3, qc, qd, ha, q8, q9, qa, Q_HB, qx, qw, qf, qi, qg, qk, qq, qm, qr, qo, qs, qe, qj, qh, ql, qt, qn, qu, qp, qv, qA, qB, Q_X10_, Q_X11_⟩ hb_ hon hoff
   refine ⟨_, rfl, fun K hK => ?_⟩
   replace ha := Aside0.mk ha
   have q0 := Aside0.mk q8
   have q1 := Aside0.mk q9
   have q4 := Aside0.mk qa
   have HB := Aside0.mk Q_HB
   refine box_step ?hg (N := 6) ?hd (cs := #[.int .i64 0, .int .i64 0]) (t := 37) ?hr ?_; (case hd => rfl); (case hg => rfl); (case hr => first | (go_simp; done) | (go_simp; rfl))
   intro q3 hg w12 hbox hb
   have n0_ := bb q0 hb
   have n1_ := bb q1 hb
   have n2_ := bb q4 hb
   have n3_ := bst HB hb
   have n4_ := Aside0.mk (hbox)
   have n5_ := gw hg HB
   have n6_ := gw hg HB
   have n7_ := nlt hg q0
   have n8_ := ngt hg q0
   have n9_ := nlt hg q1
   have j3 := ngt hg q1
   have j4 := nlt hg q4
   have j5 := ngt hg q4
   have jc := fun (h0_ : up b 11 10 = true) (h1_ : up b 11 11 = true) => (show q3 ≠ q2 from (by cases hb_ : b 12 with | false => exact ((by rw [hg]; exact Nat.ne_of_gt (blk_lt (g := q2) (o := .cells #[.int .i64 0, .int .i64 0] 37 (0, 0)) (by (with_reducible repeat (first | refine blk_drewN ?_ _ | refine blk_drew ?_ | refine blk_alloc ?_ _)); exact (qf h0_ hb_))) : q3 ≠ q2)) | true => exact ((by rw [hg]; exact Nat.ne_of_gt (blk_lt (g := q2) (by (with_reducible repeat (first | refine blk_drewN ?_ _ | refine blk_drew ?_ | refine blk_alloc ?_ _)); exact (qA hb_))) : q3 ≠ q2))))
   have jb := fun (h0_ : up b 11 10 = true) (h1_ : up b 11 11 = true) => (show q2 ≠ q3 from (by cases hb_ : b 12 with | false => exact ((by rw [hg]; exact Nat.ne_of_lt (blk_lt (g := q2) (o := .cells #[.int .i64 0, .int .i64 0] 37 (0, 0)) (by (with_reducible repeat (first | refine blk_drewN ?_ _ | refine blk_drew ?_ | refine blk_alloc ?_ _)); exact (qf h0_ hb_))) : q2 ≠ q3)) | true => exact ((by rw [hg]; exact Nat.ne_of_lt (blk_lt (g := q2) (by (with_reducible repeat (first | refine blk_drewN ?_ _ | refine blk_drew ?_ | refine blk_alloc ?_ _)); exact (qA hb_))) : q2 ≠ q3))))
   have j6 := fun (h0_ : b 10 = true) (h1_ : b 12 = false) => (show w12.heap[q2]? = some (.cells #[.int .i64 0, .int .i64 0] 37 (0, 0)) from by first | exact (blk_below (g := q2) (o := .cells #[.int .i64 0, .int .i64 0] 37 (0, 0)) (by (with_reducible repeat (first | refine blk_drewN ?_ _ | refine blk_drew ?_ | refine blk_alloc ?_ _)); exact (qf h0_ h1_)) hb))
   clear q0
   clear q1
   clear q4
   clear HB
   have q0 := n0_
   have q1 := n1_
   have q4 := n2_
   have HB := n3_
   have q7 := n4_
   have j1 := n5_
   have qZ := n6_
   have qI := n7_
   have qT := n8_
   have qK := n9_
   have qU := j3
   have qD := j4
   have qz := j5
   clear n0_ n1_ n2_ n3_ n4_ n5_ n6_ n7_ n8_ n9_ j3 j4 j5
   clear hb hg
   refine hK.out _ _ ⟨q2, q3, qc, (.pointer (some ⟨q3, 0, none⟩)), (by rw [ha.out]; exact putSel_upk 7 hb_ rfl rfl rfl), (pk q0), (pk q1), (pk q4), (bnow HB), jc, jb, j6, qi, qg, qk, qq, qm, qr, qo, qs, fun _ _ => (pk q7), fun _ => j1.out, fun _ => qZ.out, fun _ => qI.out, fun _ => qT.out, fun _ => qK.out, fun _ => qU.out, fun _ => qD.out, fun _ => qz.out, fun h0_ => absurd ((hoff 12 (by kernel_rfl)).symm.trans h0_) (by decide), fun h0_ => absurd ((hoff 13 (by kernel_rfl)).symm.trans h0_) (by decide), Q_X10_, fun _ => rfl⟩
  refine steps_cons ?_ ?_
  ·rintro b a w' ⟨q2, q3, qc, qd, ha, q8, q9, qa, Q_HB, qx, qw, qf, qi, qg, qk, qq, qm, qr, qo, qs, qe, qj, qh, ql, qt, qn, qu, qp, qv, qA, qB, Q_X10_, Q_X11_⟩ hb_ hon hoff
   refine ⟨_, rfl, fun K hK => ?_⟩
   have e5 : a.tmps[5]? = some (qc) := by rw [ha]; exact putSel_on (e := (10, 5, qc)) 6 rfl rfl (hon 10 (by kernel_rfl)) rfl
   rw [Q_X10_ (hon 10 (by kernel_rfl))] at e5
   have e11 : a.tmps[11]? = some (.agg #[.int .i64 qN, .int .i64 qP]) := by rw [ha]; exact putSel_on (e := (4, 11, .agg #[.int .i64 qN, .int .i64 qP])) 2 rfl rfl (hon 4 (by kernel_rfl)) rfl
   replace ha := Aside0.mk ha
   have q0 := Aside0.mk q8
   have q1 := Aside0.mk q9
   have q4 := Aside0.mk qa
   have HB := Aside0.mk Q_HB
   have qM := Aside0.mk (qx (hon 10 (by kernel_rfl)) (hon 11 (by kernel_rfl)))
   have qL := Aside0.mk (qw (hon 10 (by kernel_rfl)) (hon 11 (by kernel_rfl)))
   have q6 := Aside0.mk (qf (hon 10 (by kernel_rfl)) hb_)
   have j0 := Aside0.mk (qi (hon 10 (by kernel_rfl)))
   have qY := Aside0.mk (qg (hon 10 (by kernel_rfl)))
   have qH := Aside0.mk (qk (hon 10 (by kernel_rfl)))
   have qR := Aside0.mk (qq (hon 10 (by kernel_rfl)))
   have qJ := Aside0.mk (qm (hon 10 (by kernel_rfl)))
   have qS := Aside0.mk (qr (hon 10 (by kernel_rfl)))
   have qC := Aside0.mk (qo (hon 10 (by kernel_rfl)))
   have qy := Aside0.mk (qs (hon 10 (by kernel_rfl)))
   have q7 := Aside0.mk (qe (hon 11 (by kernel_rfl)) (hoff 13 (by kernel_rfl)))
   have j1 := Aside0.mk (qj (hon 11 (by kernel_rfl)))
   have qZ := Aside0.mk (qh (hon 11 (by kernel_rfl)))
   have qI := Aside0.mk (ql (hon 11 (by kernel_rfl)))
   have qT := Aside0.mk (qt (hon 11 (by kernel_rfl)))
   have qK := Aside0.mk (qn (hon 11 (by kernel_rfl)))
   have qU := Aside0.mk (qu (hon 11 (by kernel_rfl)))
   have qD := Aside0.mk (qp (hon 11 (by kernel_rfl)))
   have qz := Aside0.mk (qv (hon 11 (by kernel_rfl)))
   have gm : w'.cell? ⟨q2, 0, none⟩ = some (.int .i64 0) := (blk_cell q6.out 0).trans rfl
   have jl := blk_frozen q6.out 0
   have jU := qH.out
   have jV := qJ.out
   have jW := qC.out
   have jX := qM.out
   have js := qR.out
   have jt := qS.out
   have ju := qy.out
   have jv := qL.out
   have gn : w'.cell? ⟨q2, 1, none⟩ = some (.int .i64 0) := (blk_cell q6.out 1).trans rfl
   have jm := blk_frozen q6.out 1
   have jY := qH.out
   have jZ := qJ.out
   have g0 := qC.out
   have g1 := qM.out
   have jw := qR.out
   have jx := qS.out
   have jy := qy.out
   have jz := qL.out
   refine skip_ (w1 := ?_) (by rfl) rfl ?_ ?_
   rotate_left
   ·go_simp
    rfl
   refine hK.out _ _ ⟨q2, q3, qc, qd, (by rw [ha.out]; exact putSel_none (v := undef) rfl), (by (with_reducible repeat (first | refine blk_drewN ?_ _ | refine blk_drew ?_ | refine blk_alloc ?_ _)); refine blk_far ?_ qH.out _; (with_reducible repeat (first | refine blk_drewN ?_ _ | refine blk_drew ?_ | refine blk_alloc ?_ _)); refine blk_far ?_ qH.out _; (with_reducible repeat (first | refine blk_drewN ?_ _ | refine blk_drew ?_ | refine blk_alloc ?_ _)); exact q0.out), (by (with_reducible repeat (first | refine blk_drewN ?_ _ | refine blk_drew ?_ | refine blk_alloc ?_ _)); refine blk_far ?_ qJ.out _; (with_reducible repeat (first | refine blk_drewN ?_ _ | refine blk_drew ?_ | refine blk_alloc ?_ _)); refine blk_far ?_ qJ.out _; (with_reducible repeat (first | refine blk_drewN ?_ _ | refine blk_drew ?_ | refine blk_alloc ?_ _)); exact q1.out), (by (with_reducible repeat (first | refine blk_drewN ?_ _ | refine blk_drew ?_ | refine blk_alloc ?_ _)); refine blk_far ?_ qC.out _; (with_reducible repeat (first | refine blk_drewN ?_ _ | refine blk_drew ?_ | refine blk_alloc ?_ _)); refine blk_far ?_ qC.out _; (with_reducible repeat (first | refine blk_drewN ?_ _ | refine blk_drew ?_ | refine blk_alloc ?_ _)); exact q4.out), (bnow HB), fun _ _ => qM.out, fun _ _ => qL.out, fun _ h1_ => absurd ((up_self b 12).symm.trans h1_) (by decide), fun _ => j0.out, fun _ => qY.out, fun _ => qH.out, fun _ => qR.out, fun _ => qJ.out, fun _ => qS.out, fun _ => qC.out, fun _ => qy.out, fun _ _ => (by (with_reducible repeat (first | refine blk_drewN ?_ _ | refine blk_drew ?_ | refine blk_alloc ?_ _)); refine blk_far ?_ qM.out _; (with_reducible repeat (first | refine blk_drewN ?_ _ | refine blk_drew ?_ | refine blk_alloc ?_ _)); refine blk_far ?_ qM.out _; (with_reducible repeat (first | refine blk_drewN ?_ _ | refine blk_drew ?_ | refine blk_alloc ?_ _)); exact q7.out), fun _ => j1.out, fun _ => qZ.out, fun _ => qI.out, fun _ => qT.out, fun _ => qK.out, fun _ => qU.out, fun _ => qD.out, fun _ => qz.out, fun _ => (by (with_reducible repeat (first | refine blk_drewN ?_ _ | refine blk_drew ?_ | refine blk_alloc ?_ _)); refine blk_put (cs := #[.int .i64 qN, .int .i64 0]) ?_ 1 _ rfl; (with_reducible repeat (first | refine blk_drewN ?_ _ | refine blk_drew ?_ | refine blk_alloc ?_ _)); refine blk_put (cs := #[.int .i64 0, .int .i64 0]) ?_ 0 _ rfl; (with_reducible repeat (first | refine blk_drewN ?_ _ | refine blk_drew ?_ | refine blk_alloc ?_ _)); exact q6.out), fun h0_ => absurd ((hoff 13 (by kernel_rfl)).symm.trans h0_) (by decide), Q_X10_, Q_X11_⟩
  refine steps_cons ?_ ?_
  ·rintro b a w' ⟨q2, q3, qc, qd, ha, q8, q9, qa, Q_HB, qx, qw, qf, qi, qg, qk, qq, qm, qr, qo, qs, qe, qj, qh, ql, qt, qn, qu, qp, qv, qA, qB, Q_X10_, Q_X11_⟩ hb_ hon hoff
   refine ⟨_, rfl, fun K hK => ?_⟩
   have e6 : a.tmps[6]? = some (qd) := by rw [ha]; exact putSel_on (e := (11, 6, qd)) 7 rfl rfl (hon 11 (by kernel_rfl)) rfl
   rw [Q_X11_ (hon 11 (by kernel_rfl))] at e6
   have e16 : a.tmps[16]? = some (.agg #[.int .i64 qO, .int .i64 qQ]) := by rw [ha]; exact putSel_on (e := (9, 16, .agg #[.int .i64 qO, .int .i64 qQ])) 5 rfl rfl (hon 9 (by kernel_rfl)) rfl
   replace ha := Aside0.mk ha
   have q0 := Aside0.mk q8
   have q1 := Aside0.mk q9
   have q4 := Aside0.mk qa
   have HB := Aside0.mk Q_HB
   have qM := Aside0.mk (qx (hon 10 (by kernel_rfl)) (hon 11 (by kernel_rfl)))
   have qL := Aside0.mk (qw (hon 10 (by kernel_rfl)) (hon 11 (by kernel_rfl)))
   have j0 := Aside0.mk (qi (hon 10 (by kernel_rfl)))
   have qY := Aside0.mk (qg (hon 10 (by kernel_rfl)))
   have qH := Aside0.mk (qk (hon 10 (by kernel_rfl)))
   have qR := Aside0.mk (qq (hon 10 (by kernel_rfl)))
   have qJ := Aside0.mk (qm (hon 10 (by kernel_rfl)))
   have qS := Aside0.mk (qr (hon 10 (by kernel_rfl)))
   have qC := Aside0.mk (qo (hon 10 (by kernel_rfl)))
   have qy := Aside0.mk (qs (hon 10 (by kernel_rfl)))
   have q7 := Aside0.mk (qe (hon 11 (by kernel_rfl)) hb_)
   have j1 := Aside0.mk (qj (hon 11 (by kernel_rfl)))
   have qZ := Aside0.mk (qh (hon 11 (by kernel_rfl)))
   have qI := Aside0.mk (ql (hon 11 (by kernel_rfl)))
   have qT := Aside0.mk (qt (hon 11 (by kernel_rfl)))
   have qK := Aside0.mk (qn (hon 11 (by kernel_rfl)))
   have qU := Aside0.mk (qu (hon 11 (by kernel_rfl)))
   have qD := Aside0.mk (qp (hon 11 (by kernel_rfl)))
   have qz := Aside0.mk (qv (hon 11 (by kernel_rfl)))
   have q6 := Aside0.mk (qA (hon 12 (by kernel_rfl)))
   have go : w'.cell? ⟨q3, 0, none⟩ = some (.int .i64 0) := (blk_cell q7.out 0).trans rfl
   have jn := blk_frozen q7.out 0
   have g2 := qI.out
   have g3 := qK.out
   have g4 := qD.out
   have g5 := qL.out
   have jA := qT.out
   have jB := qU.out
   have jC := qz.out
   have jD := qM.out
   have gp : w'.cell? ⟨q3, 1, none⟩ = some (.int .i64 0) := (blk_cell q7.out 1).trans rfl
   have jo := blk_frozen q7.out 1
   have g6 := qI.out
   have g7 := qK.out
   have g8 := qD.out
   have g9 := qL.out
   have jE := qT.out
   have jF := qU.out
   have jG := qz.out
   have jH := qM.out
   refine skip_ (w1 := ?_) (by rfl) rfl ?_ ?_
   rotate_left
   ·go_simp
    rfl
   refine hK.out _ _ ⟨q2, q3, qc, qd, (by rw [ha.out]; exact putSel_none (v := undef) rfl), (by (with_reducible repeat (first | refine blk_drewN ?_ _ | refine blk_drew ?_ | refine blk_alloc ?_ _)); refine blk_far ?_ qI.out _; (with_reducible repeat (first | refine blk_drewN ?_ _ | refine blk_drew ?_ | refine blk_alloc ?_ _)); refine blk_far ?_ qI.out _; (with_reducible repeat (first | refine blk_drewN ?_ _ | refine blk_drew ?_ | refine blk_alloc ?_ _)); exact q0.out), (by (with_reducible repeat (first | refine blk_drewN ?_ _ | refine blk_drew ?_ | refine blk_alloc ?_ _)); refine blk_far ?_ qK.out _; (with_reducible repeat (first | refine blk_drewN ?_ _ | refine blk_drew ?_ | refine blk_alloc ?_ _)); refine blk_far ?_ qK.out _; (with_reducible repeat (first | refine blk_drewN ?_ _ | refine blk_drew ?_ | refine blk_alloc ?_ _)); exact q1.out), (by (with_reducible repeat (first | refine blk_drewN ?_ _ | refine blk_drew ?_ | refine blk_alloc ?_ _)); refine blk_far ?_ qD.out _; (with_reducible repeat (first | refine blk_drewN ?_ _ | refine blk_drew ?_ | refine blk_alloc ?_ _)); refine blk_far ?_ qD.out _; (with_reducible repeat (first | refine blk_drewN ?_ _ | refine blk_drew ?_ | refine blk_alloc ?_ _)); exact q4.out), (bnow HB), fun _ _ => qM.out, fun _ _ => qL.out, fun _ h1_ => absurd ((hon 12 (by kernel_rfl)).symm.trans h1_) (by decide), fun _ => j0.out, fun _ => qY.out, fun _ => qH.out, fun _ => qR.out, fun _ => qJ.out, fun _ => qS.out, fun _ => qC.out, fun _ => qy.out, fun _ h1_ => absurd ((up_self b 13).symm.trans h1_) (by decide), fun _ => j1.out, fun _ => qZ.out, fun _ => qI.out, fun _ => qT.out, fun _ => qK.out, fun _ => qU.out, fun _ => qD.out, fun _ => qz.out, fun _ => (by (with_reducible repeat (first | refine blk_drewN ?_ _ | refine blk_drew ?_ | refine blk_alloc ?_ _)); refine blk_far ?_ qL.out _; (with_reducible repeat (first | refine blk_drewN ?_ _ | refine blk_drew ?_ | refine blk_alloc ?_ _)); refine blk_far ?_ qL.out _; (with_reducible repeat (first | refine blk_drewN ?_ _ | refine blk_drew ?_ | refine blk_alloc ?_ _)); exact q6.out), fun _ => (by (with_reducible repeat (first | refine blk_drewN ?_ _ | refine blk_drew ?_ | refine blk_alloc ?_ _)); refine blk_put (cs := #[.int .i64 qO, .int .i64 0]) ?_ 1 _ rfl; (with_reducible repeat (first | refine blk_drewN ?_ _ | refine blk_drew ?_ | refine blk_alloc ?_ _)); refine blk_put (cs := #[.int .i64 0, .int .i64 0]) ?_ 0 _ rfl; (with_reducible repeat (first | refine blk_drewN ?_ _ | refine blk_drew ?_ | refine blk_alloc ?_ _)); exact q7.out), Q_X10_, Q_X11_⟩
  exact steps_nil
 rintro b a w20 hall ⟨q2, q3, qc, qd, ha, q8, q9, qa, Q_HB, qx, qw, qf, qi, qg, qk, qq, qm, qr, qo, qs, qe, qj, qh, ql, qt, qn, qu, qp, qv, qA, qB, Q_X10_, Q_X11_⟩
 clear q0 q1 q4 HB
 have hb1_ := hall 1 (by kernel_rfl)
 have hb3_ := hall 3 (by kernel_rfl)
 have hb4_ := hall 4 (by kernel_rfl)
 have hb6_ := hall 6 (by kernel_rfl)
 have hb8_ := hall 8 (by kernel_rfl)
 have hb9_ := hall 9 (by kernel_rfl)
 have hb10_ := hall 10 (by kernel_rfl)
 have hb11_ := hall 11 (by kernel_rfl)
 have hb12_ := hall 12 (by kernel_rfl)
 have hb13_ := hall 13 (by kernel_rfl)
 subst ha
 obtain rfl := Q_X10_ hb10_
 obtain rfl := Q_X11_ hb11_
 simp only [putSel, hb1_, hb3_, hb4_, hb6_, hb8_, hb9_, hb10_, hb11_, hb12_, hb13_, if_true, Act.put, List.setIfInBounds_toArray, List.set_cons_zero, List.set_cons_succ]
 have q0 := Aside0.mk q8
 clear q8
 have q1 := Aside0.mk q9
 clear q9
 have q4 := Aside0.mk qa
 clear qa
 have HB := Aside0.mk Q_HB
 clear Q_HB
 have qM := Aside0.mk (qx hb10_ hb11_)
 clear qx
 have qL := Aside0.mk (qw hb10_ hb11_)
 clear qw
 clear qf
 have j0 := Aside0.mk (qi hb10_)
 clear qi
 have qY := Aside0.mk (qg hb10_)
 clear qg
 have qH := Aside0.mk (qk hb10_)
 clear qk
 have qR := Aside0.mk (qq hb10_)
 clear qq
 have qJ := Aside0.mk (qm hb10_)
 clear qm
 have qS := Aside0.mk (qr hb10_)
 clear qr
 have qC := Aside0.mk (qo hb10_)
 clear qo
 have qy := Aside0.mk (qs hb10_)
 clear qs
 clear qe
 have j1 := Aside0.mk (qj hb11_)
 clear qj
 have qZ := Aside0.mk (qh hb11_)
 clear qh
 have qI := Aside0.mk (ql hb11_)
 clear ql
 have qT := Aside0.mk (qt hb11_)
 clear qt
 have qK := Aside0.mk (qn hb11_)
 clear qn
 have qU := Aside0.mk (qu hb11_)
 clear qu
 have qD := Aside0.mk (qp hb11_)
 clear qp
 have qz := Aside0.mk (qv hb11_)
 clear qv
 have q6 := Aside0.mk (qA hb12_)
 clear qA
 have q7 := Aside0.mk (qB hb13_)
 clear qB
 clear hall hb1_ hb3_ hb4_ hb6_ hb8_ hb9_ hb10_ hb11_ hb12_ hb13_
 try go_wp2
 replace q0 := bd q0
 replace q1 := bd q1
 replace q4 := bd q4
 replace q6 := bd q6
 replace q7 := bd q7
 replace HB := bdn HB
 refine start_ (n := 14) (S := fun w' => w'.cell? ⟨qV, 0, none⟩ = some (.int .i64 a0_0) ∧ w'.cell? ⟨qV, 1, none⟩ = some (.int .i64 a0_1) ∧ w'.cell? ⟨qV, 2, none⟩ = some (.int .i64 a0_2) ∧ w'.cell? ⟨q2, 0, none⟩ = some (.int .i64 qN) ∧ w'.cell? ⟨q2, 1, none⟩ = some (.int .i64 qP) ∧ w'.cell? ⟨q3, 0, none⟩ = some (.int .i64 qO) ∧ w'.cell? ⟨q3, 1, none⟩ = some (.int .i64 qQ)) (ds := []) #[false, false, false, false, false, false, false, false, false, false, false, false, false, false] (by kernel_rfl) rfl rfl ⟨(blk_cell q0.out 0).trans rfl, (blk_cell q0.out 1).trans rfl, (blk_cell q0.out 2).trans rfl, (blk_cell q6.out 0).trans rfl, (blk_cell q6.out 1).trans rfl, (blk_cell q7.out 0).trans rfl, (blk_cell q7.out 1).trans rfl⟩ (fun hHeld => ?_); refine with_tabW torchonlaw06_lead.tab2 torchonlaw06_lead.bits2 (fun HT_ HW_ => ?_)
 generalize w20.drew = w21 at q0 q1 q4 q6 q7 HB hHeld ⊢
 refine tz 0 17 HT_ HW_ hHeld ?_
 refine tz 1 18 HT_ HW_ hHeld ?_
 refine tz 2 19 HT_ HW_ hHeld ?_
 refine tz 4 21 HT_ HW_ hHeld ?_
 refine tz 5 22 HT_ HW_ hHeld ?_
 refine tz 6 23 HT_ HW_ hHeld ?_
 refine tz 8 25 HT_ HW_ hHeld ?_
 refine tz 9 26 HT_ HW_ hHeld ?_
 refine tz 10 27 HT_ HW_ hHeld ?_
 refine one_ (i := 3) (N := some 20) #[true, true, true, true, true, true, true, false, true, true, true, false, false, false] rfl rfl (one_of HT_.out (by kernel_rfl)) (by decide) (fun K hK => ?_)
 refine gs _ Try.func48 (torchonref06_Product.calls a0_0 a0_1 a0_2 qN qP qN qP qW _ A5.out) ?_
 rintro e w22 ⟨rfl, hb⟩
 refine ⟨_, rfl, ?_⟩
 replace q0 := bb q0 hb
 replace q1 := bb q1 hb
 replace q4 := bb q4 hb
 replace q6 := bb q6 hb
 replace q7 := bb q7 hb
 replace HB := bst HB hb
 (try clear hb)
 (try clear hb2)
 (try clear hk)
 (try clear hi)
 refine hK.out _ _ ⟨(blk_cell q0.out 0).trans rfl, (blk_cell q0.out 1).trans rfl, (blk_cell q0.out 2).trans rfl, (blk_cell q6.out 0).trans rfl, (blk_cell q6.out 1).trans rfl, (blk_cell q7.out 0).trans rfl, (blk_cell q7.out 1).trans rfl⟩ (fun hHeld => ?_)
 clear hK K
 refine norm_ (a' := ?_) ?_ ?_
 rotate_left
 ·show Act.put _ (some 20) _ = _
  simp only [Act.put, List.setIfInBounds_toArray, List.set_cons_zero, List.set_cons_succ, i64_w, i32_w]
  rfl
 refine one_ (i := 7) (N := some 24) #[true, true, true, true, true, true, true, true, true, true, true, false, false, false] rfl rfl (one_of HT_.out (by kernel_rfl)) (by decide) (fun K hK => ?_)
 refine gs _ Try.func48 (torchonref06_Product.calls a0_0 a0_1 a0_2 qN qP qO qQ qX _ A6.out) ?_
 rintro e w23 ⟨rfl, hb⟩
 refine ⟨_, rfl, ?_⟩
 replace q0 := bb q0 hb
 replace q1 := bb q1 hb
 replace q4 := bb q4 hb
 replace q6 := bb q6 hb
 replace q7 := bb q7 hb
 replace HB := bst HB hb
 (try clear hb)
 (try clear hb2)
 (try clear hk)
 (try clear hi)
 refine hK.out _ _ ⟨(blk_cell q0.out 0).trans rfl, (blk_cell q0.out 1).trans rfl, (blk_cell q0.out 2).trans rfl, (blk_cell q6.out 0).trans rfl, (blk_cell q6.out 1).trans rfl, (blk_cell q7.out 0).trans rfl, (blk_cell q7.out 1).trans rfl⟩ (fun hHeld => ?_)
 clear hK K
 refine norm_ (a' := ?_) ?_ ?_
 rotate_left
 ·show Act.put _ (some 24) _ = _
  simp only [Act.put, List.setIfInBounds_toArray, List.set_cons_zero, List.set_cons_succ, i64_w, i32_w]
  rfl
 refine one_ (i := 11) (N := some 28) #[true, true, true, true, true, true, true, true, true, true, true, true, false, false] rfl rfl (one_of HT_.out (by kernel_rfl)) (by decide) (fun K hK => ?_)
 refine gs _ Try.func48 (torchonref06_Product.calls a0_0 a0_1 a0_2 qO qQ qO qQ j2 _ A7.out) ?_
 rintro e w24 ⟨rfl, hb⟩
 refine ⟨_, rfl, ?_⟩
 replace q0 := bb q0 hb
 replace q1 := bb q1 hb
 replace q4 := bb q4 hb
 replace q6 := bb q6 hb
 replace q7 := bb q7 hb
 replace HB := bst HB hb
 (try clear hb)
 (try clear hb2)
 (try clear hk)
 (try clear hi)
 refine hK.out _ _ ⟨(blk_cell q0.out 0).trans rfl, (blk_cell q0.out 1).trans rfl, (blk_cell q0.out 2).trans rfl, (blk_cell q6.out 0).trans rfl, (blk_cell q6.out 1).trans rfl, (blk_cell q7.out 0).trans rfl, (blk_cell q7.out 1).trans rfl⟩ (fun hHeld => ?_)
 clear hK K
 refine norm_ (a' := ?_) ?_ ?_
 rotate_left
 ·show Act.put _ (some 28) _ = _
  simp only [Act.put, List.setIfInBounds_toArray, List.set_cons_zero, List.set_cons_succ, i64_w, i32_w]
  rfl
 refine pz 12 29 HT_ ?_
 refine one_ (i := 13) (N := none) #[true, true, true, true, true, true, true, true, true, true, true, true, true, true] rfl rfl (one_of HT_.out (by kernel_rfl)) (by decide) (fun K hK => ?_)
 have gq : w24.cell? ⟨q5, 0, none⟩ = some (.int .i64 0) := (blk_cell q4.out 0).trans rfl
 have jp := blk_frozen q4.out 0
 have ga := qG.out
 have gb := j8.out
 have gc := qy.out
 have gd := qz.out
 have jI := j9.out
 have jJ := ja.out
 have jK := qC.out
 have jL := qD.out
 have gr : w24.cell? ⟨q5, 1, none⟩ = some (.int .i64 0) := (blk_cell q4.out 1).trans rfl
 have jq := blk_frozen q4.out 1
 have ge := qG.out
 have gf := j8.out
 have gg := qy.out
 have gh := qz.out
 have jM := j9.out
 have jN := ja.out
 have jO := qC.out
 have jP := qD.out
 have gt : w24.cell? ⟨q5, 2, none⟩ = some (.int .i64 0) := (blk_cell q4.out 2).trans rfl
 have jr := blk_frozen q4.out 2
 have gi := qG.out
 have gj := j8.out
 have gk := qy.out
 have gl := qz.out
 have jQ := j9.out
 have jR := ja.out
 have jS := qC.out
 have jT := qD.out
 refine skip_ (w1 := ?_) (by rfl) rfl ?_ ?_
 rotate_left
 ·go_simp
  rfl
 refine hK.out _ _ ⟨((cell_far (p := ⟨q5, _, none⟩) qG.out _).trans (((cell_far (p := ⟨q5, _, none⟩) qG.out _).trans (((cell_far (p := ⟨q5, _, none⟩) qG.out _).trans (hHeld.1)))))), ((cell_far (p := ⟨q5, _, none⟩) qG.out _).trans (((cell_far (p := ⟨q5, _, none⟩) qG.out _).trans (((cell_far (p := ⟨q5, _, none⟩) qG.out _).trans (hHeld.2.1)))))), ((cell_far (p := ⟨q5, _, none⟩) qG.out _).trans (((cell_far (p := ⟨q5, _, none⟩) qG.out _).trans (((cell_far (p := ⟨q5, _, none⟩) qG.out _).trans (hHeld.2.2.1)))))), ((cell_far (p := ⟨q5, _, none⟩) qy.out _).trans (((cell_far (p := ⟨q5, _, none⟩) qy.out _).trans (((cell_far (p := ⟨q5, _, none⟩) qy.out _).trans (hHeld.2.2.2.1)))))), ((cell_far (p := ⟨q5, _, none⟩) qy.out _).trans (((cell_far (p := ⟨q5, _, none⟩) qy.out _).trans (((cell_far (p := ⟨q5, _, none⟩) qy.out _).trans (hHeld.2.2.2.2.1)))))), ((cell_far (p := ⟨q5, _, none⟩) qz.out _).trans (((cell_far (p := ⟨q5, _, none⟩) qz.out _).trans (((cell_far (p := ⟨q5, _, none⟩) qz.out _).trans (hHeld.2.2.2.2.2.1)))))), ((cell_far (p := ⟨q5, _, none⟩) qz.out _).trans (((cell_far (p := ⟨q5, _, none⟩) qz.out _).trans (((cell_far (p := ⟨q5, _, none⟩) qz.out _).trans (hHeld.2.2.2.2.2.2))))))⟩ (fun hHeld => ?_)
 clear hK K
 refine done_ (done_of HT_.out (by kernel_rfl)) ?_
 try go_wp2
 refine bodyPost_ret (results_cell_row rfl _ _ q5 23 #[.int .i64 qW, .int .i64 qX, .int .i64 j2] (0, 0) _ rfl (by (with_reducible repeat (first | refine blk_drewN ?_ _ | refine blk_drew ?_ | refine blk_alloc ?_ _)); refine blk_put (cs := #[.int .i64 qW, .int .i64 qX, .int .i64 0]) ?_ 2 _ rfl; (with_reducible repeat (first | refine blk_drewN ?_ _ | refine blk_drew ?_ | refine blk_alloc ?_ _)); refine blk_put (cs := #[.int .i64 qW, .int .i64 0, .int .i64 0]) ?_ 1 _ rfl; (with_reducible repeat (first | refine blk_drewN ?_ _ | refine blk_drew ?_ | refine blk_alloc ?_ _)); refine blk_put (cs := #[.int .i64 0, .int .i64 0, .int .i64 0]) ?_ 0 _ rfl; (with_reducible repeat (first | refine blk_drewN ?_ _ | refine blk_drew ?_ | refine blk_alloc ?_ _)); exact q4.out) Try.underlying23 rfl (by kernel_rfl)) rfl ?_
 exact rt HB
end
end Go.Proofs.Ytmcajdepoohlhaa.G
