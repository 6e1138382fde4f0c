/- Functions of the program as plain Lean functions, and their contracts (printed by a program of this session). No condition beyond what each states. -/
import Derived.Test.YtmcajdepoohlhaaCKeepY
import Derived.Test.YtmcajdepoohlhaaCKeepP0
import Derived.Test.YtmcajdepoohlhaaCKeepP2
import Derived.Test.YtmcajdepoohlhaaCKeepP1
import Derived.Test.YtmcajdepoohlhaaCKeepP3
namespace Go.Proofs.Ytmcajdepoohlhaa.G
open Go.RowKit Go.Proofs.YtmcajdepoohlhaaW.PrintWords Go.Proofs.YtmcajdepoohlhaaW.PrintLast Go.Proofs.YtmcajdepoohlhaaW.PrintMore
attribute [local go_sem] max2_int min2_int max_two min_two max_three min_three max_four min_four
set_option linter.unusedVariables false
set_option linter.unusedSimpArgs false
section
attribute [local go_sem high] eqA25
/-! ### grids_Order: function 33 -/
mutual
def grids_Order.j0 : Nat → Int → Int → Bool → Option (Int × Int)
 | 0, _, _, _ => none
 | k + 1, x5, x6, x28 => if x28 = true then (some (3, 0)) else (if x5 = 1 then (grids_Order.j1 k x5 x6 (x6 == 0)) else (grids_Order.j1 k x5 x6 false))
def grids_Order.j1 : Nat → Int → Int → Bool → Option (Int × Int)
 | 0, _, _, _ => none
 | k + 1, x5, x6, x35 => if x35 = true then (some (4, 0)) else (if x5 = 1 then (if x6 = 1 then (some (6, 0)) else (some (0, 0))) else (some (0, 0)))
end
def grids_Order.f (k : Nat) (a0_0 : Int) (a0_1 : Int) (a0_2 : Int) (a0_3 : Int) : Option (Int × Int) := (grids_matrix.f a0_0 a0_1 a0_2 a0_3).bind fun qf => (if qf = true then ((grids_det.f a0_0 a0_1 a0_2 a0_3).bind fun q2 => ((some (wrap64 (a0_0 + a0_3))).bind fun q3 => (if (a0_0 == 1 && (a0_1 == 0 && (a0_2 == 0 && (a0_3 == 1)))) = true then (some (1, 0)) else ((grids_times.f a0_0 a0_1 a0_2 a0_3 a0_0 a0_1 a0_2 a0_3).bind fun q6 => (if (q6.1 == 1 && (q6.2.1 == 0 && (q6.2.2.1 == 0 && (q6.2.2.2 == 1)))) = true then (some (2, 0)) else (if q2 = 1 then (grids_Order.j0 k q2 q3 (q3 == (-1))) else (grids_Order.j0 k q2 q3 false))))))) else (some (0, 2)))
theorem grids_Order.mono_l : ∀ k, (∀ y0 y1 y2, LeO (grids_Order.j0 k y0 y1 y2) (grids_Order.j0 (k + 1) y0 y1 y2)) ∧ (∀ y0 y1 y2, LeO (grids_Order.j1 k y0 y1 y2) (grids_Order.j1 (k + 1) y0 y1 y2))
 | 0 => ⟨fun _ _ _ r h => by simp [grids_Order.j0] at h, fun _ _ _ r h => by simp [grids_Order.j1] at h⟩
 | k + 1 => by
  obtain ⟨ih0, ih1⟩ := grids_Order.mono_l k
  refine ⟨?_, ?_⟩
  ·intro y0 y1 y2
   unfold grids_Order.j0
   repeat' first
   | (with_reducible exact ih0 _ _ _)
   | (with_reducible exact ih1 _ _ _)
   | (with_reducible exact LeO.refl _)
   | (with_reducible exact LeO.none _)
   | (with_reducible refine LeO.ite ?_ ?_)
   | (with_reducible refine LeO.bind ?_ (fun _ => ?_))
   | exact ih0 _ _ _
   | exact ih1 _ _ _
   | exact LeO.none _
   | refine LeO.ite ?_ ?_
   | refine LeO.bind ?_ (fun _ => ?_)
  ·intro y0 y1 y2
   unfold grids_Order.j1
   repeat' first
   | (with_reducible exact ih0 _ _ _)
   | (with_reducible exact ih1 _ _ _)
   | (with_reducible exact LeO.refl _)
   | (with_reducible exact LeO.none _)
   | (with_reducible refine LeO.ite ?_ ?_)
   | (with_reducible refine LeO.bind ?_ (fun _ => ?_))
   | exact ih0 _ _ _
   | exact ih1 _ _ _
   | exact LeO.none _
   | refine LeO.ite ?_ ?_
   | refine LeO.bind ?_ (fun _ => ?_)
theorem grids_Order.mono : ∀ a0 a1 a2 a3 k, LeO (grids_Order.f k a0 a1 a2 a3) (grids_Order.f (k + 1) a0 a1 a2 a3) := by
 intro a0 a1 a2 a3 k
 obtain ⟨ih0, ih1⟩ := grids_Order.mono_l k
 unfold grids_Order.f
 repeat' first
   | (with_reducible exact ih0 _ _ _)
   | (with_reducible exact ih1 _ _ _)
   | (with_reducible exact LeO.refl _)
   | (with_reducible exact LeO.none _)
   | (with_reducible refine LeO.ite ?_ ?_)
   | (with_reducible refine LeO.bind ?_ (fun _ => ?_))
   | exact ih0 _ _ _
   | exact ih1 _ _ _
   | exact LeO.none _
   | refine LeO.ite ?_ ?_
   | refine LeO.bind ?_ (fun _ => ?_)
def grids_Order.T4 : Bool × List (List Nat × List Nat) := (true, [([], []), ([0], [0]), ([], []), ([2], [2]), ([], []), ([4], [4]), ([3, 5], [3, 5]), ([1, 1, 0, 1], [1]), ([6, 7, 0, 1, 2, 3, 4, 5, 6, 7], [6])])
def grids_Order.B4 : List Nat := [0, 1, 0, 4, 0, 16, 60, 3, 255]
theorem grids_Order.tab4 : rtab .any (opsOf Try.f33 4) = grids_Order.T4 := by kernel_rfl
theorem grids_Order.bits4 : waitsOk grids_Order.T4.2 grids_Order.B4 = true := by kernel_rfl
set_option maxHeartbeats 8000000 in
set_option maxRecDepth 100000 in
theorem grids_Order.calls (k : Nat) (a0_0 : Int) (a0_1 : Int) (a0_2 : Int) (a0_3 : Int) (r1 : Int) (r2 : Int) (w : World) (h : grids_Order.f k a0_0 a0_1 a0_2 a0_3 = some (r1, r2)) :
  Calls Try.prog 33 #[.agg #[.int .i64 a0_0, .int .i64 a0_1, .int .i64 a0_2, .int .i64 a0_3]] w fun e w' => e = .returned (.tuple #[.int .i64 r1, .int .i64 r2]) ∧ Below w.heap.size w w' := by
 have hu25 := Try.underlying25
 have HB := Aside0.mk (Below.refl w.heap.size w)
 have H : ((grids_matrix.f a0_0 a0_1 a0_2 a0_3).bind fun qf => (if qf = true then ((grids_det.f a0_0 a0_1 a0_2 a0_3).bind fun q2 => ((some (wrap64 (a0_0 + a0_3))).bind fun q3 => (if (a0_0 == 1 && (a0_1 == 0 && (a0_2 == 0 && (a0_3 == 1)))) = true then (some (1, 0)) else ((grids_times.f a0_0 a0_1 a0_2 a0_3 a0_0 a0_1 a0_2 a0_3).bind fun q6 => (if (q6.1 == 1 && (q6.2.1 == 0 && (q6.2.2.1 == 0 && (q6.2.2.2 == 1)))) = true then (some (2, 0)) else (if q2 = 1 then (grids_Order.j0 k q2 q3 (q3 == (-1))) else (grids_Order.j0 k q2 q3 false))))))) else (some (0, 2)))) = some (r1, r2) := h
 clear h
 obtain ⟨qf, A2, H⟩ := ob H
 by_cases c3 : qf = true
 ·subst c3
  have H1 : ((grids_det.f a0_0 a0_1 a0_2 a0_3).bind fun q2 => ((some (wrap64 (a0_0 + a0_3))).bind fun q3 => (if (a0_0 == 1 && (a0_1 == 0 && (a0_2 == 0 && (a0_3 == 1)))) = true then (some (1, 0)) else ((grids_times.f a0_0 a0_1 a0_2 a0_3 a0_0 a0_1 a0_2 a0_3).bind fun q6 => (if (q6.1 == 1 && (q6.2.1 == 0 && (q6.2.2.1 == 0 && (q6.2.2.2 == 1)))) = true then (some (2, 0)) else (if q2 = 1 then (grids_Order.j0 k q2 q3 (q3 == (-1))) else (grids_Order.j0 k q2 q3 false))))))) = some (r1, r2) := by rw [if_pos rfl] at H; exact H
  clear H
  have H := H1
  clear H1
  obtain ⟨q2, A4, H⟩ := ob H
  obtain ⟨q3, E50, H⟩ := oc H
  have E5w : (IntKind.i64.wrap (a0_0 + a0_3)) = q3 := (i64_w _).trans E50
  by_cases c6 : (a0_0 == 1 && (a0_1 == 0 && (a0_2 == 0 && (a0_3 == 1)))) = true
  ·rw [if_pos c6] at H
   have qo : (a0_0 == 1 && (a0_1 == 0 && (a0_2 == 0 && (a0_3 == 1)))) = true := c6
   (try (have qp : decide (a0_0 = 1 && (a0_1 == 0 && (a0_2 == 0 && (a0_3 == 1)))) = true := by simpa using c6))
   (try (have qq : (a0_0 == 1 && (a0_1 == 0 && (a0_2 == 0 && (a0_3 == 1)))) = true := by simpa using c6))
   clear c6
   simp only [Option.some.injEq, Prod.mk.injEq] at H
   obtain ⟨rfl, rfl⟩ := H
   go_enter Try.func33, Try.ntmps33
   try go_wp2_with (first | ((with_reducible refine gate_dst (N := 1) rfl ?_); refine bx 1 #[.int .i64 a0_0, .int .i64 a0_1, .int .i64 a0_2, .int .i64 a0_3] 25 fun q4 hg w7 q0 hb => ?_; have qh := gw hg HB; have qg := gw hg HB; replace HB := bst HB hb; clear hb hg; have ⟨jc, jd, je, jf, jY, jZ, g0, g1⟩ := cf4 q0) | ((with_reducible refine gate_callee (f := 59) rfl ?_); refine gl 8 Try.func59 (grids_matrix.calls a0_0 a0_1 a0_2 a0_3 true _ A2.out) ?_; rintro e w9 ⟨rfl, hb⟩; refine ⟨_, rfl, ?_⟩; replace q0 := bb q0 hb; replace HB := bst HB hb; clear hb) | ((with_reducible refine gate_dst (N := 4) rfl ?_); refine bx 4 #[.int .i64 0, .int .i64 0, .int .i64 0, .int .i64 0] 25 fun q5 hg w10 q1 hb => ?_; have qs := gw hg HB; have qr := gw hg HB; have qd := nlt hg q0; have qe := ngt hg q0; replace q0 := bb q0 hb; replace HB := bst HB hb; clear hb hg; have gg := qe.out; have gj := qd.out; have ⟨qu, qv, qw, qx, jg, jh, ji, jj⟩ := cf4 q1) | ((with_reducible refine gate_store (t := 25) (p := 4) rfl ?_); refine sx 25 4 (((((w10.setCell ⟨q5, 0, none⟩ (.int .i64 1)).setCell ⟨q5, 1, none⟩ (.int .i64 0)).setCell ⟨q5, 2, none⟩ (.int .i64 0)).setCell ⟨q5, 3, none⟩ (.int .i64 1))) fun w13 hw => ?_; replace q0 := fw hw q0; replace q1 := pw4 hw q1; replace HB := bw hw HB; clear hw))
   replace q0 := bd q0
   replace q1 := bd q1
   replace HB := bdn HB
   refine start_ (n := 9) (S := fun w' => w'.cell? ⟨q4, 0, none⟩ = some (.int .i64 a0_0) ∧ w'.cell? ⟨q4, 1, none⟩ = some (.int .i64 a0_1) ∧ w'.cell? ⟨q4, 2, none⟩ = some (.int .i64 a0_2) ∧ w'.cell? ⟨q4, 3, none⟩ = some (.int .i64 a0_3)) (ds := []) #[false, false, false, false, false, false, false, false, false] (by kernel_rfl) rfl rfl ⟨(blk_cell q0.out 0).trans rfl, (blk_cell q0.out 1).trans rfl, (blk_cell q0.out 2).trans rfl, (blk_cell q0.out 3).trans rfl⟩ (fun hHeld => ?_); refine with_tabW grids_Order.tab4 grids_Order.bits4 (fun HT_ HW_ => ?_)
   generalize w13.drew = w14 at q0 q1 HB hHeld ⊢
   refine pz 2 13 HT_ ?_
   refine pz 4 15 HT_ ?_
   refine tz 0 11 HT_ HW_ hHeld ?_
   refine tz 3 14 HT_ HW_ hHeld ?_
   refine tz 5 16 HT_ HW_ hHeld ?_
   refine pz 6 17 HT_ ?_
   refine one_ (i := 1) (N := some 12) #[true, true, true, true, true, true, true, false, false] rfl rfl (one_of HT_.out (by kernel_rfl)) (by decide) (fun K hK => ?_)
   refine gs _ Try.func68 (grids_det.calls a0_0 a0_1 a0_2 a0_3 q2 _ A4.out) ?_
   rintro e w15 ⟨rfl, hb⟩
   refine ⟨_, rfl, ?_⟩
   replace q0 := bb q0 hb
   replace q1 := bb q1 hb
   replace HB := bst HB hb
   (try clear hb)
   (try clear hb2)
   (try clear hk)
   (try clear hi)
   refine hK.out _ _ ⟨(blk_cell q0.out 0).trans rfl, (blk_cell q0.out 1).trans rfl, (blk_cell q0.out 2).trans rfl, (blk_cell q0.out 3).trans rfl⟩ (fun hHeld => ?_)
   clear hK K
   refine norm_ (a' := ?_) ?_ ?_
   rotate_left
   ·show Act.put _ (some 12) _ = _
    simp only [Act.put, List.setIfInBounds_toArray, List.set_cons_zero, List.set_cons_succ, i64_w, i32_w]
    rfl
   refine pz 7 5 HT_ ?_
   refine pz 8 6 HT_ ?_
   refine done_ (done_of HT_.out (by kernel_rfl)) ?_
   have ⟨qy, qz, qA, qB, jk, jl, jm, jn⟩ := cf4 q0
   have ⟨qC, qD, qE, qF, jo, jp, jq, jr⟩ := cf4 q1
   try go_wp2
   go_ret2
   exact rt HB
  ·rw [if_neg c6] at H
   have qo : (a0_0 == 1 && (a0_1 == 0 && (a0_2 == 0 && (a0_3 == 1)))) = false := by simpa using c6
   (try (have qp : decide (a0_0 = 1 && (a0_1 == 0 && (a0_2 == 0 && (a0_3 == 1)))) = false := by simpa using c6))
   (try (have qq : (a0_0 == 1 && (a0_1 == 0 && (a0_2 == 0 && (a0_3 == 1)))) = false := by simpa using c6))
   (try (have g7 : ¬ (a0_0 = 1 && (a0_1 == 0 && (a0_2 == 0 && (a0_3 == 1)))) := by simpa using c6))
   clear c6
   obtain ⟨⟨q7, q8, q9, qa⟩, A18, H⟩ := ob H
   by_cases c19 : (q7 == 1 && (q8 == 0 && (q9 == 0 && (qa == 1)))) = true
   ·rw [if_pos c19] at H
    have qk : (q7 == 1 && (q8 == 0 && (q9 == 0 && (qa == 1)))) = true := c19
    (try (have ql : decide (q7 = 1 && (q8 == 0 && (q9 == 0 && (qa == 1)))) = true := by simpa using c19))
    (try (have qm : (q7 == 1 && (q8 == 0 && (q9 == 0 && (qa == 1)))) = true := by simpa using c19))
    clear c19
    simp only [Option.some.injEq, Prod.mk.injEq] at H
    obtain ⟨rfl, rfl⟩ := H
    go_enter Try.func33, Try.ntmps33
    try go_wp2_with (first | ((with_reducible refine gate_dst (N := 1) rfl ?_); refine bx 1 #[.int .i64 a0_0, .int .i64 a0_1, .int .i64 a0_2, .int .i64 a0_3] 25 fun q4 hg w20 q0 hb => ?_; have qh := gw hg HB; have qg := gw hg HB; replace HB := bst HB hb; clear hb hg; have ⟨qG, qH, qI, qJ, js, jt, ju, jv⟩ := cf4 q0) | ((with_reducible refine gate_callee (f := 59) rfl ?_); refine gl 8 Try.func59 (grids_matrix.calls a0_0 a0_1 a0_2 a0_3 true _ A2.out) ?_; rintro e w22 ⟨rfl, hb⟩; refine ⟨_, rfl, ?_⟩; replace q0 := bb q0 hb; replace HB := bst HB hb; clear hb) | ((with_reducible refine gate_dst (N := 4) rfl ?_); refine bx 4 #[.int .i64 0, .int .i64 0, .int .i64 0, .int .i64 0] 25 fun q5 hg w23 q1 hb => ?_; have qs := gw hg HB; have qr := gw hg HB; have qd := nlt hg q0; have qe := ngt hg q0; replace q0 := bb q0 hb; replace HB := bst HB hb; clear hb hg; have gh := qe.out; have gk := qd.out; have ⟨qK, qL, qM, qN, jw, jx, jy, jz⟩ := cf4 q1) | ((with_reducible refine gate_store (t := 25) (p := 4) rfl ?_); refine sx 25 4 (((((w23.setCell ⟨q5, 0, none⟩ (.int .i64 1)).setCell ⟨q5, 1, none⟩ (.int .i64 0)).setCell ⟨q5, 2, none⟩ (.int .i64 0)).setCell ⟨q5, 3, none⟩ (.int .i64 1))) fun w26 hw => ?_; replace q0 := fw hw q0; replace q1 := pw4 hw q1; replace HB := bw hw HB; clear hw))
    replace q0 := bd q0
    replace q1 := bd q1
    replace HB := bdn HB
    refine start_ (n := 9) (S := fun w' => w'.cell? ⟨q4, 0, none⟩ = some (.int .i64 a0_0) ∧ w'.cell? ⟨q4, 1, none⟩ = some (.int .i64 a0_1) ∧ w'.cell? ⟨q4, 2, none⟩ = some (.int .i64 a0_2) ∧ w'.cell? ⟨q4, 3, none⟩ = some (.int .i64 a0_3)) (ds := []) #[false, false, false, false, false, false, false, false, false] (by kernel_rfl) rfl rfl ⟨(blk_cell q0.out 0).trans rfl, (blk_cell q0.out 1).trans rfl, (blk_cell q0.out 2).trans rfl, (blk_cell q0.out 3).trans rfl⟩ (fun hHeld => ?_); refine with_tabW grids_Order.tab4 grids_Order.bits4 (fun HT_ HW_ => ?_)
    generalize w26.drew = w27 at q0 q1 HB hHeld ⊢
    refine pz 2 13 HT_ ?_
    refine pz 4 15 HT_ ?_
    refine tz 0 11 HT_ HW_ hHeld ?_
    refine tz 3 14 HT_ HW_ hHeld ?_
    refine tz 5 16 HT_ HW_ hHeld ?_
    refine pz 6 17 HT_ ?_
    refine one_ (i := 1) (N := some 12) #[true, true, true, true, true, true, true, false, false] rfl rfl (one_of HT_.out (by kernel_rfl)) (by decide) (fun K hK => ?_)
    refine gs _ Try.func68 (grids_det.calls a0_0 a0_1 a0_2 a0_3 q2 _ A4.out) ?_
    rintro e w28 ⟨rfl, hb⟩
    refine ⟨_, rfl, ?_⟩
    replace q0 := bb q0 hb
    replace q1 := bb q1 hb
    replace HB := bst HB hb
    (try clear hb)
    (try clear hb2)
    (try clear hk)
    (try clear hi)
    refine hK.out _ _ ⟨(blk_cell q0.out 0).trans rfl, (blk_cell q0.out 1).trans rfl, (blk_cell q0.out 2).trans rfl, (blk_cell q0.out 3).trans rfl⟩ (fun hHeld => ?_)
    clear hK K
    refine norm_ (a' := ?_) ?_ ?_
    rotate_left
    ·show Act.put _ (some 12) _ = _
     simp only [Act.put, List.setIfInBounds_toArray, List.set_cons_zero, List.set_cons_succ, i64_w, i32_w]
     rfl
    refine pz 7 5 HT_ ?_
    refine pz 8 6 HT_ ?_
    refine done_ (done_of HT_.out (by kernel_rfl)) ?_
    have ⟨qO, qP, qQ, qR, jA, jB, jC, jD⟩ := cf4 q0
    have ⟨qS, qT, qU, qV, jE, jF, jG, jH⟩ := cf4 q1
    try go_wp2
    replace q0 := bd q0
    replace q1 := bd q1
    replace HB := bdn HB
    refine start_ (n := 6) (S := fun w' => w'.cell? ⟨q4, 0, none⟩ = some (.int .i64 a0_0) ∧ w'.cell? ⟨q4, 1, none⟩ = some (.int .i64 a0_1) ∧ w'.cell? ⟨q4, 2, none⟩ = some (.int .i64 a0_2) ∧ w'.cell? ⟨q4, 3, none⟩ = some (.int .i64 a0_3) ∧ w'.cell? ⟨q5, 0, none⟩ = some (.int .i64 1) ∧ w'.cell? ⟨q5, 1, none⟩ = some (.int .i64 0) ∧ w'.cell? ⟨q5, 2, none⟩ = some (.int .i64 0) ∧ w'.cell? ⟨q5, 3, none⟩ = some (.int .i64 1)) (ds := []) #[false, false, false, false, false, false] (by kernel_rfl) rfl rfl ⟨(blk_cell q0.out 0).trans rfl, (blk_cell q0.out 1).trans rfl, (blk_cell q0.out 2).trans rfl, (blk_cell q0.out 3).trans rfl, (blk_cell q1.out 0).trans rfl, (blk_cell q1.out 1).trans rfl, (blk_cell q1.out 2).trans rfl, (blk_cell q1.out 3).trans rfl⟩ (fun hHeld => ?_)
    generalize w28.drew = w31 at q0 q1 HB hHeld ⊢
    refine take_ (i := 0) (N := some 23) (v := ?_) (a' := ?_) #[true, false, false, false, false, false] rfl rfl (by kernel_rfl) (fun _ _ _ h => h) (Or.inl ⟨by rfl, ?_⟩) hHeld ?_ ?_
    rotate_left
    ·rintro w' ⟨s0, s1, s2, s3, s4, s5, s6, s7⟩
     go_simp
     with_reducible rfl
    rotate_left
    ·simp only [Act.put, List.setIfInBounds_toArray, List.set_cons_zero, List.set_cons_succ, i64_w, i32_w]
     rfl
    refine take_ (i := 1) (N := some 24) (v := ?_) (a' := ?_) #[true, true, false, false, false, false] rfl rfl (by kernel_rfl) (fun _ _ _ h => h) (Or.inl ⟨by rfl, ?_⟩) hHeld ?_ ?_
    rotate_left
    ·rintro w' ⟨s0, s1, s2, s3, s4, s5, s6, s7⟩
     go_simp
     with_reducible rfl
    rotate_left
    ·simp only [Act.put, List.setIfInBounds_toArray, List.set_cons_zero, List.set_cons_succ, i64_w, i32_w]
     rfl
    refine take_ (i := 3) (N := some 26) (v := ?_) (a' := ?_) #[true, true, false, true, false, false] rfl rfl (by kernel_rfl) (fun _ _ _ h => h) (Or.inl ⟨by rfl, ?_⟩) hHeld ?_ ?_
    rotate_left
    ·rintro w' ⟨s0, s1, s2, s3, s4, s5, s6, s7⟩
     go_simp
     with_reducible rfl
    rotate_left
    ·simp only [Act.put, List.setIfInBounds_toArray, List.set_cons_zero, List.set_cons_succ, i64_w, i32_w]
     rfl
    refine one_ (i := 2) (N := some 25) #[true, true, true, true, false, false] rfl rfl (by kernel_rfl) (by decide) (fun K hK => ?_)
    refine gs _ Try.func40 (grids_times.calls a0_0 a0_1 a0_2 a0_3 a0_0 a0_1 a0_2 a0_3 q7 q8 q9 qa _ A18.out) ?_
    rintro e w32 ⟨rfl, hb⟩
    refine ⟨_, rfl, ?_⟩
    replace q0 := bb q0 hb
    replace q1 := bb q1 hb
    replace HB := bst HB hb
    (try clear hb)
    (try clear hb2)
    (try clear hk)
    (try clear hi)
    refine hK.out _ _ ⟨(blk_cell q0.out 0).trans rfl, (blk_cell q0.out 1).trans rfl, (blk_cell q0.out 2).trans rfl, (blk_cell q0.out 3).trans rfl, (blk_cell q1.out 0).trans rfl, (blk_cell q1.out 1).trans rfl, (blk_cell q1.out 2).trans rfl, (blk_cell q1.out 3).trans rfl⟩ (fun hHeld => ?_)
    clear hK K
    refine norm_ (a' := ?_) ?_ ?_
    rotate_left
    ·show Act.put _ (some 25) _ = _
     simp only [Act.put, List.setIfInBounds_toArray, List.set_cons_zero, List.set_cons_succ, i64_w, i32_w]
     rfl
    refine pure_ (i := 4) (N := some 27) (v := ?_) (a' := ?_) #[true, true, true, true, true, false] rfl rfl (by kernel_rfl) (fun _ _ _ h => h) (Or.inl ⟨by rfl, ?_⟩) ?_ ?_
    rotate_left
    ·intro w'
     go_simp
     with_reducible rfl
    rotate_left
    ·simp only [Act.put, List.setIfInBounds_toArray, List.set_cons_zero, List.set_cons_succ, i64_w, i32_w]
     rfl
    refine pure_ (i := 5) (N := some 22) (v := ?_) (a' := ?_) #[true, true, true, true, true, true] rfl rfl (by kernel_rfl) (fun _ _ _ h => h) (Or.inl ⟨by rfl, ?_⟩) ?_ ?_
    rotate_left
    ·intro w'
     go_simp
     with_reducible rfl
    rotate_left
    ·simp only [Act.put, List.setIfInBounds_toArray, List.set_cons_zero, List.set_cons_succ, i64_w, i32_w]
     rfl
    refine done_ (by kernel_rfl) ?_
    try go_wp2
    go_ret2
    exact rt HB
   ·rw [if_neg c19] at H
    have qk : (q7 == 1 && (q8 == 0 && (q9 == 0 && (qa == 1)))) = false := by simpa using c19
    (try (have ql : decide (q7 = 1 && (q8 == 0 && (q9 == 0 && (qa == 1)))) = false := by simpa using c19))
    (try (have qm : (q7 == 1 && (q8 == 0 && (q9 == 0 && (qa == 1)))) = false := by simpa using c19))
    (try (have g6 : ¬ (q7 = 1 && (q8 == 0 && (q9 == 0 && (qa == 1)))) := by simpa using c19))
    clear c19
    have qi := Aside0.mk H
    clear H
    go_enter Try.func33, Try.ntmps33
    try go_wp2_with (first | ((with_reducible refine gate_dst (N := 1) rfl ?_); refine bx 1 #[.int .i64 a0_0, .int .i64 a0_1, .int .i64 a0_2, .int .i64 a0_3] 25 fun q4 hg w34 q0 hb => ?_; have qh := gw hg HB; have qg := gw hg HB; replace HB := bst HB hb; clear hb hg; have ⟨qW, qX, qY, qZ, jI, jJ, jK, jL⟩ := cf4 q0) | ((with_reducible refine gate_callee (f := 59) rfl ?_); refine gl 8 Try.func59 (grids_matrix.calls a0_0 a0_1 a0_2 a0_3 true _ A2.out) ?_; rintro e w36 ⟨rfl, hb⟩; refine ⟨_, rfl, ?_⟩; replace q0 := bb q0 hb; replace HB := bst HB hb; clear hb) | ((with_reducible refine gate_dst (N := 4) rfl ?_); refine bx 4 #[.int .i64 0, .int .i64 0, .int .i64 0, .int .i64 0] 25 fun q5 hg w37 q1 hb => ?_; have qs := gw hg HB; have qr := gw hg HB; have qd := nlt hg q0; have qe := ngt hg q0; replace q0 := bb q0 hb; replace HB := bst HB hb; clear hb hg; have gi := qe.out; have gm := qd.out; have ⟨j0, j1, j2, j3, jM, jN, jO, jP⟩ := cf4 q1) | ((with_reducible refine gate_store (t := 25) (p := 4) rfl ?_); refine sx 25 4 (((((w37.setCell ⟨q5, 0, none⟩ (.int .i64 1)).setCell ⟨q5, 1, none⟩ (.int .i64 0)).setCell ⟨q5, 2, none⟩ (.int .i64 0)).setCell ⟨q5, 3, none⟩ (.int .i64 1))) fun w40 hw => ?_; replace q0 := fw hw q0; replace q1 := pw4 hw q1; replace HB := bw hw HB; clear hw))
    replace q0 := bd q0
    replace q1 := bd q1
    replace HB := bdn HB
    refine start_ (n := 9) (S := fun w' => w'.cell? ⟨q4, 0, none⟩ = some (.int .i64 a0_0) ∧ w'.cell? ⟨q4, 1, none⟩ = some (.int .i64 a0_1) ∧ w'.cell? ⟨q4, 2, none⟩ = some (.int .i64 a0_2) ∧ w'.cell? ⟨q4, 3, none⟩ = some (.int .i64 a0_3)) (ds := []) #[false, false, false, false, false, false, false, false, false] (by kernel_rfl) rfl rfl ⟨(blk_cell q0.out 0).trans rfl, (blk_cell q0.out 1).trans rfl, (blk_cell q0.out 2).trans rfl, (blk_cell q0.out 3).trans rfl⟩ (fun hHeld => ?_); refine with_tabW grids_Order.tab4 grids_Order.bits4 (fun HT_ HW_ => ?_)
    generalize w40.drew = w41 at q0 q1 HB hHeld ⊢
    refine pz 2 13 HT_ ?_
    refine pz 4 15 HT_ ?_
    refine tz 0 11 HT_ HW_ hHeld ?_
    refine tz 3 14 HT_ HW_ hHeld ?_
    refine tz 5 16 HT_ HW_ hHeld ?_
    refine pz 6 17 HT_ ?_
    refine one_ (i := 1) (N := some 12) #[true, true, true, true, true, true, true, false, false] rfl rfl (one_of HT_.out (by kernel_rfl)) (by decide) (fun K hK => ?_)
    refine gs _ Try.func68 (grids_det.calls a0_0 a0_1 a0_2 a0_3 q2 _ A4.out) ?_
    rintro e w42 ⟨rfl, hb⟩
    refine ⟨_, rfl, ?_⟩
    replace q0 := bb q0 hb
    replace q1 := bb q1 hb
    replace HB := bst HB hb
    (try clear hb)
    (try clear hb2)
    (try clear hk)
    (try clear hi)
    refine hK.out _ _ ⟨(blk_cell q0.out 0).trans rfl, (blk_cell q0.out 1).trans rfl, (blk_cell q0.out 2).trans rfl, (blk_cell q0.out 3).trans rfl⟩ (fun hHeld => ?_)
    clear hK K
    refine norm_ (a' := ?_) ?_ ?_
    rotate_left
    ·show Act.put _ (some 12) _ = _
     simp only [Act.put, List.setIfInBounds_toArray, List.set_cons_zero, List.set_cons_succ, i64_w, i32_w]
     rfl
    refine pz 7 5 HT_ ?_
    refine pz 8 6 HT_ ?_
    refine done_ (done_of HT_.out (by kernel_rfl)) ?_
    have ⟨j4, j5, j6, j7, jQ, jR, jS, jT⟩ := cf4 q0
    have ⟨j8, j9, ja, jb, jU, jV, jW, jX⟩ := cf4 q1
    try go_wp2
    replace q0 := bd q0
    replace q1 := bd q1
    replace HB := bdn HB
    refine start_ (n := 6) (S := fun w' => w'.cell? ⟨q4, 0, none⟩ = some (.int .i64 a0_0) ∧ w'.cell? ⟨q4, 1, none⟩ = some (.int .i64 a0_1) ∧ w'.cell? ⟨q4, 2, none⟩ = some (.int .i64 a0_2) ∧ w'.cell? ⟨q4, 3, none⟩ = some (.int .i64 a0_3) ∧ w'.cell? ⟨q5, 0, none⟩ = some (.int .i64 1) ∧ w'.cell? ⟨q5, 1, none⟩ = some (.int .i64 0) ∧ w'.cell? ⟨q5, 2, none⟩ = some (.int .i64 0) ∧ w'.cell? ⟨q5, 3, none⟩ = some (.int .i64 1)) (ds := []) #[false, false, false, false, false, false] (by kernel_rfl) rfl rfl ⟨(blk_cell q0.out 0).trans rfl, (blk_cell q0.out 1).trans rfl, (blk_cell q0.out 2).trans rfl, (blk_cell q0.out 3).trans rfl, (blk_cell q1.out 0).trans rfl, (blk_cell q1.out 1).trans rfl, (blk_cell q1.out 2).trans rfl, (blk_cell q1.out 3).trans rfl⟩ (fun hHeld => ?_)
    generalize w42.drew = w45 at q0 q1 HB hHeld ⊢
    refine take_ (i := 0) (N := some 23) (v := ?_) (a' := ?_) #[true, false, false, false, false, false] rfl rfl (by kernel_rfl) (fun _ _ _ h => h) (Or.inl ⟨by rfl, ?_⟩) hHeld ?_ ?_
    rotate_left
    ·rintro w' ⟨s0, s1, s2, s3, s4, s5, s6, s7⟩
     go_simp
     with_reducible rfl
    rotate_left
    ·simp only [Act.put, List.setIfInBounds_toArray, List.set_cons_zero, List.set_cons_succ, i64_w, i32_w]
     rfl
    refine take_ (i := 1) (N := some 24) (v := ?_) (a' := ?_) #[true, true, false, false, false, false] rfl rfl (by kernel_rfl) (fun _ _ _ h => h) (Or.inl ⟨by rfl, ?_⟩) hHeld ?_ ?_
    rotate_left
    ·rintro w' ⟨s0, s1, s2, s3, s4, s5, s6, s7⟩
     go_simp
     with_reducible rfl
    rotate_left
    ·simp only [Act.put, List.setIfInBounds_toArray, List.set_cons_zero, List.set_cons_succ, i64_w, i32_w]
     rfl
    refine take_ (i := 3) (N := some 26) (v := ?_) (a' := ?_) #[true, true, false, true, false, false] rfl rfl (by kernel_rfl) (fun _ _ _ h => h) (Or.inl ⟨by rfl, ?_⟩) hHeld ?_ ?_
    rotate_left
    ·rintro w' ⟨s0, s1, s2, s3, s4, s5, s6, s7⟩
     go_simp
     with_reducible rfl
    rotate_left
    ·simp only [Act.put, List.setIfInBounds_toArray, List.set_cons_zero, List.set_cons_succ, i64_w, i32_w]
     rfl
    refine one_ (i := 2) (N := some 25) #[true, true, true, true, false, false] rfl rfl (by kernel_rfl) (by decide) (fun K hK => ?_)
    refine gs _ Try.func40 (grids_times.calls a0_0 a0_1 a0_2 a0_3 a0_0 a0_1 a0_2 a0_3 q7 q8 q9 qa _ A18.out) ?_
    rintro e w46 ⟨rfl, hb⟩
    refine ⟨_, rfl, ?_⟩
    replace q0 := bb q0 hb
    replace q1 := bb q1 hb
    replace HB := bst HB hb
    (try clear hb)
    (try clear hb2)
    (try clear hk)
    (try clear hi)
    refine hK.out _ _ ⟨(blk_cell q0.out 0).trans rfl, (blk_cell q0.out 1).trans rfl, (blk_cell q0.out 2).trans rfl, (blk_cell q0.out 3).trans rfl, (blk_cell q1.out 0).trans rfl, (blk_cell q1.out 1).trans rfl, (blk_cell q1.out 2).trans rfl, (blk_cell q1.out 3).trans rfl⟩ (fun hHeld => ?_)
    clear hK K
    refine norm_ (a' := ?_) ?_ ?_
    rotate_left
    ·show Act.put _ (some 25) _ = _
     simp only [Act.put, List.setIfInBounds_toArray, List.set_cons_zero, List.set_cons_succ, i64_w, i32_w]
     rfl
    refine pure_ (i := 4) (N := some 27) (v := ?_) (a' := ?_) #[true, true, true, true, true, false] rfl rfl (by kernel_rfl) (fun _ _ _ h => h) (Or.inl ⟨by rfl, ?_⟩) ?_ ?_
    rotate_left
    ·intro w'
     go_simp
     with_reducible rfl
    rotate_left
    ·simp only [Act.put, List.setIfInBounds_toArray, List.set_cons_zero, List.set_cons_succ, i64_w, i32_w]
     rfl
    refine pure_ (i := 5) (N := some 22) (v := ?_) (a' := ?_) #[true, true, true, true, true, true] rfl rfl (by kernel_rfl) (fun _ _ _ h => h) (Or.inl ⟨by rfl, ?_⟩) ?_ ?_
    rotate_left
    ·intro w'
     go_simp
     with_reducible rfl
    rotate_left
    ·simp only [Act.put, List.setIfInBounds_toArray, List.set_cons_zero, List.set_cons_succ, i64_w, i32_w]
     rfl
    refine done_ (by kernel_rfl) ?_
    go_upto_region 9 with (fail)
    go_cut [28] (fun v28 wc => ∃ (kq : Nat) (x28_32 : Bool), v28 = .bool x28_32 ∧ Aside0 (grids_Order.j0 kq q2 q3 x28_32 = some (r1, r2)) ∧ Aside0 (kq ≤ k) ∧ Aside0 (wc.heap[q4]? = some (.cells #[.int .i64 a0_0, .int .i64 a0_1, .int .i64 a0_2, .int .i64 a0_3] 25 (0, 0))) ∧ Aside0 (wc.heap[q5]? = some (.cells #[.int .i64 1, .int .i64 0, .int .i64 0, .int .i64 1] 25 (0, 0))) ∧ Aside0 (Below w.heap.size w wc))
    case first =>
     have H := qi.out
     clear qi
     by_cases c47 : q2 = 1
     ·rw [if_pos c47] at H
      have qb : (q2 == 1) = true := beq_iff_eq.mpr c47
      have qn : (q2 != 1) = false := bne_eq_false_iff_eq.mpr c47
      clear c47
      (first | rw [qb] | (simp only [i64_w, i32_w]; rw [qb]) | skip)
      have H' := Aside0.mk H
      clear H
      go_wp2
      go_meet
      case rel => exact ⟨_, ((q3 == (-1))), (by first | rfl | (simp; done) | (simp [*]; done)), H', ⟨by first | omega | exact Nat.le_refl _⟩, ⟨pk q0⟩, ⟨pk q1⟩, ⟨bnow HB⟩⟩
     ·rw [if_neg c47] at H
      have qb : (q2 == 1) = false := beq_eq_false_iff_ne.mpr c47
      have qn : (q2 != 1) = true := bne_iff_ne.mpr c47
      (first | rw [qb] | (simp only [i64_w, i32_w]; rw [qb]) | skip)
      have H' := Aside0.mk H
      clear H
      go_wp2
      go_meet
      case rel => exact ⟨_, (false), (by first | rfl | (simp; done) | (simp [*]; done)), H', ⟨by first | omega | exact Nat.le_refl _⟩, ⟨pk q0⟩, ⟨pk q1⟩, ⟨bnow HB⟩⟩
    case rest =>
     clear qi
     try clear c1; try clear c2; try clear p2; try clear c3; try clear c4; try clear c5; try clear c6; try clear qo; try clear qp; try clear qq; try clear p6; try clear c11; try clear c19; try clear qk; try clear ql; try clear qm; try clear c24; try clear c33; try clear c38; try clear c40; try clear c47; try clear qb; try clear qn; try clear qu; try clear qv; try clear qw; try clear qx; try clear qy; try clear qz; try clear qA; try clear qB; try clear qC; try clear qD; try clear qE; try clear qF; try clear qG; try clear qH; try clear qI; try clear qJ; try clear qK; try clear qL; try clear qM; try clear qN; try clear qO; try clear qP; try clear qQ; try clear qR; try clear qS; try clear qT; try clear qU; try clear qV; try clear qW; try clear qX; try clear qY; try clear qZ; try clear j0; try clear j1; try clear j2; try clear j3; try clear j4; try clear j5; try clear j6; try clear j7; try clear j8; try clear j9; try clear ja; try clear jb; try clear jc; try clear jd; try clear je; try clear jf; try clear jg; try clear jh; try clear ji; try clear jj; try clear jk; try clear jl; try clear jm; try clear jn; try clear jo; try clear jp; try clear jq; try clear jr; try clear js; try clear jt; try clear ju; try clear jv; try clear jw; try clear jx; try clear jy; try clear jz; try clear jA; try clear jB; try clear jC; try clear jD; try clear jE; try clear jF; try clear jG; try clear jH; try clear jI; try clear jJ; try clear jK; try clear jL; try clear jM; try clear jN; try clear jO; try clear jP; try clear jQ; try clear jR; try clear jS; try clear jT; try clear jU; try clear jV; try clear jW; try clear jX; try clear jY; try clear jZ; try clear g0; try clear g1
     obtain ⟨kq, x28_32, rfl, HA, HJ32, q0, q1, HB⟩ := hcut
     cases kq with
     | zero => exact absurd HA.out (by simp [grids_Order.j0])
     | succ kj32 =>
      have H := HA.out
      clear HA
      simp only [grids_Order.j0] at H
      by_cases c48 : x28_32 = true
      ·subst c48
       have H1 : (some (3, 0)) = some (r1, r2) := by rw [if_pos rfl] at H; exact H
       clear H
       have H := H1
       clear H1
       simp only [Option.some.injEq, Prod.mk.injEq] at H
       obtain ⟨rfl, rfl⟩ := H
       go_wp2
       go_ret2
       exact rt HB
      ·replace c48 := Bool.eq_false_iff.mpr c48
       subst c48
       have H1 : (if q2 = 1 then (grids_Order.j1 kj32 q2 q3 (q3 == 0)) else (grids_Order.j1 kj32 q2 q3 false)) = some (r1, r2) := by rw [if_neg (show ¬ (false = true) by decide)] at H; exact H
       clear H
       have H := H1
       clear H1
       have qj := Aside0.mk H
       clear H
       go_upto_region 11 with (fail)
       go_cut [35] (fun v35 wc => ∃ (kq : Nat) (x35_48 : Bool), v35 = .bool x35_48 ∧ Aside0 (grids_Order.j1 kq q2 q3 x35_48 = some (r1, r2)) ∧ Aside0 (kq ≤ kj32) ∧ Aside0 (wc.heap[q4]? = some (.cells #[.int .i64 a0_0, .int .i64 a0_1, .int .i64 a0_2, .int .i64 a0_3] 25 (0, 0))) ∧ Aside0 (wc.heap[q5]? = some (.cells #[.int .i64 1, .int .i64 0, .int .i64 0, .int .i64 1] 25 (0, 0))) ∧ Aside0 (Below w.heap.size w wc))
       case first =>
        have H := qj.out
        clear qj
        by_cases c50 : q2 = 1
        ·rw [if_pos c50] at H
         have qc : (q2 == 1) = true := beq_iff_eq.mpr c50
         have qt : (q2 != 1) = false := bne_eq_false_iff_eq.mpr c50
         clear c50
         (first | rw [qc] | (simp only [i64_w, i32_w]; rw [qc]) | skip)
         have H' := Aside0.mk H
         clear H
         go_wp2
         go_meet
         case rel => exact ⟨_, ((q3 == 0)), (by first | rfl | (simp; done) | (simp [*]; done)), H', ⟨by have := HJ32.out; first | omega | exact Nat.le_refl _⟩, ⟨pk q0⟩, ⟨pk q1⟩, ⟨bnow HB⟩⟩
        ·rw [if_neg c50] at H
         have qc : (q2 == 1) = false := beq_eq_false_iff_ne.mpr c50
         have qt : (q2 != 1) = true := bne_iff_ne.mpr c50
         (first | rw [qc] | (simp only [i64_w, i32_w]; rw [qc]) | skip)
         have H' := Aside0.mk H
         clear H
         go_wp2
         go_meet
         case rel => exact ⟨_, (false), (by first | rfl | (simp; done) | (simp [*]; done)), H', ⟨by have := HJ32.out; first | omega | exact Nat.le_refl _⟩, ⟨pk q0⟩, ⟨pk q1⟩, ⟨bnow HB⟩⟩
       case rest =>
        clear qj
        try clear c1; try clear c2; try clear p2; try clear c3; try clear c4; try clear c5; try clear c6; try clear qo; try clear qp; try clear qq; try clear p6; try clear c11; try clear c19; try clear qk; try clear ql; try clear qm; try clear c24; try clear c33; try clear c38; try clear c40; try clear c47; try clear qb; try clear qn; try clear c48; try clear c50; try clear qc; try clear qt; try clear qu; try clear qv; try clear qw; try clear qx; try clear qy; try clear qz; try clear qA; try clear qB; try clear qC; try clear qD; try clear qE; try clear qF; try clear qG; try clear qH; try clear qI; try clear qJ; try clear qK; try clear qL; try clear qM; try clear qN; try clear qO; try clear qP; try clear qQ; try clear qR; try clear qS; try clear qT; try clear qU; try clear qV; try clear qW; try clear qX; try clear qY; try clear qZ; try clear j0; try clear j1; try clear j2; try clear j3; try clear j4; try clear j5; try clear j6; try clear j7; try clear j8; try clear j9; try clear ja; try clear jb; try clear jc; try clear jd; try clear je; try clear jf; try clear jg; try clear jh; try clear ji; try clear jj; try clear jk; try clear jl; try clear jm; try clear jn; try clear jo; try clear jp; try clear jq; try clear jr; try clear js; try clear jt; try clear ju; try clear jv; try clear jw; try clear jx; try clear jy; try clear jz; try clear jA; try clear jB; try clear jC; try clear jD; try clear jE; try clear jF; try clear jG; try clear jH; try clear jI; try clear jJ; try clear jK; try clear jL; try clear jM; try clear jN; try clear jO; try clear jP; try clear jQ; try clear jR; try clear jS; try clear jT; try clear jU; try clear jV; try clear jW; try clear jX; try clear jY; try clear jZ; try clear g0; try clear g1; try clear p2; try clear p6
        obtain ⟨kq, x35_48, rfl, HA, HJ48, q0, q1, HB⟩ := hcut
        cases kq with
        | zero => exact absurd HA.out (by simp [grids_Order.j1])
        | succ kj48 =>
         have H := HA.out
         clear HA
         simp only [grids_Order.j1] at H
         by_cases c51 : x35_48 = true
         ·subst c51
          have H1 : (some (4, 0)) = some (r1, r2) := by rw [if_pos rfl] at H; exact H
          clear H
          have H := H1
          clear H1
          simp only [Option.some.injEq, Prod.mk.injEq] at H
          obtain ⟨rfl, rfl⟩ := H
          go_wp2
          go_ret2
          exact rt HB
         ·replace c51 := Bool.eq_false_iff.mpr c51
          subst c51
          have H1 : (if q2 = 1 then (if q3 = 1 then (some (6, 0)) else (some (0, 0))) else (some (0, 0))) = some (r1, r2) := by rw [if_neg (show ¬ (false = true) by decide)] at H; exact H
          clear H
          have H := H1
          clear H1
          by_cases c52 : q2 = 1
          ·rw [if_pos c52] at H
           have g2 : (q2 == 1) = true := beq_iff_eq.mpr c52
           have g3 : (q2 != 1) = false := bne_eq_false_iff_eq.mpr c52
           clear c52
           by_cases c53 : q3 = 1
           ·rw [if_pos c53] at H
            have g4 : (q3 == 1) = true := beq_iff_eq.mpr c53
            have g5 : (q3 != 1) = false := bne_eq_false_iff_eq.mpr c53
            clear c53
            simp only [Option.some.injEq, Prod.mk.injEq] at H
            obtain ⟨rfl, rfl⟩ := H
            go_wp2
            go_ret2
            exact rt HB
           ·rw [if_neg c53] at H
            have g4 : (q3 == 1) = false := beq_eq_false_iff_ne.mpr c53
            have g5 : (q3 != 1) = true := bne_iff_ne.mpr c53
            simp only [Option.some.injEq, Prod.mk.injEq] at H
            obtain ⟨rfl, rfl⟩ := H
            go_wp2
            go_ret2
            exact rt HB
          ·rw [if_neg c52] at H
           have g2 : (q2 == 1) = false := beq_eq_false_iff_ne.mpr c52
           have g3 : (q2 != 1) = true := bne_iff_ne.mpr c52
           simp only [Option.some.injEq, Prod.mk.injEq] at H
           obtain ⟨rfl, rfl⟩ := H
           go_wp2
           go_ret2
           exact rt HB
 ·replace c3 := Bool.eq_false_iff.mpr c3
  subst c3
  have H1 : (some (0, 2)) = some (r1, r2) := by rw [if_neg (show ¬ (false = true) by decide)] at H; exact H
  clear H
  have H := H1
  clear H1
  simp only [Option.some.injEq, Prod.mk.injEq] at H
  obtain ⟨rfl, rfl⟩ := H
  go_enter Try.func33, Try.ntmps33
  go_wp2_with (first | ((with_reducible refine gate_dst (N := 1) rfl ?_); refine bx 1 #[.int .i64 a0_0, .int .i64 a0_1, .int .i64 a0_2, .int .i64 a0_3] 25 fun q4 hg w54 q0 hb => ?_; have qh := gw hg HB; have qg := gw hg HB; replace HB := bst HB hb; clear hb hg; have ⟨g8, g9, ga, gb, gc, gd, ge, gf⟩ := cf4 q0) | ((with_reducible refine gate_callee (f := 59) rfl ?_); refine gl 8 Try.func59 (grids_matrix.calls a0_0 a0_1 a0_2 a0_3 false _ A2.out) ?_; rintro e w56 ⟨rfl, hb⟩; refine ⟨_, rfl, ?_⟩; replace q0 := bb q0 hb; replace HB := bst HB hb; clear hb))
  go_ret2
  exact rt HB
end
section
attribute [local go_sem high] eqA23 eqA25 eqA37
/-! ### torchonlaw06_awake: function 13 -/
def torchonlaw06_awake.j0 : Nat → Int → Int → Int → List (S25) → Int → Bool → Int → Int → Int → Int → Int → Int → Int → Int → Int → Option (Bool)
 | 0, _, _, _, _, _, _, _, _, _, _, _, _, _, _, _ => none
 | k + 1, x2, x4, x6, x8, x12, x89, x623000, x623001, x638000, x638001, x638002, x639000, x639001, x639002, x639003 => if x89 = true then (none) else (if x2 = 6 then (if x4 = 1 then (if x6 = 1 then (if (x8.length : Int) = 12 then ((torchonlaw06_pt.f 1 5).bind fun qR => (if (x623000 == qR.1 && (x623001 == qR.2)) = true then (if x12 = 6 then (if (x638000 == 1 && (x638001 == 0 && (x638002 == 1))) = true then ((torchonlaw06_mat.f (-3) (-1) 2 1).bind fun qm => (some (x639000 == qm.1 && (x639001 == qm.2.1 && (x639002 == qm.2.2.1 && (x639003 == qm.2.2.2)))))) else (none)) else (none)) else (none))) else (none)) else (none)) else (none)) else (none))
def torchonlaw06_awake.f (k : Nat)  : Option (Bool) := (torchonlaw06_pt.f 0 0).bind fun qG => ((torchonlaw06_pt.f 1 1).bind fun qH => ((grids_Square.f k 2 1 2 qG.1 qG.2 qH.1 qH.2).bind fun q8 => ((torchonlaw06_pt.f 0 0).bind fun qI => ((torchonlaw06_pt.f 1 0).bind fun qJ => ((torchonlaw06_pt.f 0 1).bind fun qK => ((grids_Side.f k qI.1 qI.2 qJ.1 qJ.2 qK.1 qK.2).bind fun q9 => ((torchonlaw06_pt.f 0 0).bind fun qL => ((torchonlaw06_pt.f 1 0).bind fun qM => ((torchonlaw06_pt.f 1 (-1)).bind fun qN => ((torchonlaw06_pt.f 0 1).bind fun qO => ((grids_Turn.f k qL.1 qL.2 qM.1 qM.2 qN.1 qN.2 qO.1 qO.2).bind fun qa => ((grids_Group.f k 2 1 2).bind fun qb => ((torchonlaw06_mat.f 0 (-1) 1 0).bind fun qk => ((torchonlaw06_pt.f 3 4).bind fun qP => ((torchonlaw06_pt.f 1 2).bind fun qQ => ((grids_Apply.f k qk.1 qk.2.1 qk.2.2.1 qk.2.2.2 qP.1 qP.2 qQ.1 qQ.2).bind fun q6 => ((torchonlaw06_mat.f 1 (-1) 1 0).bind fun ql => ((grids_Order.f k ql.1 ql.2.1 ql.2.2.1 ql.2.2.2).bind fun qc => ((grids_Reduce.f k 5 7 10).bind fun q0 => (if q8.2 = 0 then (if q9.2 = 0 then (if qa.2 = 0 then (if qb.2 = 0 then (if q6.2.2 = 0 then (if qc.2 = 0 then (torchonlaw06_awake.j0 k q8.1 q9.1 qa.1 qb.1 qc.1 (q0.2.2.2.2.2.2.2 != 0) q6.1 q6.2.1 q0.1 q0.2.1 q0.2.2.1 q0.2.2.2.1 q0.2.2.2.2.1 q0.2.2.2.2.2.1 q0.2.2.2.2.2.2.1) else (torchonlaw06_awake.j0 k q8.1 q9.1 qa.1 qb.1 qc.1 true q6.1 q6.2.1 q0.1 q0.2.1 q0.2.2.1 q0.2.2.2.1 q0.2.2.2.2.1 q0.2.2.2.2.2.1 q0.2.2.2.2.2.2.1)) else (torchonlaw06_awake.j0 k q8.1 q9.1 qa.1 qb.1 qc.1 true q6.1 q6.2.1 q0.1 q0.2.1 q0.2.2.1 q0.2.2.2.1 q0.2.2.2.2.1 q0.2.2.2.2.2.1 q0.2.2.2.2.2.2.1)) else (torchonlaw06_awake.j0 k q8.1 q9.1 qa.1 qb.1 qc.1 true q6.1 q6.2.1 q0.1 q0.2.1 q0.2.2.1 q0.2.2.2.1 q0.2.2.2.2.1 q0.2.2.2.2.2.1 q0.2.2.2.2.2.2.1)) else (torchonlaw06_awake.j0 k q8.1 q9.1 qa.1 qb.1 qc.1 true q6.1 q6.2.1 q0.1 q0.2.1 q0.2.2.1 q0.2.2.2.1 q0.2.2.2.2.1 q0.2.2.2.2.2.1 q0.2.2.2.2.2.2.1)) else (torchonlaw06_awake.j0 k q8.1 q9.1 qa.1 qb.1 qc.1 true q6.1 q6.2.1 q0.1 q0.2.1 q0.2.2.1 q0.2.2.2.1 q0.2.2.2.2.1 q0.2.2.2.2.2.1 q0.2.2.2.2.2.2.1)) else (torchonlaw06_awake.j0 k q8.1 q9.1 qa.1 qb.1 qc.1 true q6.1 q6.2.1 q0.1 q0.2.1 q0.2.2.1 q0.2.2.2.1 q0.2.2.2.2.1 q0.2.2.2.2.2.1 q0.2.2.2.2.2.2.1)))))))))))))))))))))
theorem torchonlaw06_awake.mono_l : ∀ k, (∀ y0 y1 y2 y3 y4 y5 y6 y7 y8 y9 y10 y11 y12 y13 y14, LeO (torchonlaw06_awake.j0 k y0 y1 y2 y3 y4 y5 y6 y7 y8 y9 y10 y11 y12 y13 y14) (torchonlaw06_awake.j0 (k + 1) y0 y1 y2 y3 y4 y5 y6 y7 y8 y9 y10 y11 y12 y13 y14))
 | 0 => fun _ _ _ _ _ _ _ _ _ _ _ _ _ _ _ r h => by simp [torchonlaw06_awake.j0] at h
 | k + 1 => by
  have ih0 := torchonlaw06_awake.mono_l k
  ·intro y0 y1 y2 y3 y4 y5 y6 y7 y8 y9 y10 y11 y12 y13 y14
   unfold torchonlaw06_awake.j0
   repeat' first
   | (with_reducible exact ih0 _ _ _ _ _ _ _ _ _ _ _ _ _ _ _)
   | (with_reducible exact grids_Apply.mono _ _ _ _ _ _ _ _ _)
   | (with_reducible exact grids_Group.mono _ _ _ _)
   | (with_reducible exact grids_Order.mono _ _ _ _ _)
   | (with_reducible exact grids_Reduce.mono _ _ _ _)
   | (with_reducible exact grids_Side.mono _ _ _ _ _ _ _)
   | (with_reducible exact grids_Square.mono _ _ _ _ _ _ _ _)
   | (with_reducible exact grids_Turn.mono _ _ _ _ _ _ _ _ _)
   | (with_reducible exact LeO.refl _)
   | (with_reducible exact LeO.none _)
   | (with_reducible refine LeO.ite ?_ ?_)
   | (with_reducible refine LeO.bind ?_ (fun _ => ?_))
   | exact ih0 _ _ _ _ _ _ _ _ _ _ _ _ _ _ _
   | exact grids_Apply.mono _ _ _ _ _ _ _ _ _
   | exact grids_Group.mono _ _ _ _
   | exact grids_Order.mono _ _ _ _ _
   | exact grids_Reduce.mono _ _ _ _
   | exact grids_Side.mono _ _ _ _ _ _ _
   | exact grids_Square.mono _ _ _ _ _ _ _ _
   | exact grids_Turn.mono _ _ _ _ _ _ _ _ _
   | exact LeO.none _
   | refine LeO.ite ?_ ?_
   | refine LeO.bind ?_ (fun _ => ?_)
theorem torchonlaw06_awake.mono : ∀ k, LeO (torchonlaw06_awake.f k ) (torchonlaw06_awake.f (k + 1) ) := by
 intro  k
 have ih0 := torchonlaw06_awake.mono_l k
 unfold torchonlaw06_awake.f
 repeat' first
   | (with_reducible exact ih0 _ _ _ _ _ _ _ _ _ _ _ _ _ _ _)
   | (with_reducible exact grids_Apply.mono _ _ _ _ _ _ _ _ _)
   | (with_reducible exact grids_Group.mono _ _ _ _)
   | (with_reducible exact grids_Order.mono _ _ _ _ _)
   | (with_reducible exact grids_Reduce.mono _ _ _ _)
   | (with_reducible exact grids_Side.mono _ _ _ _ _ _ _)
   | (with_reducible exact grids_Square.mono _ _ _ _ _ _ _ _)
   | (with_reducible exact grids_Turn.mono _ _ _ _ _ _ _ _ _)
   | (with_reducible exact LeO.refl _)
   | (with_reducible exact LeO.none _)
   | (with_reducible refine LeO.ite ?_ ?_)
   | (with_reducible refine LeO.bind ?_ (fun _ => ?_))
   | exact ih0 _ _ _ _ _ _ _ _ _ _ _ _ _ _ _
   | exact grids_Apply.mono _ _ _ _ _ _ _ _ _
   | exact grids_Group.mono _ _ _ _
   | exact grids_Order.mono _ _ _ _ _
   | exact grids_Reduce.mono _ _ _ _
   | exact grids_Side.mono _ _ _ _ _ _ _
   | exact grids_Square.mono _ _ _ _ _ _ _ _
   | exact grids_Turn.mono _ _ _ _ _ _ _ _ _
   | exact LeO.none _
   | refine LeO.ite ?_ ?_
   | refine LeO.bind ?_ (fun _ => ?_)
def torchonlaw06_awake.T2 : Bool × List (List Nat × List Nat) := (true, [([], []), ([], []), ([1], []), ([0, 1, 2, 2], [0, 1, 2]), ([3], [3]), ([4], [4]), ([4], [4]), ([5, 3, 0, 1, 2, 3, 4, 5], [5]), ([6, 7, 0, 1, 2, 3, 4, 5, 6, 7], [6])])
def torchonlaw06_awake.B2 : List Nat := [0, 0, 2, 7, 15, 31, 31, 63, 255]
theorem torchonlaw06_awake.tab2 : rtab .any (opsOf Try.f13 2) = torchonlaw06_awake.T2 := by kernel_rfl
theorem torchonlaw06_awake.bits2 : waitsOk torchonlaw06_awake.T2.2 torchonlaw06_awake.B2 = true := by kernel_rfl
def torchonlaw06_awake.T11 : Bool × List (List Nat × List Nat) := (true, [([], []), ([0], [0]), ([1], [1]), ([2], [2]), ([3, 2], [2, 3]), ([2, 4], [2, 4]), ([5, 2], [5]), ([6], [6]), ([7, 6], [6, 7]), ([6, 8], [6, 8]), ([9, 6], [9]), ([10], [10]), ([11, 10], [10, 11]), ([12, 10], [10, 12]), ([10, 13], [10, 13]), ([14, 10], [14]), ([15], [15]), ([15, 15], [15]), ([16, 17, 15], [15, 16, 17]), ([15, 18], [15, 18]), ([19, 17], [19]), ([20], [20]), ([21, 20], [20, 21]), ([20, 22], [20, 22]), ([23, 20], [23]), ([24], [24]), ([24], [24]), ([25, 26, 24], [24, 25, 26]), ([24, 27], [24, 27]), ([28, 24], [28]), ([29], [29]), ([29, 29], [29]), ([30, 31, 29], [29, 30, 31]), ([29, 32], [29, 32]), ([33, 31, 0, 1, 2, 3, 4, 5, 6, 7, 8, 9, 10, 11, 12, 13, 14, 15, 16, 17, 18, 19, 20, 21, 22, 23, 24, 25, 26, 27, 28, 29, 30, 31, 32, 33], [33])])
def torchonlaw06_awake.B11 : List Nat := [0, 1, 3, 7, 15, 31, 63, 127, 255, 511, 1023, 2047, 4095, 8191, 16383, 32767, 65535, 65535, 262143, 524287, 1048575, 2097151, 4194303, 8388607, 16777215, 33554431, 33554431, 134217727, 268435455, 536870911, 1073741823, 1073741823, 4294967295, 8589934591, 17179869183]
theorem torchonlaw06_awake.tab11 : rtab .any (opsOf Try.f13 11) = torchonlaw06_awake.T11 := by kernel_rfl
theorem torchonlaw06_awake.bits11 : waitsOk torchonlaw06_awake.T11.2 torchonlaw06_awake.B11 = true := by kernel_rfl
set_option maxHeartbeats 8000000 in
set_option maxRecDepth 100000 in
theorem torchonlaw06_awake.calls (k : Nat)  (r : Bool) (w : World) (h : torchonlaw06_awake.f k  = some r) :
  Calls Try.prog 13 #[] w fun e w' => e = .returned (.bool r) ∧ Below w.heap.size w w' := by
 have hu23 := Try.underlying23
 have hu55 := Try.underlying55
 have hu37 := Try.underlying37
 have hu25 := Try.underlying25
 have HB := Aside0.mk (Below.refl w.heap.size w)
 have H : ((torchonlaw06_pt.f 0 0).bind fun qG => ((torchonlaw06_pt.f 1 1).bind fun qH => ((grids_Square.f k 2 1 2 qG.1 qG.2 qH.1 qH.2).bind fun q8 => ((torchonlaw06_pt.f 0 0).bind fun qI => ((torchonlaw06_pt.f 1 0).bind fun qJ => ((torchonlaw06_pt.f 0 1).bind fun qK => ((grids_Side.f k qI.1 qI.2 qJ.1 qJ.2 qK.1 qK.2).bind fun q9 => ((torchonlaw06_pt.f 0 0).bind fun qL => ((torchonlaw06_pt.f 1 0).bind fun qM => ((torchonlaw06_pt.f 1 (-1)).bind fun qN => ((torchonlaw06_pt.f 0 1).bind fun qO => ((grids_Turn.f k qL.1 qL.2 qM.1 qM.2 qN.1 qN.2 qO.1 qO.2).bind fun qa => ((grids_Group.f k 2 1 2).bind fun qb => ((torchonlaw06_mat.f 0 (-1) 1 0).bind fun qk => ((torchonlaw06_pt.f 3 4).bind fun qP => ((torchonlaw06_pt.f 1 2).bind fun qQ => ((grids_Apply.f k qk.1 qk.2.1 qk.2.2.1 qk.2.2.2 qP.1 qP.2 qQ.1 qQ.2).bind fun q6 => ((torchonlaw06_mat.f 1 (-1) 1 0).bind fun ql => ((grids_Order.f k ql.1 ql.2.1 ql.2.2.1 ql.2.2.2).bind fun qc => ((grids_Reduce.f k 5 7 10).bind fun q0 => (if q8.2 = 0 then (if q9.2 = 0 then (if qa.2 = 0 then (if qb.2 = 0 then (if q6.2.2 = 0 then (if qc.2 = 0 then (torchonlaw06_awake.j0 k q8.1 q9.1 qa.1 qb.1 qc.1 (q0.2.2.2.2.2.2.2 != 0) q6.1 q6.2.1 q0.1 q0.2.1 q0.2.2.1 q0.2.2.2.1 q0.2.2.2.2.1 q0.2.2.2.2.2.1 q0.2.2.2.2.2.2.1) else (torchonlaw06_awake.j0 k q8.1 q9.1 qa.1 qb.1 qc.1 true q6.1 q6.2.1 q0.1 q0.2.1 q0.2.2.1 q0.2.2.2.1 q0.2.2.2.2.1 q0.2.2.2.2.2.1 q0.2.2.2.2.2.2.1)) else (torchonlaw06_awake.j0 k q8.1 q9.1 qa.1 qb.1 qc.1 true q6.1 q6.2.1 q0.1 q0.2.1 q0.2.2.1 q0.2.2.2.1 q0.2.2.2.2.1 q0.2.2.2.2.2.1 q0.2.2.2.2.2.2.1)) else (torchonlaw06_awake.j0 k q8.1 q9.1 qa.1 qb.1 qc.1 true q6.1 q6.2.1 q0.1 q0.2.1 q0.2.2.1 q0.2.2.2.1 q0.2.2.2.2.1 q0.2.2.2.2.2.1 q0.2.2.2.2.2.2.1)) else (torchonlaw06_awake.j0 k q8.1 q9.1 qa.1 qb.1 qc.1 true q6.1 q6.2.1 q0.1 q0.2.1 q0.2.2.1 q0.2.2.2.1 q0.2.2.2.2.1 q0.2.2.2.2.2.1 q0.2.2.2.2.2.2.1)) else (torchonlaw06_awake.j0 k q8.1 q9.1 qa.1 qb.1 qc.1 true q6.1 q6.2.1 q0.1 q0.2.1 q0.2.2.1 q0.2.2.2.1 q0.2.2.2.2.1 q0.2.2.2.2.2.1 q0.2.2.2.2.2.2.1)) else (torchonlaw06_awake.j0 k q8.1 q9.1 qa.1 qb.1 qc.1 true q6.1 q6.2.1 q0.1 q0.2.1 q0.2.2.1 q0.2.2.2.1 q0.2.2.2.2.1 q0.2.2.2.2.2.1 q0.2.2.2.2.2.2.1)))))))))))))))))))))) = some r := h
 clear h
 obtain ⟨⟨j6, j7⟩, A1, H⟩ := ob H
 obtain ⟨⟨j8, j9⟩, A2, H⟩ := ob H
 obtain ⟨⟨qq, qA⟩, A3, H⟩ := ob H
 obtain ⟨⟨ja, jb⟩, A4, H⟩ := ob H
 obtain ⟨⟨jc, jd⟩, A5, H⟩ := ob H
 obtain ⟨⟨je, jf⟩, A6, H⟩ := ob H
 obtain ⟨⟨qr, qB⟩, A7, H⟩ := ob H
 obtain ⟨⟨jg, jh⟩, A8, H⟩ := ob H
 obtain ⟨⟨ji, jj⟩, A9, H⟩ := ob H
 obtain ⟨⟨jk, jl⟩, A10, H⟩ := ob H
 obtain ⟨⟨jm, jn⟩, A11, H⟩ := ob H
 obtain ⟨⟨qs, qC⟩, A12, H⟩ := ob H
 obtain ⟨⟨qi, qD⟩, A13, H⟩ := ob H
 obtain ⟨⟨jo, jp, jq, jr⟩, A14, H⟩ := ob H
 obtain ⟨⟨js, jt⟩, A15, H⟩ := ob H
 obtain ⟨⟨ju, jv⟩, A16, H⟩ := ob H
 obtain ⟨⟨qd, qe, qE⟩, A17, H⟩ := ob H
 obtain ⟨⟨jw, jx, jy, jz⟩, A18, H⟩ := ob H
 obtain ⟨⟨qt, qF⟩, A19, H⟩ := ob H
 obtain ⟨⟨qf, qg, qh, qu, qv, qw, qx, jA⟩, A20, H⟩ := ob H
 have qS := Aside0.mk H
 clear H
 go_enter Try.func13, Try.ntmps13
 try go_wp2_with (first | ((with_reducible refine gate_dst (N := 1) rfl ?_); (try (refine gate_guard (by rfl) ?_; dsimp only)); refine bx 1 #[.int .i64 0, .int .i64 0, .int .i64 0] 23 fun qp hg w22 q1 hb => ?_; have gI := gw hg HB; have gE := gw hg HB; replace HB := bst HB hb; clear hb hg; have ⟨g2, g3, g4, gh, gi, gj⟩ := cf3 q1) | ((with_reducible refine gate_store (t := 23) (p := 1) rfl ?_); refine sx 23 1 ((((w22.setCell ⟨qp, 0, none⟩ (.int .i64 2)).setCell ⟨qp, 1, none⟩ (.int .i64 1)).setCell ⟨qp, 2, none⟩ (.int .i64 2))) fun w24 hw => ?_; replace q1 := pw3 hw q1; replace HB := bw hw HB; clear hw))
 replace q1 := bd q1
 replace HB := bdn HB
 refine start_ (n := 9) (S := fun w' => w'.cell? ⟨qp, 0, none⟩ = some (.int .i64 2) ∧ w'.cell? ⟨qp, 1, none⟩ = some (.int .i64 1) ∧ w'.cell? ⟨qp, 2, none⟩ = some (.int .i64 2)) (ds := []) #[false, false, false, false, false, false, false, false, false] (by kernel_rfl) rfl rfl ⟨(blk_cell q1.out 0).trans rfl, (blk_cell q1.out 1).trans rfl, (blk_cell q1.out 2).trans rfl⟩ (fun hHeld => ?_); refine with_tabW torchonlaw06_awake.tab2 torchonlaw06_awake.bits2 (fun HT_ HW_ => ?_)
 generalize w24.drew = w25 at q1 HB hHeld ⊢
 refine tz 0 19 HT_ HW_ hHeld ?_
 refine one_ (i := 1) (N := some 20) #[true, true, false, false, false, false, false, false, false] rfl rfl (one_of HT_.out (by kernel_rfl)) (by decide) (fun K hK => ?_)
 refine gs _ Try.func19 (torchonlaw06_pt.calls 0 0 j6 j7 _ A1.out) ?_
 rintro e w26 ⟨rfl, hb⟩
 refine ⟨_, rfl, ?_⟩
 replace q1 := bb q1 hb
 replace HB := bst HB hb
 (try clear hb)
 (try clear hb2)
 (try clear hk)
 (try clear hi)
 refine hK.out _ _ ⟨(blk_cell q1.out 0).trans rfl, (blk_cell q1.out 1).trans rfl, (blk_cell q1.out 2).trans rfl⟩ (fun hHeld => ?_)
 clear hK K
 refine norm_ (a' := ?_) ?_ ?_
 rotate_left
 ·show Act.put _ (some 20) _ = _
  simp only [Act.put, List.setIfInBounds_toArray, List.set_cons_zero, List.set_cons_succ, i64_w, i32_w]
  rfl
 refine one_ (i := 2) (N := some 21) #[true, true, true, false, false, false, false, false, false] rfl rfl (one_of HT_.out (by kernel_rfl)) (by decide) (fun K hK => ?_)
 refine gs _ Try.func19 (torchonlaw06_pt.calls 1 1 j8 j9 _ A2.out) ?_
 rintro e w27 ⟨rfl, hb⟩
 refine ⟨_, rfl, ?_⟩
 replace q1 := bb q1 hb
 replace HB := bst HB hb
 (try clear hb)
 (try clear hb2)
 (try clear hk)
 (try clear hi)
 refine hK.out _ _ ⟨(blk_cell q1.out 0).trans rfl, (blk_cell q1.out 1).trans rfl, (blk_cell q1.out 2).trans rfl⟩ (fun hHeld => ?_)
 clear hK K
 refine norm_ (a' := ?_) ?_ ?_
 rotate_left
 ·show Act.put _ (some 21) _ = _
  simp only [Act.put, List.setIfInBounds_toArray, List.set_cons_zero, List.set_cons_succ, i64_w, i32_w]
  rfl
 refine one_ (i := 3) (N := some 22) #[true, true, true, true, false, false, false, false, false] rfl rfl (one_of HT_.out (by kernel_rfl)) (by decide) (fun K hK => ?_)
 refine gs _ Try.func20 (grids_Square.calls k 2 1 2 j6 j7 j8 j9 qq qA _ A3.out) ?_
 rintro e w28 ⟨rfl, hb⟩
 refine ⟨_, rfl, ?_⟩
 replace q1 := bb q1 hb
 replace HB := bst HB hb
 (try clear hb)
 (try clear hb2)
 (try clear hk)
 (try clear hi)
 refine hK.out _ _ ⟨(blk_cell q1.out 0).trans rfl, (blk_cell q1.out 1).trans rfl, (blk_cell q1.out 2).trans rfl⟩ (fun hHeld => ?_)
 clear hK K
 refine norm_ (a' := ?_) ?_ ?_
 rotate_left
 ·show Act.put _ (some 22) _ = _
  simp only [Act.put, List.setIfInBounds_toArray, List.set_cons_zero, List.set_cons_succ, i64_w, i32_w]
  rfl
 refine pz 4 18 HT_ ?_
 refine pz 5 23 HT_ ?_
 refine pz 6 24 HT_ ?_
 refine pz 7 2 HT_ ?_
 refine pz 8 3 HT_ ?_
 refine done_ (done_of HT_.out (by kernel_rfl)) ?_
 go_upto_region 9 with (first | ((with_reducible refine gate_callee (f := 19) rfl ?_); refine gl 26 Try.func19 (torchonlaw06_pt.calls 0 0 ja jb _ A4.out) ?_; rintro e w29 ⟨rfl, hb⟩; refine ⟨_, rfl, ?_⟩; replace q1 := bb q1 hb; replace HB := bst HB hb; clear hb) | ((with_reducible refine gate_callee (f := 19) rfl ?_); refine gl 27 Try.func19 (torchonlaw06_pt.calls 1 0 jc jd _ A5.out) ?_; rintro e w30 ⟨rfl, hb⟩; refine ⟨_, rfl, ?_⟩; replace q1 := bb q1 hb; replace HB := bst HB hb; clear hb) | ((with_reducible refine gate_callee (f := 19) rfl ?_); refine gl 28 Try.func19 (torchonlaw06_pt.calls 0 1 je jf _ A6.out) ?_; rintro e w31 ⟨rfl, hb⟩; refine ⟨_, rfl, ?_⟩; replace q1 := bb q1 hb; replace HB := bst HB hb; clear hb) | ((with_reducible refine gate_callee (f := 21) rfl ?_); refine gl 29 Try.func21 (grids_Side.calls k ja jb jc jd je jf qr qB _ A7.out) ?_; rintro e w32 ⟨rfl, hb⟩; refine ⟨_, rfl, ?_⟩; replace q1 := bb q1 hb; replace HB := bst HB hb; clear hb) | ((with_reducible refine gate_callee (f := 19) rfl ?_); refine gl 33 Try.func19 (torchonlaw06_pt.calls 0 0 jg jh _ A8.out) ?_; rintro e w33 ⟨rfl, hb⟩; refine ⟨_, rfl, ?_⟩; replace q1 := bb q1 hb; replace HB := bst HB hb; clear hb) | ((with_reducible refine gate_callee (f := 19) rfl ?_); refine gl 34 Try.func19 (torchonlaw06_pt.calls 1 0 ji jj _ A9.out) ?_; rintro e w34 ⟨rfl, hb⟩; refine ⟨_, rfl, ?_⟩; replace q1 := bb q1 hb; replace HB := bst HB hb; clear hb) | ((with_reducible refine gate_callee (f := 19) rfl ?_); refine gl 35 Try.func19 (torchonlaw06_pt.calls 1 (-1) jk jl _ A10.out) ?_; rintro e w35 ⟨rfl, hb⟩; refine ⟨_, rfl, ?_⟩; replace q1 := bb q1 hb; replace HB := bst HB hb; clear hb) | ((with_reducible refine gate_callee (f := 19) rfl ?_); refine gl 36 Try.func19 (torchonlaw06_pt.calls 0 1 jm jn _ A11.out) ?_; rintro e w36 ⟨rfl, hb⟩; refine ⟨_, rfl, ?_⟩; replace q1 := bb q1 hb; replace HB := bst HB hb; clear hb) | ((with_reducible refine gate_callee (f := 18) rfl ?_); refine gl 37 Try.func18 (grids_Turn.calls k jg jh ji jj jk jl jm jn qs qC _ A12.out) ?_; rintro e w37 ⟨rfl, hb⟩; refine ⟨_, rfl, ?_⟩; replace q1 := bb q1 hb; replace HB := bst HB hb; clear hb; have ⟨g5, g6, g7, gk, gm, gn⟩ := cf3 q1) | ((with_reducible refine gate_callee (f := 22) rfl ?_); refine goesL_ (some 42) rfl rfl Try.func22 (by kernel_rfl) rfl #[.agg #[.int .i64 2, .int .i64 1, .int .i64 2]] rfl am ?_; (with_reducible refine (grids_Group.calls k 2 1 2 qi qD _ A13.out).mono ?_); rintro e w39 ⟨v608, rfl, ho0, hb⟩; refine ⟨_, rfl, ?_⟩; have q5 := Aside0.mk (Kd.R_lower ho0 (below_size (bnow HB))); replace q1 := bb q1 hb; replace HB := bst HB hb; (try clear hb); (try clear hb2); (try clear hk); (try clear hi); (try clear ho0)) | ((with_reducible refine gate_callee (f := 17) rfl ?_); refine gl 46 Try.func17 (torchonlaw06_mat.calls 0 (-1) 1 0 jo jp jq jr _ A14.out) ?_; rintro e w40 ⟨rfl, hb⟩; refine ⟨_, rfl, ?_⟩; replace q5 := Aside0.mk (Kd.R_below (by (with_reducible repeat (first | apply Kd.R_alloc | apply Kd.R_drewN | apply Kd.R_drew)); exact q5.out) hb); replace q1 := bb q1 hb; replace HB := bst HB hb; (try clear hb); (try clear hb2); (try clear hk); (try clear hi)) | ((with_reducible refine gate_callee (f := 19) rfl ?_); refine gl 47 Try.func19 (torchonlaw06_pt.calls 3 4 js jt _ A15.out) ?_; rintro e w41 ⟨rfl, hb⟩; refine ⟨_, rfl, ?_⟩; replace q5 := Aside0.mk (Kd.R_below (by (with_reducible repeat (first | apply Kd.R_alloc | apply Kd.R_drewN | apply Kd.R_drew)); exact q5.out) hb); replace q1 := bb q1 hb; replace HB := bst HB hb; (try clear hb); (try clear hb2); (try clear hk); (try clear hi)) | ((with_reducible refine gate_callee (f := 19) rfl ?_); refine gl 49 Try.func19 (torchonlaw06_pt.calls 1 2 ju jv _ A16.out) ?_; rintro e w42 ⟨rfl, hb⟩; refine ⟨_, rfl, ?_⟩; replace q5 := Aside0.mk (Kd.R_below (by (with_reducible repeat (first | apply Kd.R_alloc | apply Kd.R_drewN | apply Kd.R_drew)); exact q5.out) hb); replace q1 := bb q1 hb; replace HB := bst HB hb; (try clear hb); (try clear hb2); (try clear hk); (try clear hi)) | ((with_reducible refine gate_callee (f := 27) rfl ?_); refine gl 50 Try.func27 (grids_Apply.calls k jo jp jq jr js jt ju jv qd qe qE _ A17.out) ?_; rintro e w43 ⟨rfl, hb⟩; refine ⟨_, rfl, ?_⟩; replace q5 := Aside0.mk (Kd.R_below (by (with_reducible repeat (first | apply Kd.R_alloc | apply Kd.R_drewN | apply Kd.R_drew)); exact q5.out) hb); replace q1 := bb q1 hb; replace HB := bst HB hb; (try clear hb); (try clear hb2); (try clear hk); (try clear hi)) | ((with_reducible refine gate_dst (N := 10) rfl ?_); (try (refine gate_guard (by rfl) ?_; dsimp only)); refine box_event ?hg (N := 10) ?hd (cs := #[.int .i64 0, .int .i64 0]) (t := 37) ?hr ?_; (case hd => rfl); (case hg => rfl); (case hr => first | (go_simp; done) | (go_simp; rfl)); intro qz hg w44 hbox hb; have q2 := Aside0.mk (hbox); have gJ := gw hg HB; have gF := gw hg HB; have qT := nlt hg q1; have jD := ngt hg q1; replace q5 := Aside0.mk (Kd.R_below (by (with_reducible repeat (first | apply Kd.R_alloc | apply Kd.R_drewN | apply Kd.R_drew)); exact q5.out) hb); replace q1 := bb q1 hb; replace HB := bst HB hb; clear hb hg; have gP := jD.out; have gV := qT.out; have ⟨g8, g9, go, gp⟩ := cf2 q2) | ((with_reducible refine gate_callee (f := 17) rfl ?_); refine gl 54 Try.func17 (torchonlaw06_mat.calls 1 (-1) 1 0 jw jx jy jz _ A18.out) ?_; rintro e w47 ⟨rfl, hb⟩; refine ⟨_, rfl, ?_⟩; have n0_ := Aside0.mk (Kd.R_below (by (with_reducible repeat (first | apply Kd.R_alloc | apply Kd.R_drewN | apply Kd.R_drew)); exact (Kd.R_mono (Kd.R_far (p := ⟨qz, 1, none⟩) (Kd.R_far (p := ⟨qz, 0, none⟩) (Kd.R_types q5.out q2.out (by decide)) (fun _ hk => hk.2) (.int .i64 qd)) (fun _ hk => hk.2) (.int .i64 qe)) (fun _ h_ => h_.1))) hb); have n1_ := Aside0.mk (blk_below (g := qp) (o := .cells #[.int .i64 2, .int .i64 1, .int .i64 2] 23 (0, 0)) (by (with_reducible repeat (first | refine blk_drewN ?_ _ | refine blk_drew ?_ | refine blk_alloc ?_ _)); refine blk_far ?_ qT.out _; (with_reducible repeat (first | refine blk_drewN ?_ _ | refine blk_drew ?_ | refine blk_alloc ?_ _)); refine blk_far ?_ qT.out _; (with_reducible repeat (first | refine blk_drewN ?_ _ | refine blk_drew ?_ | refine blk_alloc ?_ _)); exact q1.out) hb); have n2_ := Aside0.mk (blk_below (g := qz) (o := .cells #[.int .i64 qd, .int .i64 qe] 37 (0, 0)) (by (with_reducible repeat (first | refine blk_drewN ?_ _ | refine blk_drew ?_ | refine blk_alloc ?_ _)); refine blk_put (cs := #[.int .i64 qd, .int .i64 0]) ?_ 1 _ rfl; (with_reducible repeat (first | refine blk_drewN ?_ _ | refine blk_drew ?_ | refine blk_alloc ?_ _)); refine blk_put (cs := #[.int .i64 0, .int .i64 0]) ?_ 0 _ rfl; (with_reducible repeat (first | refine blk_drewN ?_ _ | refine blk_drew ?_ | refine blk_alloc ?_ _)); exact q2.out) hb); have n3_ := bst HB hb; clear q5; clear q1; clear q2; clear HB; have q5 := n0_; have q1 := n1_; have q2 := n2_; have HB := n3_; clear n0_ n1_ n2_ n3_; (try clear hb); (try clear hb2); (try clear hk); (try clear hi)) | ((with_reducible refine gate_callee (f := 33) rfl ?_); refine gl 55 Try.func33 (grids_Order.calls k jw jx jy jz qt qF _ A19.out) ?_; rintro e w48 ⟨rfl, hb⟩; refine ⟨_, rfl, ?_⟩; replace q5 := Aside0.mk (Kd.R_below (by (with_reducible repeat (first | apply Kd.R_alloc | apply Kd.R_drewN | apply Kd.R_drew)); exact q5.out) hb); replace q1 := bb q1 hb; replace q2 := bb q2 hb; replace HB := bst HB hb; (try clear hb); (try clear hb2); (try clear hk); (try clear hi)) | ((with_reducible refine gate_callee (f := 11) rfl ?_); refine gl 60 Try.func11 (grids_Reduce.calls k 5 7 10 qf qg qh qu qv qw qx jA _ A20.out) ?_; rintro e w49 ⟨rfl, hb⟩; refine ⟨_, rfl, ?_⟩; replace q5 := Aside0.mk (Kd.R_below (by (with_reducible repeat (first | apply Kd.R_alloc | apply Kd.R_drewN | apply Kd.R_drew)); exact q5.out) hb); replace q1 := bb q1 hb; replace q2 := bb q2 hb; replace HB := bst HB hb; (try clear hb); (try clear hb2); (try clear hk); (try clear hi)) | ((with_reducible refine gate_dst (N := 14) rfl ?_); (try (refine gate_guard (by rfl) ?_; dsimp only)); refine box_event ?hg (N := 14) ?hd (cs := #[.int .i64 0, .int .i64 0, .int .i64 0]) (t := 23) ?hr ?_; (case hd => rfl); (case hg => rfl); (case hr => first | (go_simp; done) | (go_simp; rfl)); intro qj hg w50 hbox hb; have q3 := Aside0.mk (hbox); have gK := gw hg HB; have gG := gw hg HB; have jB := nlt hg q1; have jG := ngt hg q1; have jE := nlt hg q2; have jH := ngt hg q2; replace q5 := Aside0.mk (Kd.R_below (by (with_reducible repeat (first | apply Kd.R_alloc | apply Kd.R_drewN | apply Kd.R_drew)); exact q5.out) hb); replace q1 := bb q1 hb; replace q2 := bb q2 hb; replace HB := bst HB hb; clear hb hg) | ((with_reducible refine gate_dst (N := 15) rfl ?_); (try (refine gate_guard (by rfl) ?_; dsimp only)); refine box_event ?hg (N := 15) ?hd (cs := #[.int .i64 0, .int .i64 0, .int .i64 0, .int .i64 0]) (t := 25) ?hr ?_; (case hd => rfl); (case hg => rfl); (case hr => first | (go_simp; done) | (go_simp; rfl)); intro q7 hg w51 hbox hb; have q4 := Aside0.mk (hbox); have gL := gw hg HB; have gH := gw hg HB; have jC := nlt hg q1; have jJ := ngt hg q1; have jF := nlt hg q2; have jK := ngt hg q2; have jI := nlt hg q3; have jL := ngt hg q3; replace q5 := Aside0.mk (Kd.R_below (Kd.R_elderB (by (with_reducible repeat (first | apply Kd.R_alloc | apply Kd.R_drewN | apply Kd.R_drew)); exact q5.out) q7 (Nat.le_of_eq hg.symm)) hb); replace q1 := bb q1 hb; replace q2 := bb q2 hb; replace q3 := bb q3 hb; replace HB := bst HB hb; clear hb hg; have gQ := jG.out; have gW := jB.out; have gR := jH.out; have gX := jE.out; have gS := jI.out; have gY := jL.out; have ⟨ga, gb, gc, gq, gr, gt⟩ := cf3 q3) | ((with_reducible refine gate_store (t := 23) (p := 14) rfl ?_); refine sx 23 14 ((((w51.setCell ⟨qj, 0, none⟩ (.int .i64 qf)).setCell ⟨qj, 1, none⟩ (.int .i64 qg)).setCell ⟨qj, 2, none⟩ (.int .i64 qh))) fun w56 hw => ?_; have n0_ : Aside0 (Kd.R k25 25 w56 w.heap.size (fun k_ => k_ ≠ q7) v608 qi) := ⟨(by rw [hw]; exact (by (with_reducible repeat (first | apply Kd.R_alloc | apply Kd.R_drewN | apply Kd.R_drew)); exact Kd.R_mono (Kd.R_far (p := ⟨qj, 2, none⟩) (Kd.R_far (p := ⟨qj, 1, none⟩) (Kd.R_far (p := ⟨qj, 0, none⟩) (Kd.R_types q5.out q3.out (by decide)) (fun _ hk => hk.2) (.int .i64 qf)) (fun _ hk => hk.2) (.int .i64 qg)) (fun _ hk => hk.2) (.int .i64 qh)) (fun _ hk => hk.1.2)))⟩; have n1_ := fw hw q1; have n2_ := fw hw q2; have n3_ := pw3 hw q3; have n4_ := fw hw q4; have n5_ := bw hw HB; clear hw; clear q5; clear q1; clear q2; clear q3; clear q4; clear HB; have q5 := n0_; have q1 := n1_; have q2 := n2_; have q3 := n3_; have q4 := n4_; have HB := n5_; clear n0_ n1_ n2_ n3_ n4_ n5_; have gT := jJ.out; have gZ := jC.out; have gU := jK.out; have Q0 := jF.out; have ⟨gd, ge, gf, gg, gu, gv, gx, gy⟩ := cf4 q4) | ((with_reducible refine gate_store (t := 25) (p := 15) rfl ?_); refine sx 25 15 (((((w56.setCell ⟨q7, 0, none⟩ (.int .i64 qu)).setCell ⟨q7, 1, none⟩ (.int .i64 qv)).setCell ⟨q7, 2, none⟩ (.int .i64 qw)).setCell ⟨q7, 3, none⟩ (.int .i64 qx))) fun w60 hw => ?_; have n0_ : Aside0 (Kd.R k25 25 w60 w.heap.size (fun k_ => k_ ≠ q7) v608 qi) := ⟨(by rw [hw]; exact (by (with_reducible repeat (first | apply Kd.R_alloc | apply Kd.R_drewN | apply Kd.R_drew)); exact Kd.R_mono (Kd.R_far (p := ⟨q7, 3, none⟩) (Kd.R_far (p := ⟨q7, 2, none⟩) (Kd.R_far (p := ⟨q7, 1, none⟩) (Kd.R_far (p := ⟨q7, 0, none⟩) (Kd.R_mono q5.out (fun k_ hk => (⟨hk, hk⟩ : _ ∧ k_ ≠ q7))) (fun _ hk => hk.2) (.int .i64 qu)) (fun _ hk => hk.2) (.int .i64 qv)) (fun _ hk => hk.2) (.int .i64 qw)) (fun _ hk => hk.2) (.int .i64 qx)) (fun _ hk => hk.1)))⟩; have n1_ := fw hw q1; have n2_ := fw hw q2; have n3_ := fw hw q3; have n4_ := pw4 hw q4; have n5_ := bw hw HB; clear hw; clear q5; clear q1; clear q2; clear q3; clear q4; clear HB; have q5 := n0_; have q1 := n1_; have q2 := n2_; have q3 := n3_; have q4 := n4_; have HB := n5_; clear n0_ n1_ n2_ n3_ n4_ n5_))
 (try simp only [Act.put, List.setIfInBounds_toArray, List.set_cons_zero, List.set_cons_succ])
 go_cut [89] (fun v89 wc => ∃ (kq : Nat) (x89_20 : Bool), v89 = .bool x89_20 ∧ Aside0 (torchonlaw06_awake.j0 kq qq qr qs qi qt x89_20 qd qe qf qg qh qu qv qw qx = some r) ∧ Aside0 (kq ≤ k) ∧ Aside0 (Kd.R k25 25 wc w.heap.size (fun k_ => k_ ≠ q7) v608 qi) ∧ Aside0 (wc.heap[qp]? = some (.cells #[.int .i64 2, .int .i64 1, .int .i64 2] 23 (0, 0))) ∧ Aside0 (wc.heap[qz]? = some (.cells #[.int .i64 qd, .int .i64 qe] 37 (0, 0))) ∧ Aside0 (wc.heap[qj]? = some (.cells #[.int .i64 qf, .int .i64 qg, .int .i64 qh] 23 (0, 0))) ∧ Aside0 (wc.heap[q7]? = some (.cells #[.int .i64 qu, .int .i64 qv, .int .i64 qw, .int .i64 qx] 25 (0, 0))) ∧ Aside0 (Below w.heap.size w wc))
 case first =>
  have H := qS.out
  clear qS
  by_cases c61 : qA = 0
  ·rw [if_pos c61] at H
   have qy : (qA == 0) = true := beq_iff_eq.mpr c61
   have qU : (qA != 0) = false := bne_eq_false_iff_eq.mpr c61
   clear c61
   (first | rw [qy] | (simp only [i64_w, i32_w]; rw [qy]) | skip)
   by_cases c62 : qB = 0
   ·rw [if_pos c62] at H
    have qV : (qB == 0) = true := beq_iff_eq.mpr c62
    have qW : (qB != 0) = false := bne_eq_false_iff_eq.mpr c62
    clear c62
    by_cases c63 : qC = 0
    ·rw [if_pos c63] at H
     have qX : (qC == 0) = true := beq_iff_eq.mpr c63
     have qY : (qC != 0) = false := bne_eq_false_iff_eq.mpr c63
     clear c63
     by_cases c64 : qD = 0
     ·rw [if_pos c64] at H
      have qZ : (qD == 0) = true := beq_iff_eq.mpr c64
      have j0 : (qD != 0) = false := bne_eq_false_iff_eq.mpr c64
      clear c64
      by_cases c65 : qE = 0
      ·rw [if_pos c65] at H
       have j1 : (qE == 0) = true := beq_iff_eq.mpr c65
       have j2 : (qE != 0) = false := bne_eq_false_iff_eq.mpr c65
       clear c65
       by_cases c66 : qF = 0
       ·rw [if_pos c66] at H
        have j3 : (qF == 0) = true := beq_iff_eq.mpr c66
        have j4 : (qF != 0) = false := bne_eq_false_iff_eq.mpr c66
        clear c66
        have H' := Aside0.mk H
        clear H
        go_wp2
        go_meet
        case rel => exact ⟨_, ((jA != 0)), (by first | rfl | (simp; done) | (simp [*]; done)), H', ⟨by first | omega | exact Nat.le_refl _⟩, ⟨by (with_reducible repeat (first | apply Kd.R_alloc | apply Kd.R_drewN | apply Kd.R_drew)); exact q5.out⟩, ⟨pk q1⟩, ⟨pk q2⟩, ⟨pk q3⟩, ⟨pk q4⟩, ⟨bnow HB⟩⟩
       ·rw [if_neg c66] at H
        have j3 : (qF == 0) = false := beq_eq_false_iff_ne.mpr c66
        have j4 : (qF != 0) = true := bne_iff_ne.mpr c66
        have H' := Aside0.mk H
        clear H
        go_wp2
        go_meet
        case rel => exact ⟨_, (true), (by first | rfl | (simp; done) | (simp [*]; done)), H', ⟨by first | omega | exact Nat.le_refl _⟩, ⟨by (with_reducible repeat (first | apply Kd.R_alloc | apply Kd.R_drewN | apply Kd.R_drew)); exact q5.out⟩, ⟨pk q1⟩, ⟨pk q2⟩, ⟨pk q3⟩, ⟨pk q4⟩, ⟨bnow HB⟩⟩
      ·rw [if_neg c65] at H
       have j1 : (qE == 0) = false := beq_eq_false_iff_ne.mpr c65
       have j2 : (qE != 0) = true := bne_iff_ne.mpr c65
       have H' := Aside0.mk H
       clear H
       go_wp2
       go_meet
       case rel => exact ⟨_, (true), (by first | rfl | (simp; done) | (simp [*]; done)), H', ⟨by first | omega | exact Nat.le_refl _⟩, ⟨by (with_reducible repeat (first | apply Kd.R_alloc | apply Kd.R_drewN | apply Kd.R_drew)); exact q5.out⟩, ⟨pk q1⟩, ⟨pk q2⟩, ⟨pk q3⟩, ⟨pk q4⟩, ⟨bnow HB⟩⟩
     ·rw [if_neg c64] at H
      have qZ : (qD == 0) = false := beq_eq_false_iff_ne.mpr c64
      have j0 : (qD != 0) = true := bne_iff_ne.mpr c64
      have H' := Aside0.mk H
      clear H
      go_wp2
      go_meet
      case rel => exact ⟨_, (true), (by first | rfl | (simp; done) | (simp [*]; done)), H', ⟨by first | omega | exact Nat.le_refl _⟩, ⟨by (with_reducible repeat (first | apply Kd.R_alloc | apply Kd.R_drewN | apply Kd.R_drew)); exact q5.out⟩, ⟨pk q1⟩, ⟨pk q2⟩, ⟨pk q3⟩, ⟨pk q4⟩, ⟨bnow HB⟩⟩
    ·rw [if_neg c63] at H
     have qX : (qC == 0) = false := beq_eq_false_iff_ne.mpr c63
     have qY : (qC != 0) = true := bne_iff_ne.mpr c63
     have H' := Aside0.mk H
     clear H
     go_wp2
     go_meet
     case rel => exact ⟨_, (true), (by first | rfl | (simp; done) | (simp [*]; done)), H', ⟨by first | omega | exact Nat.le_refl _⟩, ⟨by (with_reducible repeat (first | apply Kd.R_alloc | apply Kd.R_drewN | apply Kd.R_drew)); exact q5.out⟩, ⟨pk q1⟩, ⟨pk q2⟩, ⟨pk q3⟩, ⟨pk q4⟩, ⟨bnow HB⟩⟩
   ·rw [if_neg c62] at H
    have qV : (qB == 0) = false := beq_eq_false_iff_ne.mpr c62
    have qW : (qB != 0) = true := bne_iff_ne.mpr c62
    have H' := Aside0.mk H
    clear H
    go_wp2
    go_meet
    case rel => exact ⟨_, (true), (by first | rfl | (simp; done) | (simp [*]; done)), H', ⟨by first | omega | exact Nat.le_refl _⟩, ⟨by (with_reducible repeat (first | apply Kd.R_alloc | apply Kd.R_drewN | apply Kd.R_drew)); exact q5.out⟩, ⟨pk q1⟩, ⟨pk q2⟩, ⟨pk q3⟩, ⟨pk q4⟩, ⟨bnow HB⟩⟩
  ·rw [if_neg c61] at H
   have qy : (qA == 0) = false := beq_eq_false_iff_ne.mpr c61
   have qU : (qA != 0) = true := bne_iff_ne.mpr c61
   (first | rw [qy] | (simp only [i64_w, i32_w]; rw [qy]) | skip)
   have H' := Aside0.mk H
   clear H
   go_wp2
   go_meet
   case rel => exact ⟨_, (true), (by first | rfl | (simp; done) | (simp [*]; done)), H', ⟨by first | omega | exact Nat.le_refl _⟩, ⟨by (with_reducible repeat (first | apply Kd.R_alloc | apply Kd.R_drewN | apply Kd.R_drew)); exact q5.out⟩, ⟨pk q1⟩, ⟨pk q2⟩, ⟨pk q3⟩, ⟨pk q4⟩, ⟨bnow HB⟩⟩
 case rest =>
  clear qS
  try clear c1; try clear c2; try clear p2; try clear c3; try clear c4; try clear c5; try clear c6; try clear c11; try clear c13; try clear c17; try clear c18; try clear c19; try clear c20; try clear c21; try clear c22; try clear c27; try clear c33; try clear c45; try clear c52; try clear c53; try clear c54; try clear c57; try clear c58; try clear c61; try clear qy; try clear qU; try clear c62; try clear qV; try clear qW; try clear c63; try clear qX; try clear qY; try clear c64; try clear qZ; try clear j0; try clear c65; try clear j1; try clear j2; try clear c66; try clear j3; try clear j4; try clear g2; try clear g3; try clear g4; try clear g5; try clear g6; try clear g7; try clear g8; try clear g9; try clear ga; try clear gb; try clear gc; try clear gd; try clear ge; try clear gf; try clear gg; try clear gh; try clear gi; try clear gj; try clear gk; try clear gm; try clear gn; try clear go; try clear gp; try clear gq; try clear gr; try clear gt; try clear gu; try clear gv; try clear gx; try clear gy
  obtain ⟨kq, x89_20, rfl, HA, HJ20, HO_8, q1, q2, q3, q4, HB⟩ := hcut
  cases kq with
  | zero => exact absurd HA.out (by simp [torchonlaw06_awake.j0])
  | succ kj20 =>
   have H := HA.out
   clear HA
   simp only [torchonlaw06_awake.j0] at H
   by_cases c67 : x89_20 = true
   ·subst c67
    have H1 : (none) = some r := by rw [if_pos rfl] at H; exact H
    clear H
    have H := H1
    clear H1
    exact absurd H (by simp)
   ·replace c67 := Bool.eq_false_iff.mpr c67
    subst c67
    have H1 : (if qq = 6 then (if qr = 1 then (if qs = 1 then (if (qi.length : Int) = 12 then ((torchonlaw06_pt.f 1 5).bind fun qR => (if (qd == qR.1 && (qe == qR.2)) = true then (if qt = 6 then (if (qf == 1 && (qg == 0 && (qh == 1))) = true then ((torchonlaw06_mat.f (-3) (-1) 2 1).bind fun qm => (some (qu == qm.1 && (qv == qm.2.1 && (qw == qm.2.2.1 && (qx == qm.2.2.2)))))) else (none)) else (none)) else (none))) else (none)) else (none)) else (none)) else (none)) = some r := by rw [if_neg (show ¬ (false = true) by decide)] at H; exact H
    clear H
    have H := H1
    clear H1
    by_cases c68 : qq = 6
    ·rw [if_pos c68] at H
     have jM : (qq == 6) = true := beq_iff_eq.mpr c68
     have jN : (qq != 6) = false := bne_eq_false_iff_eq.mpr c68
     clear c68
     by_cases c69 : qr = 1
     ·rw [if_pos c69] at H
      have jO : (qr == 1) = true := beq_iff_eq.mpr c69
      have jP : (qr != 1) = false := bne_eq_false_iff_eq.mpr c69
      clear c69
      by_cases c70 : qs = 1
      ·rw [if_pos c70] at H
       have jQ : (qs == 1) = true := beq_iff_eq.mpr c70
       have jR : (qs != 1) = false := bne_eq_false_iff_eq.mpr c70
       clear c70
       by_cases c71 : (qi.length : Int) = 12
       ·rw [if_pos c71] at H
        have jS : ((qi.length : Int) == 12) = true := beq_iff_eq.mpr c71
        have jT : ((qi.length : Int) != 12) = false := bne_eq_false_iff_eq.mpr c71
        clear c71
        obtain ⟨⟨qn, qo⟩, A72, H⟩ := ob H
        by_cases c73 : (qd == qn && (qe == qo)) = true
        ·rw [if_pos c73] at H
         have jU : (qd == qn && (qe == qo)) = true := c73
         (try (have jV : decide (qd = qn && (qe == qo)) = true := by simpa using c73))
         (try (have jW : (qd == qn && (qe == qo)) = true := by simpa using c73))
         clear c73
         by_cases c74 : qt = 6
         ·rw [if_pos c74] at H
          have jX : (qt == 6) = true := beq_iff_eq.mpr c74
          have jY : (qt != 6) = false := bne_eq_false_iff_eq.mpr c74
          clear c74
          by_cases c75 : (qf == 1 && (qg == 0 && (qh == 1))) = true
          ·rw [if_pos c75] at H
           have jZ : (qf == 1 && (qg == 0 && (qh == 1))) = true := c75
           (try (have g0 : decide (qf = 1 && (qg == 0 && (qh == 1))) = true := by simpa using c75))
           (try (have g1 : (qf == 1 && (qg == 0 && (qh == 1))) = true := by simpa using c75))
           clear c75
           obtain ⟨⟨gz, gA, gB, gC⟩, A76, H⟩ := ob H
           obtain rfl := Option.some.inj H
           try go_wp2
           replace HO_8 := Aside0.mk (Kd.R_drew HO_8.out)
           replace q1 := bd q1
           replace q2 := bd q2
           replace q3 := bd q3
           replace q4 := bd q4
           replace HB := bdn HB
           obtain ⟨gD, gO, j5⟩ := Kd.R_slice HO_8.out
           (first | subst j5 | (injection j5 with f1_ f2_ f3_; have f4_ := f1_.symm; have f5_ := f3_.symm; clear f1_ f2_ f3_; subst f4_; subst f5_))
           refine start_ (n := 35) (S := fun w' => w'.cell? ⟨qz, 0, none⟩ = some (.int .i64 qd) ∧ w'.cell? ⟨qz, 1, none⟩ = some (.int .i64 qe) ∧ w'.cell? ⟨qj, 0, none⟩ = some (.int .i64 qf) ∧ w'.cell? ⟨qj, 1, none⟩ = some (.int .i64 qg) ∧ w'.cell? ⟨qj, 2, none⟩ = some (.int .i64 qh) ∧ w'.cell? ⟨q7, 0, none⟩ = some (.int .i64 qu) ∧ w'.cell? ⟨q7, 1, none⟩ = some (.int .i64 qv) ∧ w'.cell? ⟨q7, 2, none⟩ = some (.int .i64 qw) ∧ w'.cell? ⟨q7, 3, none⟩ = some (.int .i64 qx)) (ds := []) #[false, false, false, false, false, false, false, false, false, false, false, false, false, false, false, false, false, false, false, false, false, false, false, false, false, false, false, false, false, false, false, false, false, false, false] (by kernel_rfl) rfl rfl ⟨(blk_cell q2.out 0).trans rfl, (blk_cell q2.out 1).trans rfl, (blk_cell q3.out 0).trans rfl, (blk_cell q3.out 1).trans rfl, (blk_cell q3.out 2).trans rfl, (blk_cell q4.out 0).trans rfl, (blk_cell q4.out 1).trans rfl, (blk_cell q4.out 2).trans rfl, (blk_cell q4.out 3).trans rfl⟩ (fun hHeld => ?_); refine with_tabW torchonlaw06_awake.tab11 torchonlaw06_awake.bits11 (fun HT_ HW_ => ?_)
           generalize wc.drew = w77 at HO_8 q1 q2 q3 q4 HB hHeld ⊢
           refine pz 0 90 HT_ ?_
           refine pz 1 91 HT_ ?_
           refine pz 2 92 HT_ ?_
           refine pz 3 93 HT_ ?_
           refine pz 4 94 HT_ ?_
           refine pz 5 95 HT_ ?_
           refine pz 6 96 HT_ ?_
           refine pz 7 97 HT_ ?_
           refine pz 8 98 HT_ ?_
           refine pz 9 99 HT_ ?_
           refine pz 10 100 HT_ ?_
           refine pz 11 101 HT_ ?_
           refine pz 12 102 HT_ ?_
           refine pz 13 103 HT_ ?_
           refine pz 14 104 HT_ ?_
           refine pz 15 105 HT_ ?_
           refine tz 16 106 HT_ HW_ hHeld ?_
           refine one_ (i := 17) (N := some 107) #[true, true, true, true, true, true, true, true, true, true, true, true, true, true, true, true, true, true, false, false, false, false, false, false, false, false, false, false, false, false, false, false, false, false, false] rfl rfl (one_of HT_.out (by kernel_rfl)) (by decide) (fun K hK => ?_)
           refine gs _ Try.func19 (torchonlaw06_pt.calls 1 5 qn qo _ A72.out) ?_
           rintro e w79 ⟨rfl, hb⟩
           refine ⟨_, rfl, ?_⟩
           have n0_ := Aside0.mk (Kd.R_below (by (with_reducible repeat (first | apply Kd.R_alloc | apply Kd.R_drewN | apply Kd.R_drew)); exact HO_8.out) hb)
           have n1_ := bb q1 hb
           have n2_ := bb q2 hb
           have n3_ := bb q3 hb
           have n4_ := bb q4 hb
           have n5_ := bst HB hb
           clear HO_8
           clear q1
           clear q2
           clear q3
           clear q4
           clear HB
           have HO_8 := n0_
           have q1 := n1_
           have q2 := n2_
           have q3 := n3_
           have q4 := n4_
           have HB := n5_
           clear n0_ n1_ n2_ n3_ n4_ n5_
           (try clear hb)
           (try clear hb2)
           (try clear hk)
           (try clear hi)
           refine hK.out _ _ ⟨(blk_cell q2.out 0).trans rfl, (blk_cell q2.out 1).trans rfl, (blk_cell q3.out 0).trans rfl, (blk_cell q3.out 1).trans rfl, (blk_cell q3.out 2).trans rfl, (blk_cell q4.out 0).trans rfl, (blk_cell q4.out 1).trans rfl, (blk_cell q4.out 2).trans rfl, (blk_cell q4.out 3).trans rfl⟩ (fun hHeld => ?_)
           clear hK K
           refine norm_ (a' := ?_) ?_ ?_
           rotate_left
           ·show Act.put _ (some 107) _ = _
            simp only [Act.put, List.setIfInBounds_toArray, List.set_cons_zero, List.set_cons_succ, i64_w, i32_w]
            rfl
           refine pz 18 108 HT_ ?_
           refine pz 19 109 HT_ ?_
           refine pz 20 110 HT_ ?_
           refine pz 21 111 HT_ ?_
           refine pz 22 112 HT_ ?_
           refine pz 23 113 HT_ ?_
           refine pz 24 114 HT_ ?_
           refine pz 26 116 HT_ ?_
           refine tz 25 115 HT_ HW_ hHeld ?_
           refine pz 27 117 HT_ ?_
           refine pz 28 118 HT_ ?_
           refine pz 29 119 HT_ ?_
           refine tz 30 120 HT_ HW_ hHeld ?_
           refine one_ (i := 31) (N := some 121) #[true, true, true, true, true, true, true, true, true, true, true, true, true, true, true, true, true, true, true, true, true, true, true, true, true, true, true, true, true, true, true, true, false, false, false] rfl rfl (one_of HT_.out (by kernel_rfl)) (by decide) (fun K hK => ?_)
           refine gs _ Try.func17 (torchonlaw06_mat.calls (-3) (-1) 2 1 gz gA gB gC _ A76.out) ?_
           rintro e w80 ⟨rfl, hb⟩
           refine ⟨_, rfl, ?_⟩
           have n0_ := Aside0.mk (Kd.R_below (by (with_reducible repeat (first | apply Kd.R_alloc | apply Kd.R_drewN | apply Kd.R_drew)); exact HO_8.out) hb)
           have n1_ := bb q1 hb
           have n2_ := bb q2 hb
           have n3_ := bb q3 hb
           have n4_ := bb q4 hb
           have n5_ := bst HB hb
           clear HO_8
           clear q1
           clear q2
           clear q3
           clear q4
           clear HB
           have HO_8 := n0_
           have q1 := n1_
           have q2 := n2_
           have q3 := n3_
           have q4 := n4_
           have HB := n5_
           clear n0_ n1_ n2_ n3_ n4_ n5_
           (try clear hb)
           (try clear hb2)
           (try clear hk)
           (try clear hi)
           refine hK.out _ _ ⟨(blk_cell q2.out 0).trans rfl, (blk_cell q2.out 1).trans rfl, (blk_cell q3.out 0).trans rfl, (blk_cell q3.out 1).trans rfl, (blk_cell q3.out 2).trans rfl, (blk_cell q4.out 0).trans rfl, (blk_cell q4.out 1).trans rfl, (blk_cell q4.out 2).trans rfl, (blk_cell q4.out 3).trans rfl⟩ (fun hHeld => ?_)
           clear hK K
           refine norm_ (a' := ?_) ?_ ?_
           rotate_left
           ·show Act.put _ (some 121) _ = _
            simp only [Act.put, List.setIfInBounds_toArray, List.set_cons_zero, List.set_cons_succ, i64_w, i32_w]
            rfl
           refine pz 32 122 HT_ ?_
           refine pz 33 123 HT_ ?_
           refine pz 34 0 HT_ ?_
           refine done_ (done_of HT_.out (by kernel_rfl)) ?_
           try go_wp2
           go_ret
           exact rt HB
          ·rw [if_neg c75] at H
           have jZ : (qf == 1 && (qg == 0 && (qh == 1))) = false := by simpa using c75
           (try (have g0 : decide (qf = 1 && (qg == 0 && (qh == 1))) = false := by simpa using c75))
           (try (have g1 : (qf == 1 && (qg == 0 && (qh == 1))) = false := by simpa using c75))
           (try (have gN : ¬ (qf = 1 && (qg == 0 && (qh == 1))) := by simpa using c75))
           clear c75
           exact absurd H (by simp)
         ·rw [if_neg c74] at H
          have jX : (qt == 6) = false := beq_eq_false_iff_ne.mpr c74
          have jY : (qt != 6) = true := bne_iff_ne.mpr c74
          exact absurd H (by simp)
        ·rw [if_neg c73] at H
         have jU : (qd == qn && (qe == qo)) = false := by simpa using c73
         (try (have jV : decide (qd = qn && (qe == qo)) = false := by simpa using c73))
         (try (have jW : (qd == qn && (qe == qo)) = false := by simpa using c73))
         (try (have gM : ¬ (qd = qn && (qe == qo)) := by simpa using c73))
         clear c73
         exact absurd H (by simp)
       ·rw [if_neg c71] at H
        have jS : ((qi.length : Int) == 12) = false := beq_eq_false_iff_ne.mpr c71
        have jT : ((qi.length : Int) != 12) = true := bne_iff_ne.mpr c71
        exact absurd H (by simp)
      ·rw [if_neg c70] at H
       have jQ : (qs == 1) = false := beq_eq_false_iff_ne.mpr c70
       have jR : (qs != 1) = true := bne_iff_ne.mpr c70
       exact absurd H (by simp)
     ·rw [if_neg c69] at H
      have jO : (qr == 1) = false := beq_eq_false_iff_ne.mpr c69
      have jP : (qr != 1) = true := bne_iff_ne.mpr c69
      exact absurd H (by simp)
    ·rw [if_neg c68] at H
     have jM : (qq == 6) = false := beq_eq_false_iff_ne.mpr c68
     have jN : (qq != 6) = true := bne_iff_ne.mpr c68
     exact absurd H (by simp)
end
section
/-! ### torchonref06_from: function 47 -/
def torchonref06_from.f (a0 : Int) (a1 : Int) (a2 : Int) : Option (Bool) := if a0 ≥ a1 then (some (decide (a0 ≤ a2))) else (some false)
set_option maxHeartbeats 8000000 in
set_option maxRecDepth 100000 in
theorem torchonref06_from.calls (a0 : Int) (a1 : Int) (a2 : Int) (r : Bool) (w : World) (h : torchonref06_from.f a0 a1 a2 = some r) :
  Calls Try.prog 47 #[.int .i64 a0, .int .i64 a1, .int .i64 a2] w fun e w' => e = .returned (.bool r) ∧ Drawn0 w w' := by
 have H : (if a0 ≥ a1 then (some (decide (a0 ≤ a2))) else (some false)) = some r := h
 clear h
 by_cases c4 : a0 ≥ a1
 ·rw [if_pos c4] at H
  have q0 : decide (a1 ≤ a0) = true := decide_eq_true c4
  clear c4
  obtain rfl := Option.some.inj H
  go_enter Try.func47, Try.ntmps47
  go_wp2
  go_ret
  exact ⟨by first | rfl | (simp; done) | (simp [*]; done), by repeat (first | exact Drawn0.refl _ | apply Drawn0.step)⟩
 ·rw [if_neg c4] at H
  have q0 : decide (a1 ≤ a0) = false := decide_eq_false c4
  clear c4
  obtain rfl := Option.some.inj H
  go_enter Try.func47, Try.ntmps47
  go_wp2
  go_ret
  exact ⟨by first | rfl | (simp; done) | (simp [*]; done), by repeat (first | exact Drawn0.refl _ | apply Drawn0.step)⟩
end
section
/-! ### torchonref06_Matrix: function 15 -/
def torchonref06_Matrix.f (a0_0 : Int) (a0_1 : Int) (a0_2 : Int) (a0_3 : Int) : Option (Bool) := (torchonref06_from.f a0_0 (-10000) 10000).bind fun q4 => (if q4 = true then ((torchonref06_from.f a0_1 (-10000) 10000).bind fun q3 => (if q3 = true then ((torchonref06_from.f a0_2 (-10000) 10000).bind fun q1 => (if q1 = true then ((torchonref06_from.f a0_3 (-10000) 10000).bind fun q0 => (some q0)) else (some false))) else (some false))) else (some false))
set_option maxHeartbeats 8000000 in
set_option maxRecDepth 100000 in
theorem torchonref06_Matrix.calls (a0_0 : Int) (a0_1 : Int) (a0_2 : Int) (a0_3 : Int) (r : Bool) (w : World) (h : torchonref06_Matrix.f a0_0 a0_1 a0_2 a0_3 = some r) :
  Calls Try.prog 15 #[.agg #[.int .i64 a0_0, .int .i64 a0_1, .int .i64 a0_2, .int .i64 a0_3]] w fun e w' => e = .returned (.bool r) ∧ Below w.heap.size w w' := by
 have hu25 := Try.underlying25
 have HB := Aside0.mk (Below.refl w.heap.size w)
 have H : ((torchonref06_from.f a0_0 (-10000) 10000).bind fun q4 => (if q4 = true then ((torchonref06_from.f a0_1 (-10000) 10000).bind fun q3 => (if q3 = true then ((torchonref06_from.f a0_2 (-10000) 10000).bind fun q1 => (if q1 = true then ((torchonref06_from.f a0_3 (-10000) 10000).bind fun q0 => (some q0)) else (some false))) else (some false))) else (some false))) = some r := h
 clear h
 obtain ⟨q4, A2, H⟩ := ob H
 by_cases c3 : q4 = true
 ·subst c3
  have H1 : ((torchonref06_from.f a0_1 (-10000) 10000).bind fun q3 => (if q3 = true then ((torchonref06_from.f a0_2 (-10000) 10000).bind fun q1 => (if q1 = true then ((torchonref06_from.f a0_3 (-10000) 10000).bind fun q0 => (some q0)) else (some false))) else (some false))) = some r := by rw [if_pos rfl] at H; exact H
  clear H
  have H := H1
  clear H1
  obtain ⟨q3, A4, H⟩ := ob H
  by_cases c5 : q3 = true
  ·subst c5
   have H1 : ((torchonref06_from.f a0_2 (-10000) 10000).bind fun q1 => (if q1 = true then ((torchonref06_from.f a0_3 (-10000) 10000).bind fun q0 => (some q0)) else (some false))) = some r := by rw [if_pos rfl] at H; exact H
   clear H
   have H := H1
   clear H1
   obtain ⟨q1, A6, H⟩ := ob H
   by_cases c7 : q1 = true
   ·subst c7
    have H1 : ((torchonref06_from.f a0_3 (-10000) 10000).bind fun q0 => (some q0)) = some r := by rw [if_pos rfl] at H; exact H
    clear H
    have H := H1
    clear H1
    obtain ⟨q0, A8, H⟩ := ob H
    obtain rfl := Option.some.inj H
    go_enter Try.func15, Try.ntmps15
    go_wp2_with (first | ((with_reducible refine gate_dst (N := 1) rfl ?_); refine bx 1 #[.int .i64 a0_0, .int .i64 a0_1, .int .i64 a0_2, .int .i64 a0_3] 25 fun q7 hg w9 q2 hb => ?_; have q6 := gw hg HB; have q5 := gw hg HB; replace HB := bst HB hb; clear hb hg; have ⟨q8, q9, qa, qb, qo, qp, qq, qr⟩ := cf4 q2) | ((with_reducible refine gate_callee (f := 47) rfl ?_); refine goesL_ (some 5) rfl rfl Try.func47 (by kernel_rfl) rfl #[.int .i64 a0_0, .int .i64 (-10000), .int .i64 10000] rfl am ?_; (with_reducible refine (torchonref06_from.calls a0_0 (-10000) 10000 true _ A2.out).mono ?_); rintro e w' ⟨rfl, ⟨nd, rfl⟩⟩; refine ⟨_, rfl, ?_⟩) | (go_at_call 47; (with_reducible refine (torchonref06_from.calls a0_1 (-10000) 10000 true _ A4.out).mono ?_); rintro e w' ⟨rfl, ⟨nd, rfl⟩⟩) | (go_at_call 47; (with_reducible refine (torchonref06_from.calls a0_2 (-10000) 10000 true _ A6.out).mono ?_); rintro e w' ⟨rfl, ⟨nd, rfl⟩⟩) | (go_at_call 47; (with_reducible refine (torchonref06_from.calls a0_3 (-10000) 10000 q0 _ A8.out).mono ?_); rintro e w' ⟨rfl, ⟨nd, rfl⟩⟩))
    go_ret
    exact rt HB
   ·replace c7 := Bool.eq_false_iff.mpr c7
    subst c7
    have H1 : (some false) = some r := by rw [if_neg (show ¬ (false = true) by decide)] at H; exact H
    clear H
    have H := H1
    clear H1
    obtain rfl := Option.some.inj H
    go_enter Try.func15, Try.ntmps15
    go_wp2_with (first | ((with_reducible refine gate_dst (N := 1) rfl ?_); refine bx 1 #[.int .i64 a0_0, .int .i64 a0_1, .int .i64 a0_2, .int .i64 a0_3] 25 fun q7 hg w11 q2 hb => ?_; have q6 := gw hg HB; have q5 := gw hg HB; replace HB := bst HB hb; clear hb hg; have ⟨qc, qd, qe, qf, qs, qt, qu, qv⟩ := cf4 q2) | ((with_reducible refine gate_callee (f := 47) rfl ?_); refine goesL_ (some 5) rfl rfl Try.func47 (by kernel_rfl) rfl #[.int .i64 a0_0, .int .i64 (-10000), .int .i64 10000] rfl am ?_; (with_reducible refine (torchonref06_from.calls a0_0 (-10000) 10000 true _ A2.out).mono ?_); rintro e w' ⟨rfl, ⟨nd, rfl⟩⟩; refine ⟨_, rfl, ?_⟩) | (go_at_call 47; (with_reducible refine (torchonref06_from.calls a0_1 (-10000) 10000 true _ A4.out).mono ?_); rintro e w' ⟨rfl, ⟨nd, rfl⟩⟩) | (go_at_call 47; (with_reducible refine (torchonref06_from.calls a0_2 (-10000) 10000 false _ A6.out).mono ?_); rintro e w' ⟨rfl, ⟨nd, rfl⟩⟩))
    go_ret
    exact rt HB
  ·replace c5 := Bool.eq_false_iff.mpr c5
   subst c5
   have H1 : (some false) = some r := by rw [if_neg (show ¬ (false = true) by decide)] at H; exact H
   clear H
   have H := H1
   clear H1
   obtain rfl := Option.some.inj H
   go_enter Try.func15, Try.ntmps15
   go_wp2_with (first | ((with_reducible refine gate_dst (N := 1) rfl ?_); refine bx 1 #[.int .i64 a0_0, .int .i64 a0_1, .int .i64 a0_2, .int .i64 a0_3] 25 fun q7 hg w13 q2 hb => ?_; have q6 := gw hg HB; have q5 := gw hg HB; replace HB := bst HB hb; clear hb hg; have ⟨qg, qh, qi, qj, qw, qx, qy, qz⟩ := cf4 q2) | ((with_reducible refine gate_callee (f := 47) rfl ?_); refine goesL_ (some 5) rfl rfl Try.func47 (by kernel_rfl) rfl #[.int .i64 a0_0, .int .i64 (-10000), .int .i64 10000] rfl am ?_; (with_reducible refine (torchonref06_from.calls a0_0 (-10000) 10000 true _ A2.out).mono ?_); rintro e w' ⟨rfl, ⟨nd, rfl⟩⟩; refine ⟨_, rfl, ?_⟩) | (go_at_call 47; (with_reducible refine (torchonref06_from.calls a0_1 (-10000) 10000 false _ A4.out).mono ?_); rintro e w' ⟨rfl, ⟨nd, rfl⟩⟩))
   go_ret
   exact rt HB
 ·replace c3 := Bool.eq_false_iff.mpr c3
  subst c3
  have H1 : (some false) = some r := by rw [if_neg (show ¬ (false = true) by decide)] at H; exact H
  clear H
  have H := H1
  clear H1
  obtain rfl := Option.some.inj H
  go_enter Try.func15, Try.ntmps15
  go_wp2_with (first | ((with_reducible refine gate_dst (N := 1) rfl ?_); refine bx 1 #[.int .i64 a0_0, .int .i64 a0_1, .int .i64 a0_2, .int .i64 a0_3] 25 fun q7 hg w15 q2 hb => ?_; have q6 := gw hg HB; have q5 := gw hg HB; replace HB := bst HB hb; clear hb hg; have ⟨qk, ql, qm, qn, qA, qB, qC, qD⟩ := cf4 q2) | ((with_reducible refine gate_callee (f := 47) rfl ?_); refine goesL_ (some 5) rfl rfl Try.func47 (by kernel_rfl) rfl #[.int .i64 a0_0, .int .i64 (-10000), .int .i64 10000] rfl am ?_; (with_reducible refine (torchonref06_from.calls a0_0 (-10000) 10000 false _ A2.out).mono ?_); rintro e w' ⟨rfl, ⟨nd, rfl⟩⟩; refine ⟨_, rfl, ?_⟩))
  go_ret
  exact rt HB
end
section
attribute [local go_sem high] eqA23
/-! ### grids_Keeps: function 24 -/
def grids_Keeps.f (k : Nat) (a0_0 : Int) (a0_1 : Int) (a0_2 : Int) (a1_0 : Int) (a1_1 : Int) (a1_2 : Int) (a1_3 : Int) : Option (Bool × Int) := (grids_Check.f k a0_0 a0_1 a0_2).bind fun q2 => (if q2 = 0 then ((grids_matrix.f a1_0 a1_1 a1_2 a1_3).bind fun q8 => (if q8 = true then ((grids_lead.f a0_0 a0_1 a0_2 a1_0 a1_1 a1_2 a1_3).bind fun q3 => (some ((q3.1 == a0_0 && (q3.2.1 == a0_1 && (q3.2.2 == a0_2))), 0))) else (some (false, 2)))) else (some (false, 2)))
theorem grids_Keeps.mono : ∀ a0 a1 a2 a3 a4 a5 a6 k, LeO (grids_Keeps.f k a0 a1 a2 a3 a4 a5 a6) (grids_Keeps.f (k + 1) a0 a1 a2 a3 a4 a5 a6) := by
 intro a0 a1 a2 a3 a4 a5 a6 k
 unfold grids_Keeps.f
 repeat' first
   | (with_reducible exact grids_Check.mono _ _ _ _)
   | (with_reducible exact LeO.refl _)
   | (with_reducible exact LeO.none _)
   | (with_reducible refine LeO.ite ?_ ?_)
   | (with_reducible refine LeO.bind ?_ (fun _ => ?_))
   | exact grids_Check.mono _ _ _ _
   | exact LeO.none _
   | refine LeO.ite ?_ ?_
   | refine LeO.bind ?_ (fun _ => ?_)
set_option maxHeartbeats 8000000 in
set_option maxRecDepth 100000 in
theorem grids_Keeps.calls (k : Nat) (a0_0 : Int) (a0_1 : Int) (a0_2 : Int) (a1_0 : Int) (a1_1 : Int) (a1_2 : Int) (a1_3 : Int) (r1 : Bool) (r2 : Int) (w : World) (h : grids_Keeps.f k a0_0 a0_1 a0_2 a1_0 a1_1 a1_2 a1_3 = some (r1, r2)) :
  Calls Try.prog 24 #[.agg #[.int .i64 a0_0, .int .i64 a0_1, .int .i64 a0_2], .agg #[.int .i64 a1_0, .int .i64 a1_1, .int .i64 a1_2, .int .i64 a1_3]] w fun e w' => e = .returned (.tuple #[.bool r1, .int .i64 r2]) ∧ Below w.heap.size w w' := by
 have hu23 := Try.underlying23
 have hu25 := Try.underlying25
 have HB := Aside0.mk (Below.refl w.heap.size w)
 have H : ((grids_Check.f k a0_0 a0_1 a0_2).bind fun q2 => (if q2 = 0 then ((grids_matrix.f a1_0 a1_1 a1_2 a1_3).bind fun q8 => (if q8 = true then ((grids_lead.f a0_0 a0_1 a0_2 a1_0 a1_1 a1_2 a1_3).bind fun q3 => (some ((q3.1 == a0_0 && (q3.2.1 == a0_1 && (q3.2.2 == a0_2))), 0))) else (some (false, 2)))) else (some (false, 2)))) = some (r1, r2) := h
 clear h
 obtain ⟨q2, A3, H⟩ := ob H
 by_cases c4 : q2 = 0
 ·rw [if_pos c4] at H
  have qd : (q2 == 0) = true := beq_iff_eq.mpr c4
  have qe : (q2 != 0) = false := bne_eq_false_iff_eq.mpr c4
  clear c4
  obtain ⟨q8, A5, H⟩ := ob H
  by_cases c6 : q8 = true
  ·subst c6
   have H1 : ((grids_lead.f a0_0 a0_1 a0_2 a1_0 a1_1 a1_2 a1_3).bind fun q3 => (some ((q3.1 == a0_0 && (q3.2.1 == a0_1 && (q3.2.2 == a0_2))), 0))) = some (r1, r2) := by rw [if_pos rfl] at H; exact H
   clear H
   have H := H1
   clear H1
   obtain ⟨⟨qf, qg, qh⟩, A7, H⟩ := ob H
   simp only [Option.some.injEq, Prod.mk.injEq] at H
   obtain ⟨rfl, rfl⟩ := H
   go_enter Try.func24, Try.ntmps24
   try go_wp2_with (first | ((with_reducible refine gate_dst (N := 2) rfl ?_); refine bx 2 #[.int .i64 a0_0, .int .i64 a0_1, .int .i64 a0_2] 23 fun q7 hg w8 q0 hb => ?_; have qb := gw hg HB; have q9 := gw hg HB; replace HB := bst HB hb; clear hb hg) | ((with_reducible refine gate_dst (N := 3) rfl ?_); refine bx 3 #[.int .i64 a1_0, .int .i64 a1_1, .int .i64 a1_2, .int .i64 a1_3] 25 fun q4 hg w9 q1 hb => ?_; have qc := gw hg HB; have qa := gw hg HB; have q5 := nlt hg q0; have q6 := ngt hg q0; replace q0 := bb q0 hb; replace HB := bst HB hb; clear hb hg; have qQ := q5.out; have qT := q6.out; have ⟨qi, qj, qk, qz, qA, qB⟩ := cf3 q0) | ((with_reducible refine gate_callee (f := 14) rfl ?_); refine gl 7 Try.func14 (grids_Check.calls k a0_0 a0_1 a0_2 q2 _ A3.out) ?_; rintro e w12 ⟨rfl, hb⟩; refine ⟨_, rfl, ?_⟩; replace q0 := bb q0 hb; replace q1 := bb q1 hb; replace HB := bst HB hb; clear hb; have ⟨ql, qm, qn, qo, qC, qD, qE, qF⟩ := cf4 q1) | (go_at_call 59; (with_reducible refine (grids_matrix.calls a1_0 a1_1 a1_2 a1_3 true _ A5.out).mono ?_); rintro e w14 ⟨rfl, hb⟩; replace q0 := bb q0 hb; replace q1 := bb q1 hb; replace HB := bst HB hb; clear hb))
   replace q0 := bd q0
   replace q1 := bd q1
   replace HB := bdn HB
   refine start_ (n := 7) (S := fun w' => w'.cell? ⟨q7, 0, none⟩ = some (.int .i64 a0_0) ∧ w'.cell? ⟨q7, 1, none⟩ = some (.int .i64 a0_1) ∧ w'.cell? ⟨q7, 2, none⟩ = some (.int .i64 a0_2) ∧ w'.cell? ⟨q4, 0, none⟩ = some (.int .i64 a1_0) ∧ w'.cell? ⟨q4, 1, none⟩ = some (.int .i64 a1_1) ∧ w'.cell? ⟨q4, 2, none⟩ = some (.int .i64 a1_2) ∧ w'.cell? ⟨q4, 3, none⟩ = some (.int .i64 a1_3)) (ds := []) #[false, false, false, false, false, false, false] (by kernel_rfl) rfl rfl ⟨(blk_cell q0.out 0).trans rfl, (blk_cell q0.out 1).trans rfl, (blk_cell q0.out 2).trans rfl, (blk_cell q1.out 0).trans rfl, (blk_cell q1.out 1).trans rfl, (blk_cell q1.out 2).trans rfl, (blk_cell q1.out 3).trans rfl⟩ (fun hHeld => ?_)
   generalize w14.drew = w15 at q0 q1 HB hHeld ⊢
   refine take_ (i := 0) (N := some 14) (v := ?_) (a' := ?_) #[true, false, false, false, false, false, false] rfl rfl (by kernel_rfl) (fun _ _ _ h => h) (Or.inl ⟨by rfl, ?_⟩) hHeld ?_ ?_
   rotate_left
   ·rintro w' ⟨s0, s1, s2, s3, s4, s5, s6⟩
    go_simp
    with_reducible rfl
   rotate_left
   ·simp only [Act.put, List.setIfInBounds_toArray, List.set_cons_zero, List.set_cons_succ, i64_w, i32_w]
    rfl
   refine take_ (i := 1) (N := some 15) (v := ?_) (a' := ?_) #[true, true, false, false, false, false, false] rfl rfl (by kernel_rfl) (fun _ _ _ h => h) (Or.inl ⟨by rfl, ?_⟩) hHeld ?_ ?_
   rotate_left
   ·rintro w' ⟨s0, s1, s2, s3, s4, s5, s6⟩
    go_simp
    with_reducible rfl
   rotate_left
   ·simp only [Act.put, List.setIfInBounds_toArray, List.set_cons_zero, List.set_cons_succ, i64_w, i32_w]
    rfl
   refine take_ (i := 3) (N := some 17) (v := ?_) (a' := ?_) #[true, true, false, true, false, false, false] rfl rfl (by kernel_rfl) (fun _ _ _ h => h) (Or.inl ⟨by rfl, ?_⟩) hHeld ?_ ?_
   rotate_left
   ·rintro w' ⟨s0, s1, s2, s3, s4, s5, s6⟩
    go_simp
    with_reducible rfl
   rotate_left
   ·simp only [Act.put, List.setIfInBounds_toArray, List.set_cons_zero, List.set_cons_succ, i64_w, i32_w]
    rfl
   refine one_ (i := 2) (N := some 16) #[true, true, true, true, false, false, false] rfl rfl (by kernel_rfl) (by decide) (fun K hK => ?_)
   refine gs _ Try.func60 (grids_lead.calls a0_0 a0_1 a0_2 a1_0 a1_1 a1_2 a1_3 qf qg qh _ A7.out) ?_
   rintro e w16 ⟨rfl, hb⟩
   refine ⟨_, rfl, ?_⟩
   replace q0 := bb q0 hb
   replace q1 := bb q1 hb
   replace HB := bst HB hb
   (try clear hb)
   (try clear hb2)
   (try clear hk)
   (try clear hi)
   refine hK.out _ _ ⟨(blk_cell q0.out 0).trans rfl, (blk_cell q0.out 1).trans rfl, (blk_cell q0.out 2).trans rfl, (blk_cell q1.out 0).trans rfl, (blk_cell q1.out 1).trans rfl, (blk_cell q1.out 2).trans rfl, (blk_cell q1.out 3).trans rfl⟩ (fun hHeld => ?_)
   clear hK K
   refine norm_ (a' := ?_) ?_ ?_
   rotate_left
   ·show Act.put _ (some 16) _ = _
    simp only [Act.put, List.setIfInBounds_toArray, List.set_cons_zero, List.set_cons_succ, i64_w, i32_w]
    rfl
   refine pure_ (i := 4) (N := some 18) (v := ?_) (a' := ?_) #[true, true, true, true, true, false, false] rfl rfl (by kernel_rfl) (fun _ _ _ h => h) (Or.inl ⟨by rfl, ?_⟩) ?_ ?_
   rotate_left
   ·intro w'
    go_simp
    with_reducible rfl
   rotate_left
   ·simp only [Act.put, List.setIfInBounds_toArray, List.set_cons_zero, List.set_cons_succ, i64_w, i32_w]
    rfl
   refine pure_ (i := 5) (N := some 4) (v := ?_) (a' := ?_) #[true, true, true, true, true, true, false] rfl rfl (by kernel_rfl) (fun _ _ _ h => h) (Or.inl ⟨by rfl, ?_⟩) ?_ ?_
   rotate_left
   ·intro w'
    go_simp
    with_reducible rfl
   rotate_left
   ·simp only [Act.put, List.setIfInBounds_toArray, List.set_cons_zero, List.set_cons_succ, i64_w, i32_w]
    rfl
   refine pure_ (i := 6) (N := some 5) (v := ?_) (a' := ?_) #[true, true, true, true, true, true, true] rfl rfl (by kernel_rfl) (fun _ _ _ h => h) (Or.inl ⟨by rfl, ?_⟩) ?_ ?_
   rotate_left
   ·intro w'
    go_simp
    with_reducible rfl
   rotate_left
   ·simp only [Act.put, List.setIfInBounds_toArray, List.set_cons_zero, List.set_cons_succ, i64_w, i32_w]
    rfl
   refine done_ (by kernel_rfl) ?_
   try go_wp2
   go_ret2
   exact rt HB
  ·replace c6 := Bool.eq_false_iff.mpr c6
   subst c6
   have H1 : (some (false, 2)) = some (r1, r2) := by rw [if_neg (show ¬ (false = true) by decide)] at H; exact H
   clear H
   have H := H1
   clear H1
   simp only [Option.some.injEq, Prod.mk.injEq] at H
   obtain ⟨rfl, rfl⟩ := H
   go_enter Try.func24, Try.ntmps24
   go_wp2_with (first | ((with_reducible refine gate_dst (N := 2) rfl ?_); refine bx 2 #[.int .i64 a0_0, .int .i64 a0_1, .int .i64 a0_2] 23 fun q7 hg w17 q0 hb => ?_; have qb := gw hg HB; have q9 := gw hg HB; replace HB := bst HB hb; clear hb hg) | ((with_reducible refine gate_dst (N := 3) rfl ?_); refine bx 3 #[.int .i64 a1_0, .int .i64 a1_1, .int .i64 a1_2, .int .i64 a1_3] 25 fun q4 hg w18 q1 hb => ?_; have qc := gw hg HB; have qa := gw hg HB; have q5 := nlt hg q0; have q6 := ngt hg q0; replace q0 := bb q0 hb; replace HB := bst HB hb; clear hb hg; have qR := q5.out; have qU := q6.out; have ⟨qp, qq, qr, qG, qH, qI⟩ := cf3 q0) | ((with_reducible refine gate_callee (f := 14) rfl ?_); refine gl 7 Try.func14 (grids_Check.calls k a0_0 a0_1 a0_2 q2 _ A3.out) ?_; rintro e w21 ⟨rfl, hb⟩; refine ⟨_, rfl, ?_⟩; replace q0 := bb q0 hb; replace q1 := bb q1 hb; replace HB := bst HB hb; clear hb; have ⟨qs, qt, qu, qv, qJ, qK, qL, qM⟩ := cf4 q1) | (go_at_call 59; (with_reducible refine (grids_matrix.calls a1_0 a1_1 a1_2 a1_3 false _ A5.out).mono ?_); rintro e w23 ⟨rfl, hb⟩; replace q0 := bb q0 hb; replace q1 := bb q1 hb; replace HB := bst HB hb; clear hb))
   go_ret2
   exact rt HB
 ·rw [if_neg c4] at H
  have qd : (q2 == 0) = false := beq_eq_false_iff_ne.mpr c4
  have qe : (q2 != 0) = true := bne_iff_ne.mpr c4
  simp only [Option.some.injEq, Prod.mk.injEq] at H
  obtain ⟨rfl, rfl⟩ := H
  go_enter Try.func24, Try.ntmps24
  go_wp2_with (first | ((with_reducible refine gate_dst (N := 2) rfl ?_); refine bx 2 #[.int .i64 a0_0, .int .i64 a0_1, .int .i64 a0_2] 23 fun q7 hg w24 q0 hb => ?_; have qb := gw hg HB; have q9 := gw hg HB; replace HB := bst HB hb; clear hb hg) | ((with_reducible refine gate_dst (N := 3) rfl ?_); refine bx 3 #[.int .i64 a1_0, .int .i64 a1_1, .int .i64 a1_2, .int .i64 a1_3] 25 fun q4 hg w25 q1 hb => ?_; have qc := gw hg HB; have qa := gw hg HB; have q5 := nlt hg q0; have q6 := ngt hg q0; replace q0 := bb q0 hb; replace HB := bst HB hb; clear hb hg; have qS := q5.out; have qV := q6.out; have ⟨qw, qx, qy, qN, qO, qP⟩ := cf3 q0) | ((with_reducible refine gate_callee (f := 14) rfl ?_); refine gl 7 Try.func14 (grids_Check.calls k a0_0 a0_1 a0_2 q2 _ A3.out) ?_; rintro e w28 ⟨rfl, hb⟩; refine ⟨_, rfl, ?_⟩; replace q0 := bb q0 hb; replace q1 := bb q1 hb; replace HB := bst HB hb; clear hb))
  go_ret2
  exact rt HB
end
section
/-! ### torchonref06_Times: function 37 -/
def torchonref06_Times.f (a0_0 : Int) (a0_1 : Int) (a0_2 : Int) (a0_3 : Int) (a1_0 : Int) (a1_1 : Int) (a1_2 : Int) (a1_3 : Int) : Option (Int × Int × Int × Int) := (some (wrap64 (a0_0 * a1_0))).bind fun q6 => ((some (wrap64 (a0_1 * a1_2))).bind fun q7 => ((some (wrap64 (q6 + q7))).bind fun q2 => ((some (wrap64 (a0_0 * a1_1))).bind fun q8 => ((some (wrap64 (a0_1 * a1_3))).bind fun q9 => ((some (wrap64 (q8 + q9))).bind fun q3 => ((some (wrap64 (a0_2 * a1_0))).bind fun qa => ((some (wrap64 (a0_3 * a1_2))).bind fun qb => ((some (wrap64 (qa + qb))).bind fun q4 => ((some (wrap64 (a0_2 * a1_1))).bind fun qc => ((some (wrap64 (a0_3 * a1_3))).bind fun qd => ((some (wrap64 (qc + qd))).bind fun q5 => (some (q2, q3, q4, q5)))))))))))))
set_option maxHeartbeats 8000000 in
set_option maxRecDepth 100000 in
theorem torchonref06_Times.calls (a0_0 : Int) (a0_1 : Int) (a0_2 : Int) (a0_3 : Int) (a1_0 : Int) (a1_1 : Int) (a1_2 : Int) (a1_3 : Int) (r1 : Int) (r2 : Int) (r3 : Int) (r4 : Int) (w : World) (h : torchonref06_Times.f a0_0 a0_1 a0_2 a0_3 a1_0 a1_1 a1_2 a1_3 = some (r1, r2, r3, r4)) :
  Calls Try.prog 37 #[.agg #[.int .i64 a0_0, .int .i64 a0_1, .int .i64 a0_2, .int .i64 a0_3], .agg #[.int .i64 a1_0, .int .i64 a1_1, .int .i64 a1_2, .int .i64 a1_3]] w fun e w' => e = .returned (.agg #[.int .i64 r1, .int .i64 r2, .int .i64 r3, .int .i64 r4]) ∧ Below w.heap.size w w' := by
 have hu25 := Try.underlying25
 have HB := Aside0.mk (Below.refl w.heap.size w)
 have H : ((some (wrap64 (a0_0 * a1_0))).bind fun q6 => ((some (wrap64 (a0_1 * a1_2))).bind fun q7 => ((some (wrap64 (q6 + q7))).bind fun q2 => ((some (wrap64 (a0_0 * a1_1))).bind fun q8 => ((some (wrap64 (a0_1 * a1_3))).bind fun q9 => ((some (wrap64 (q8 + q9))).bind fun q3 => ((some (wrap64 (a0_2 * a1_0))).bind fun qa => ((some (wrap64 (a0_3 * a1_2))).bind fun qb => ((some (wrap64 (qa + qb))).bind fun q4 => ((some (wrap64 (a0_2 * a1_1))).bind fun qc => ((some (wrap64 (a0_3 * a1_3))).bind fun qd => ((some (wrap64 (qc + qd))).bind fun q5 => (some (q2, q3, q4, q5)))))))))))))) = some (r1, r2, r3, r4) := h
 clear h
 obtain ⟨q6, E30, H⟩ := oc H
 have E3w : (IntKind.i64.wrap (a0_0 * a1_0)) = q6 := (i64_w _).trans E30
 obtain ⟨q7, E40, H⟩ := oc H
 have E4w : (IntKind.i64.wrap (a0_1 * a1_2)) = q7 := (i64_w _).trans E40
 obtain ⟨q2, E50, H⟩ := oc H
 have E5w : (IntKind.i64.wrap (q6 + q7)) = q2 := (i64_w _).trans E50
 obtain ⟨q8, E60, H⟩ := oc H
 have E6w : (IntKind.i64.wrap (a0_0 * a1_1)) = q8 := (i64_w _).trans E60
 obtain ⟨q9, E70, H⟩ := oc H
 have E7w : (IntKind.i64.wrap (a0_1 * a1_3)) = q9 := (i64_w _).trans E70
 obtain ⟨q3, E80, H⟩ := oc H
 have E8w : (IntKind.i64.wrap (q8 + q9)) = q3 := (i64_w _).trans E80
 obtain ⟨qa, E90, H⟩ := oc H
 have E9w : (IntKind.i64.wrap (a0_2 * a1_0)) = qa := (i64_w _).trans E90
 obtain ⟨qb, E100, H⟩ := oc H
 have E10w : (IntKind.i64.wrap (a0_3 * a1_2)) = qb := (i64_w _).trans E100
 obtain ⟨q4, E110, H⟩ := oc H
 have E11w : (IntKind.i64.wrap (qa + qb)) = q4 := (i64_w _).trans E110
 obtain ⟨qc, E120, H⟩ := oc H
 have E12w : (IntKind.i64.wrap (a0_2 * a1_1)) = qc := (i64_w _).trans E120
 obtain ⟨qd, E130, H⟩ := oc H
 have E13w : (IntKind.i64.wrap (a0_3 * a1_3)) = qd := (i64_w _).trans E130
 obtain ⟨q5, E140, H⟩ := oc H
 have E14w : (IntKind.i64.wrap (qc + qd)) = q5 := (i64_w _).trans E140
 simp only [Option.some.injEq, Prod.mk.injEq] at H
 obtain ⟨rfl, rfl, rfl, rfl⟩ := H
 go_enter Try.func37, Try.ntmps37
 go_wp2_with (first | ((with_reducible refine gate_dst (N := 2) rfl ?_); refine bx 2 #[.int .i64 a0_0, .int .i64 a0_1, .int .i64 a0_2, .int .i64 a0_3] 25 fun qs hg w15 q0 hb => ?_; have qp := gw hg HB; have qm := gw hg HB; replace HB := bst HB hb; clear hb hg) | ((with_reducible refine gate_dst (N := 3) rfl ?_); refine bx 3 #[.int .i64 a1_0, .int .i64 a1_1, .int .i64 a1_2, .int .i64 a1_3] 25 fun qt hg w16 q1 hb => ?_; have qq := gw hg HB; have qn := gw hg HB; have qg := nlt hg q0; have qi := ngt hg q0; replace q0 := bb q0 hb; replace HB := bst HB hb; clear hb hg) | ((with_reducible refine gate_dst (N := 4) rfl ?_); refine bx 4 #[.int .i64 0, .int .i64 0, .int .i64 0, .int .i64 0] 25 fun qe hg w17 qf hb => ?_; have qr := gw hg HB; have qo := gw hg HB; have qh := nlt hg q0; have qk := ngt hg q0; have qj := nlt hg q1; have ql := ngt hg q1; replace q0 := bb q0 hb; replace q1 := bb q1 hb; replace HB := bst HB hb; clear hb hg; have qS := qg.out; have qV := qi.out; have qT := qh.out; have qW := qk.out; have ⟨qu, qv, qw, qx, qG, qH, qI, qJ⟩ := cf4 q0; have qU := qj.out; have qX := ql.out; have ⟨qy, qz, qA, qB, qK, qL, qM, qN⟩ := cf4 q1; have ⟨qC, qD, qE, qF, qO, qP, qQ, qR⟩ := cf4 qf) | ((with_reducible refine gate_store (t := 25) (p := 4) rfl ?_); refine sx 25 4 (((((w17.setCell ⟨qe, 0, none⟩ (.int .i64 q2)).setCell ⟨qe, 1, none⟩ (.int .i64 q3)).setCell ⟨qe, 2, none⟩ (.int .i64 q4)).setCell ⟨qe, 3, none⟩ (.int .i64 q5))) fun w24 hw => ?_; replace q0 := fw hw q0; replace q1 := fw hw q1; replace qf := pw4 hw qf; replace HB := bw hw HB; clear hw))
 refine bodyPost_ret (results_cell_row rfl _ _ qe 25 #[.int .i64 q2, .int .i64 q3, .int .i64 q4, .int .i64 q5] (0, 0) _ rfl (pk qf) Try.underlying25 rfl (by kernel_rfl)) rfl ?_
 exact rt HB
end
section
/-! ### grids_valid: function 67 -/
def grids_valid.f (k : Nat) (a0_0 : Int) (a0_1 : Int) (a0_2 : Int) (a0_3 : Int) (a0_4 : Int) (a0_5 : Int) : Option (Int × Int × Int × Int × Int × Int × Int) := (grids_move.f k a0_0 a0_1 a0_2 a0_3 a0_4 a0_5).bind fun q3 => (if q3 = true then (some (a0_0, a0_1, a0_2, a0_3, a0_4, a0_5, 0)) else (some (0, 0, 0, 0, 0, 0, 7)))
theorem grids_valid.mono : ∀ a0 a1 a2 a3 a4 a5 k, LeO (grids_valid.f k a0 a1 a2 a3 a4 a5) (grids_valid.f (k + 1) a0 a1 a2 a3 a4 a5) := by
 intro a0 a1 a2 a3 a4 a5 k
 unfold grids_valid.f
 repeat' first
   | (with_reducible exact grids_move.mono _ _ _ _ _ _ _)
   | (with_reducible exact LeO.refl _)
   | (with_reducible exact LeO.none _)
   | (with_reducible refine LeO.ite ?_ ?_)
   | (with_reducible refine LeO.bind ?_ (fun _ => ?_))
   | exact grids_move.mono _ _ _ _ _ _ _
   | exact LeO.none _
   | refine LeO.ite ?_ ?_
   | refine LeO.bind ?_ (fun _ => ?_)
set_option maxHeartbeats 8000000 in
set_option maxRecDepth 100000 in
theorem grids_valid.calls (k : Nat) (a0_0 : Int) (a0_1 : Int) (a0_2 : Int) (a0_3 : Int) (a0_4 : Int) (a0_5 : Int) (r1 : Int) (r2 : Int) (r3 : Int) (r4 : Int) (r5 : Int) (r6 : Int) (r7 : Int) (w : World) (h : grids_valid.f k a0_0 a0_1 a0_2 a0_3 a0_4 a0_5 = some (r1, r2, r3, r4, r5, r6, r7)) :
  Calls Try.prog 67 #[.agg #[.int .i64 a0_0, .int .i64 a0_1, .int .i64 a0_2, .int .i64 a0_3, .int .i64 a0_4, .int .i64 a0_5]] w fun e w' => e = .returned (.tuple #[.agg #[.int .i64 r1, .int .i64 r2, .int .i64 r3, .int .i64 r4, .int .i64 r5, .int .i64 r6], .int .i64 r7]) ∧ Below w.heap.size w w' := by
 have hu55 := Try.underlying55
 have HB := Aside0.mk (Below.refl w.heap.size w)
 have H : ((grids_move.f k a0_0 a0_1 a0_2 a0_3 a0_4 a0_5).bind fun q3 => (if q3 = true then (some (a0_0, a0_1, a0_2, a0_3, a0_4, a0_5, 0)) else (some (0, 0, 0, 0, 0, 0, 7)))) = some (r1, r2, r3, r4, r5, r6, r7) := h
 clear h
 obtain ⟨q3, A2, H⟩ := ob H
 by_cases c3 : q3 = true
 ·subst c3
  have H1 : (some (a0_0, a0_1, a0_2, a0_3, a0_4, a0_5, 0)) = some (r1, r2, r3, r4, r5, r6, r7) := by rw [if_pos rfl] at H; exact H
  clear H
  have H := H1
  clear H1
  simp only [Option.some.injEq, Prod.mk.injEq] at H
  obtain ⟨rfl, rfl, rfl, rfl, rfl, rfl, rfl⟩ := H
  go_enter Try.func67, Try.ntmps67
  go_wp2_with (first | ((with_reducible refine gate_dst (N := 1) rfl ?_); refine bx 1 #[.int .i64 a0_0, .int .i64 a0_1, .int .i64 a0_2, .int .i64 a0_3, .int .i64 a0_4, .int .i64 a0_5] 55 fun qa hg w4 q0 hb => ?_; have q8 := gw hg HB; have q6 := gw hg HB; replace HB := bst HB hb; clear hb hg) | ((with_reducible refine gate_dst (N := 2) rfl ?_); refine bx 2 #[.int .i64 0, .int .i64 0, .int .i64 0, .int .i64 0, .int .i64 0, .int .i64 0] 55 fun q1 hg w5 q2 hb => ?_; have q9 := gw hg HB; have q7 := gw hg HB; have q4 := nlt hg q0; have q5 := ngt hg q0; replace q0 := bb q0 hb; replace HB := bst HB hb; clear hb hg; have ja := q4.out; have jc := q5.out; have ⟨qt, qu, qv, qw, qx, qy, qX, qY, qZ, j0, j1, j2⟩ := cf6 q0) | ((with_reducible refine gate_callee (f := 62) rfl ?_); refine gl 5 Try.func62 (grids_move.calls k a0_0 a0_1 a0_2 a0_3 a0_4 a0_5 true _ A2.out) ?_; rintro e w8 ⟨rfl, hb⟩; refine ⟨_, rfl, ?_⟩; replace q0 := bb q0 hb; replace q2 := bb q2 hb; replace HB := bst HB hb; clear hb; have ⟨qz, qA, qB, qC, qD, qE, j3, j4, j5, j6, j7, j8⟩ := cf6 q0; have ⟨qb, qc, qd, qe, qf, qg, qF, qG, qH, qI, qJ, qK⟩ := cf6 q2) | ((with_reducible refine gate_store (t := 55) (p := 2) rfl ?_); refine sx 55 2 (((((((w8.setCell ⟨q1, 0, none⟩ (.int .i64 a0_0)).setCell ⟨q1, 1, none⟩ (.int .i64 a0_1)).setCell ⟨q1, 2, none⟩ (.int .i64 a0_2)).setCell ⟨q1, 3, none⟩ (.int .i64 a0_3)).setCell ⟨q1, 4, none⟩ (.int .i64 a0_4)).setCell ⟨q1, 5, none⟩ (.int .i64 a0_5))) fun w11 hw => ?_; replace q0 := fw hw q0; replace q2 := pw6 hw q2; replace HB := bw hw HB; clear hw))
  refine bodyPost_ret (results_ct rfl _ _ q1 55 #[.int .i64 a0_0, .int .i64 a0_1, .int .i64 a0_2, .int .i64 a0_3, .int .i64 a0_4, .int .i64 a0_5] (0, 0) _ rfl (pk q2) Try.underlying55 rfl (by kernel_rfl)) rfl ?_
  exact rt HB
 ·replace c3 := Bool.eq_false_iff.mpr c3
  subst c3
  have H1 : (some (0, 0, 0, 0, 0, 0, 7)) = some (r1, r2, r3, r4, r5, r6, r7) := by rw [if_neg (show ¬ (false = true) by decide)] at H; exact H
  clear H
  have H := H1
  clear H1
  simp only [Option.some.injEq, Prod.mk.injEq] at H
  obtain ⟨rfl, rfl, rfl, rfl, rfl, rfl, rfl⟩ := H
  go_enter Try.func67, Try.ntmps67
  go_wp2_with (first | ((with_reducible refine gate_dst (N := 1) rfl ?_); refine bx 1 #[.int .i64 a0_0, .int .i64 a0_1, .int .i64 a0_2, .int .i64 a0_3, .int .i64 a0_4, .int .i64 a0_5] 55 fun qa hg w12 q0 hb => ?_; have q8 := gw hg HB; have q6 := gw hg HB; replace HB := bst HB hb; clear hb hg) | ((with_reducible refine gate_dst (N := 2) rfl ?_); refine bx 2 #[.int .i64 0, .int .i64 0, .int .i64 0, .int .i64 0, .int .i64 0, .int .i64 0] 55 fun q1 hg w13 q2 hb => ?_; have q9 := gw hg HB; have q7 := gw hg HB; have q4 := nlt hg q0; have q5 := ngt hg q0; replace q0 := bb q0 hb; replace HB := bst HB hb; clear hb hg; have j9 := q4.out; have jb := q5.out; have ⟨qh, qi, qj, qk, ql, qm, qL, qM, qN, qO, qP, qQ⟩ := cf6 q0) | ((with_reducible refine gate_callee (f := 62) rfl ?_); refine gl 5 Try.func62 (grids_move.calls k a0_0 a0_1 a0_2 a0_3 a0_4 a0_5 false _ A2.out) ?_; rintro e w16 ⟨rfl, hb⟩; refine ⟨_, rfl, ?_⟩; replace q0 := bb q0 hb; replace q2 := bb q2 hb; replace HB := bst HB hb; clear hb; have ⟨qn, qo, qp, qq, qr, qs, qR, qS, qT, qU, qV, qW⟩ := cf6 q2) | ((with_reducible refine gate_store (t := 55) (p := 2) rfl ?_); refine sx 55 2 (((((((w16.setCell ⟨q1, 0, none⟩ (.int .i64 0)).setCell ⟨q1, 1, none⟩ (.int .i64 0)).setCell ⟨q1, 2, none⟩ (.int .i64 0)).setCell ⟨q1, 3, none⟩ (.int .i64 0)).setCell ⟨q1, 4, none⟩ (.int .i64 0)).setCell ⟨q1, 5, none⟩ (.int .i64 0))) fun w18 hw => ?_; replace q0 := fw hw q0; replace q2 := pw6 hw q2; replace HB := bw hw HB; clear hw))
  refine bodyPost_ret (results_ct rfl _ _ q1 55 #[.int .i64 0, .int .i64 0, .int .i64 0, .int .i64 0, .int .i64 0, .int .i64 0] (0, 0) _ rfl (pk q2) Try.underlying55 rfl (by kernel_rfl)) rfl ?_
  exact rt HB
end
section
/-! ### grids_Invert: function 31 -/
def grids_Invert.j0 : Nat → Bool → Int → Int → Int → Int → Int → Int → Option (Int × Int × Int × Int × Int × Int × Int)
 | 0, _, _, _, _, _, _, _ => none
 | k + 1, x19, x920000, x920001, x920002, x920003, x920004, x920005 => if x19 = true then (some (0, 0, 0, 0, 0, 0, 6)) else ((grids_inverse.f x920000 x920001 x920002 x920003).bind fun q4 => ((grids_image.f q4.1 q4.2.1 q4.2.2.1 q4.2.2.2 0 0 x920004 x920005).bind fun qi => ((some (wrap64 (-qi.1))).bind fun q8 => ((some (wrap64 (-qi.2))).bind fun qa => ((grids_valid.f k q4.1 q4.2.1 q4.2.2.1 q4.2.2.2 q8 qa).bind fun q6 => (some (q6.1, q6.2.1, q6.2.2.1, q6.2.2.2.1, q6.2.2.2.2.1, q6.2.2.2.2.2.1, q6.2.2.2.2.2.2)))))))
def grids_Invert.f (k : Nat) (a0_0 : Int) (a0_1 : Int) (a0_2 : Int) (a0_3 : Int) (a0_4 : Int) (a0_5 : Int) : Option (Int × Int × Int × Int × Int × Int × Int) := (grids_move.f k a0_0 a0_1 a0_2 a0_3 a0_4 a0_5).bind fun qj => (if qj = true then ((grids_det.f a0_0 a0_1 a0_2 a0_3).bind fun q5 => (if q5 = 1 then (grids_Invert.j0 k false a0_0 a0_1 a0_2 a0_3 a0_4 a0_5) else (grids_Invert.j0 k (q5 != (-1)) a0_0 a0_1 a0_2 a0_3 a0_4 a0_5))) else (some (0, 0, 0, 0, 0, 0, 2)))
theorem grids_Invert.mono_l : ∀ k, (∀ y0 y1 y2 y3 y4 y5 y6, LeO (grids_Invert.j0 k y0 y1 y2 y3 y4 y5 y6) (grids_Invert.j0 (k + 1) y0 y1 y2 y3 y4 y5 y6))
 | 0 => fun _ _ _ _ _ _ _ r h => by simp [grids_Invert.j0] at h
 | k + 1 => by
  have ih0 := grids_Invert.mono_l k
  ·intro y0 y1 y2 y3 y4 y5 y6
   unfold grids_Invert.j0
   repeat' first
   | (with_reducible exact ih0 _ _ _ _ _ _ _)
   | (with_reducible exact grids_move.mono _ _ _ _ _ _ _)
   | (with_reducible exact grids_valid.mono _ _ _ _ _ _ _)
   | (with_reducible exact LeO.refl _)
   | (with_reducible exact LeO.none _)
   | (with_reducible refine LeO.ite ?_ ?_)
   | (with_reducible refine LeO.bind ?_ (fun _ => ?_))
   | exact ih0 _ _ _ _ _ _ _
   | exact grids_move.mono _ _ _ _ _ _ _
   | exact grids_valid.mono _ _ _ _ _ _ _
   | exact LeO.none _
   | refine LeO.ite ?_ ?_
   | refine LeO.bind ?_ (fun _ => ?_)
theorem grids_Invert.mono : ∀ a0 a1 a2 a3 a4 a5 k, LeO (grids_Invert.f k a0 a1 a2 a3 a4 a5) (grids_Invert.f (k + 1) a0 a1 a2 a3 a4 a5) := by
 intro a0 a1 a2 a3 a4 a5 k
 have ih0 := grids_Invert.mono_l k
 unfold grids_Invert.f
 repeat' first
   | (with_reducible exact ih0 _ _ _ _ _ _ _)
   | (with_reducible exact grids_move.mono _ _ _ _ _ _ _)
   | (with_reducible exact grids_valid.mono _ _ _ _ _ _ _)
   | (with_reducible exact LeO.refl _)
   | (with_reducible exact LeO.none _)
   | (with_reducible refine LeO.ite ?_ ?_)
   | (with_reducible refine LeO.bind ?_ (fun _ => ?_))
   | exact ih0 _ _ _ _ _ _ _
   | exact grids_move.mono _ _ _ _ _ _ _
   | exact grids_valid.mono _ _ _ _ _ _ _
   | exact LeO.none _
   | refine LeO.ite ?_ ?_
   | refine LeO.bind ?_ (fun _ => ?_)
set_option maxHeartbeats 8000000 in
set_option maxRecDepth 100000 in
theorem grids_Invert.calls (k : Nat) (a0_0 : Int) (a0_1 : Int) (a0_2 : Int) (a0_3 : Int) (a0_4 : Int) (a0_5 : Int) (r1 : Int) (r2 : Int) (r3 : Int) (r4 : Int) (r5 : Int) (r6 : Int) (r7 : Int) (w : World) (h : grids_Invert.f k a0_0 a0_1 a0_2 a0_3 a0_4 a0_5 = some (r1, r2, r3, r4, r5, r6, r7)) :
  Calls Try.prog 31 #[.agg #[.int .i64 a0_0, .int .i64 a0_1, .int .i64 a0_2, .int .i64 a0_3, .int .i64 a0_4, .int .i64 a0_5]] w fun e w' => e = .returned (.tuple #[.agg #[.int .i64 r1, .int .i64 r2, .int .i64 r3, .int .i64 r4, .int .i64 r5, .int .i64 r6], .int .i64 r7]) ∧ Below w.heap.size w w' := by
 have hu55 := Try.underlying55
 have hu25 := Try.underlying25
 have hu37 := Try.underlying37
 have HB := Aside0.mk (Below.refl w.heap.size w)
 have H : ((grids_move.f k a0_0 a0_1 a0_2 a0_3 a0_4 a0_5).bind fun qj => (if qj = true then ((grids_det.f a0_0 a0_1 a0_2 a0_3).bind fun q5 => (if q5 = 1 then (grids_Invert.j0 k false a0_0 a0_1 a0_2 a0_3 a0_4 a0_5) else (grids_Invert.j0 k (q5 != (-1)) a0_0 a0_1 a0_2 a0_3 a0_4 a0_5))) else (some (0, 0, 0, 0, 0, 0, 2)))) = some (r1, r2, r3, r4, r5, r6, r7) := h
 clear h
 obtain ⟨qj, A2, H⟩ := ob H
 by_cases c3 : qj = true
 ·subst c3
  have H1 : ((grids_det.f a0_0 a0_1 a0_2 a0_3).bind fun q5 => (if q5 = 1 then (grids_Invert.j0 k false a0_0 a0_1 a0_2 a0_3 a0_4 a0_5) else (grids_Invert.j0 k (q5 != (-1)) a0_0 a0_1 a0_2 a0_3 a0_4 a0_5))) = some (r1, r2, r3, r4, r5, r6, r7) := by rw [if_pos rfl] at H; exact H
  clear H
  have H := H1
  clear H1
  obtain ⟨q5, A4, H⟩ := ob H
  have HC5 := Aside0.mk H
  clear H
  go_enter Try.func31, Try.ntmps31
  go_upto_region 4 with (first | ((with_reducible refine gate_dst (N := 1) rfl ?_); refine bx 1 #[.int .i64 a0_0, .int .i64 a0_1, .int .i64 a0_2, .int .i64 a0_3, .int .i64 a0_4, .int .i64 a0_5] 55 fun qw hg w6 q0 hb => ?_; have qz := gw hg HB; have qx := gw hg HB; replace HB := bst HB hb; clear hb hg) | ((with_reducible refine gate_dst (N := 2) rfl ?_); refine bx 2 #[.int .i64 0, .int .i64 0, .int .i64 0, .int .i64 0, .int .i64 0, .int .i64 0] 55 fun q2 hg w7 q1 hb => ?_; have qA := gw hg HB; have qy := gw hg HB; have qg := nlt hg q0; have qh := ngt hg q0; replace q0 := bb q0 hb; replace HB := bst HB hb; clear hb hg; have Qm := qg.out; have Qv := qh.out; have ⟨qP, qQ, qR, qS, qT, qU, j1, j2, j3, j4, j5, j6⟩ := cf6 q0) | ((with_reducible refine gate_callee (f := 62) rfl ?_); refine gl 8 Try.func62 (grids_move.calls k a0_0 a0_1 a0_2 a0_3 a0_4 a0_5 true _ A2.out) ?_; rintro e w10 ⟨rfl, hb⟩; refine ⟨_, rfl, ?_⟩; replace q0 := bb q0 hb; replace q1 := bb q1 hb; replace HB := bst HB hb; clear hb; have ⟨qJ, qK, qL, qM, qN, qO, qV, qW, qX, qY, qZ, j0⟩ := cf6 q0) | ((with_reducible refine gate_callee (f := 68) rfl ?_); refine gl 13 Try.func68 (grids_det.calls a0_0 a0_1 a0_2 a0_3 q5 _ A4.out) ?_; rintro e w12 ⟨rfl, hb⟩; refine ⟨_, rfl, ?_⟩; replace q0 := bb q0 hb; replace q1 := bb q1 hb; replace HB := bst HB hb; clear hb))
  (try simp only [Act.put, List.setIfInBounds_toArray, List.set_cons_zero, List.set_cons_succ])
  go_cut [19] (fun v19 wc => ∃ (kq : Nat) (x19_4 : Bool), v19 = .bool x19_4 ∧ Aside0 (grids_Invert.j0 kq x19_4 a0_0 a0_1 a0_2 a0_3 a0_4 a0_5 = some (r1, r2, r3, r4, r5, r6, r7)) ∧ Aside0 (kq ≤ k) ∧ Aside0 (wc.heap[qw]? = some (.cells #[.int .i64 a0_0, .int .i64 a0_1, .int .i64 a0_2, .int .i64 a0_3, .int .i64 a0_4, .int .i64 a0_5] 55 (0, 0))) ∧ Aside0 (wc.heap[q2]? = some (.cells #[.int .i64 0, .int .i64 0, .int .i64 0, .int .i64 0, .int .i64 0, .int .i64 0] 55 (0, 0))) ∧ Aside0 (Below w.heap.size w wc))
  case first =>
   have H := HC5.out
   clear HC5
   by_cases c13 : q5 = 1
   ·rw [if_pos c13] at H
    have qf : (q5 == 1) = true := beq_iff_eq.mpr c13
    have qv : (q5 != 1) = false := bne_eq_false_iff_eq.mpr c13
    clear c13
    (first | rw [qf] | (simp only [i64_w, i32_w]; rw [qf]) | skip)
    have H' := Aside0.mk H
    clear H
    go_wp2
    go_meet
    case rel => exact ⟨_, (false), (by first | rfl | (simp; done) | (simp [*]; done)), H', ⟨by first | omega | exact Nat.le_refl _⟩, ⟨pk q0⟩, ⟨pk q1⟩, ⟨bnow HB⟩⟩
   ·rw [if_neg c13] at H
    have qf : (q5 == 1) = false := beq_eq_false_iff_ne.mpr c13
    have qv : (q5 != 1) = true := bne_iff_ne.mpr c13
    (first | rw [qf] | (simp only [i64_w, i32_w]; rw [qf]) | skip)
    have H' := Aside0.mk H
    clear H
    go_wp2
    go_meet
    case rel => exact ⟨_, ((q5 != (-1))), (by first | rfl | (simp; done) | (simp [*]; done)), H', ⟨by first | omega | exact Nat.le_refl _⟩, ⟨pk q0⟩, ⟨pk q1⟩, ⟨bnow HB⟩⟩
  case rest =>
   clear HC5
   try clear c1; try clear p2; try clear c3; try clear c6; try clear c8; try clear c13; try clear qf; try clear qv; try clear qJ; try clear qK; try clear qL; try clear qM; try clear qN; try clear qO; try clear qP; try clear qQ; try clear qR; try clear qS; try clear qT; try clear qU; try clear qV; try clear qW; try clear qX; try clear qY; try clear qZ; try clear j0; try clear j1; try clear j2; try clear j3; try clear j4; try clear j5; try clear j6
   obtain ⟨kq, x19_4, rfl, HA, HJ4, q0, q1, HB⟩ := hcut
   cases kq with
   | zero => exact absurd HA.out (by simp [grids_Invert.j0])
   | succ kj4 =>
    have H := HA.out
    clear HA
    simp only [grids_Invert.j0] at H
    by_cases c14 : x19_4 = true
    ·subst c14
     have H1 : (some (0, 0, 0, 0, 0, 0, 6)) = some (r1, r2, r3, r4, r5, r6, r7) := by rw [if_pos rfl] at H; exact H
     clear H
     have H := H1
     clear H1
     simp only [Option.some.injEq, Prod.mk.injEq] at H
     obtain ⟨rfl, rfl, rfl, rfl, rfl, rfl, rfl⟩ := H
     have Qe := qh.out
     have Qn := qg.out
     have ⟨jc, jd, je, jf, jg, jh, gc, gd, ge, gf, gg, gh⟩ := cf6 q1
     go_wp2_with (first | ((with_reducible refine gate_store (t := 55) (p := 2) rfl ?_); refine sx 55 2 (((((((wc.setCell ⟨q2, 0, none⟩ (.int .i64 0)).setCell ⟨q2, 1, none⟩ (.int .i64 0)).setCell ⟨q2, 2, none⟩ (.int .i64 0)).setCell ⟨q2, 3, none⟩ (.int .i64 0)).setCell ⟨q2, 4, none⟩ (.int .i64 0)).setCell ⟨q2, 5, none⟩ (.int .i64 0))) fun w17 hw => ?_; replace q0 := fw hw q0; replace q1 := pw6 hw q1; replace HB := bw hw HB; clear hw))
     refine bodyPost_ret (results_ct rfl _ _ q2 55 #[.int .i64 0, .int .i64 0, .int .i64 0, .int .i64 0, .int .i64 0, .int .i64 0] (0, 0) _ rfl (pk q1) Try.underlying55 rfl (by kernel_rfl)) rfl ?_
     exact rt HB
    ·replace c14 := Bool.eq_false_iff.mpr c14
     subst c14
     have H1 : ((grids_inverse.f a0_0 a0_1 a0_2 a0_3).bind fun q4 => ((grids_image.f q4.1 q4.2.1 q4.2.2.1 q4.2.2.2 0 0 a0_4 a0_5).bind fun qi => ((some (wrap64 (-qi.1))).bind fun q8 => ((some (wrap64 (-qi.2))).bind fun qa => ((grids_valid.f kj4 q4.1 q4.2.1 q4.2.2.1 q4.2.2.2 q8 qa).bind fun q6 => (some (q6.1, q6.2.1, q6.2.2.1, q6.2.2.2.1, q6.2.2.2.2.1, q6.2.2.2.2.2.1, q6.2.2.2.2.2.2))))))) = some (r1, r2, r3, r4, r5, r6, r7) := by rw [if_neg (show ¬ (false = true) by decide)] at H; exact H
     clear H
     have H := H1
     clear H1
     obtain ⟨⟨qb, qc, qd, qe⟩, A18, H⟩ := ob H
     obtain ⟨⟨qk, ql⟩, A19, H⟩ := ob H
     obtain ⟨q8, E200, H⟩ := oc H
     have E20w : (IntKind.i64.wrap (-qk)) = q8 := (i64_w _).trans E200
     obtain ⟨qa, E210, H⟩ := oc H
     have E21w : (IntKind.i64.wrap (-ql)) = qa := (i64_w _).trans E210
     obtain ⟨⟨qp, qq, qr, qs, qt, qu, j7⟩, A22, H⟩ := ob H
     simp only [Option.some.injEq, Prod.mk.injEq] at H
     obtain ⟨rfl, rfl, rfl, rfl, rfl, rfl, rfl⟩ := H
     have Qf := qg.out
     have Qo := qh.out
     have ⟨ji, jj, jk, jl, jm, jn, gi, gj, gk, gm, gn, go⟩ := cf6 q0
     go_wp2_with (first | ((with_reducible refine gate_callee (f := 57) rfl ?_); refine gl 23 Try.func57 (grids_inverse.calls a0_0 a0_1 a0_2 a0_3 qb qc qd qe _ A18.out) ?_; rintro e w25 ⟨rfl, hb⟩; refine ⟨_, rfl, ?_⟩; replace q0 := bb q0 hb; replace q1 := bb q1 hb; replace HB := bst HB hb; clear hb) | ((with_reducible refine gate_dst (N := 5) rfl ?_); refine bx 5 #[.int .i64 0, .int .i64 0, .int .i64 0, .int .i64 0, .int .i64 0, .int .i64 0] 55 fun q7 hg w26 q3 hb => ?_; have ja := gw hg HB; have j8 := gw hg HB; have qB := nlt hg q0; have qF := ngt hg q0; have qD := nlt hg q1; have qG := ngt hg q1; replace q0 := bb q0 hb; replace q1 := bb q1 hb; replace HB := bst HB hb; clear hb hg; have Qg := qF.out; have Qp := qB.out; have Qh := qG.out; have Qq := qD.out; have ⟨jo, jp, jq, jr, js, jt, gp, gq, gr, gs, gt, gu⟩ := cf6 q3) | ((with_reducible refine gate_store (t := 55) (p := 5) rfl ?_); refine sx 55 5 (((((((w26.setCell ⟨q7, 0, none⟩ (.int .i64 qb)).setCell ⟨q7, 1, none⟩ (.int .i64 qc)).setCell ⟨q7, 2, none⟩ (.int .i64 qd)).setCell ⟨q7, 3, none⟩ (.int .i64 qe)).setCell ⟨q7, 4, none⟩ (.int .i64 0)).setCell ⟨q7, 5, none⟩ (.int .i64 0))) fun w30 hw => ?_; replace q0 := fw hw q0; replace q1 := fw hw q1; replace q3 := pw6 hw q3; replace HB := bw hw HB; clear hw; have ⟨ju, jv, jw, jx, jy, jz, gv, gx, gy, gz, gA, gB⟩ := cf6 q3; have ⟨jA, jB, jC, jD, jE, jF, gC, gD, gE, gF, gG, gH⟩ := cf6 q0) | ((with_reducible refine gate_callee (f := 63) rfl ?_); refine gl 28 Try.func63 (grids_image.calls qb qc qd qe 0 0 a0_4 a0_5 qk ql _ A19.out) ?_; rintro e w33 ⟨rfl, hb⟩; refine ⟨_, rfl, ?_⟩; replace q0 := bb q0 hb; replace q1 := bb q1 hb; replace q3 := bb q3 hb; replace HB := bst HB hb; clear hb) | ((with_reducible refine gate_dst (N := 6) rfl ?_); refine bx 6 #[.int .i64 0, .int .i64 0] 37 fun qo hg w34 q9 hb => ?_; have jb := gw hg HB; have j9 := gw hg HB; have qC := nlt hg q0; have qH := ngt hg q0; have qE := nlt hg q1; have qI := ngt hg q1; have qm := nlt hg q3; have qn := ngt hg q3; replace q0 := bb q0 hb; replace q1 := bb q1 hb; replace q3 := bb q3 hb; replace HB := bst HB hb; clear hb hg; have Qi := qH.out; have Qr := qC.out; have Qj := qI.out; have Qs := qE.out; have Qk := qn.out; have Qt := qm.out; have ⟨jG, jH, gI, gJ⟩ := cf2 q9; have ⟨jI, jJ, jK, jL, jM, jN, gK, gL, gM, gN, gO, gP⟩ := cf6 q3) | ((with_reducible refine gate_store (t := 37) (p := 36) rfl ?_); refine sx 37 36 (((((w34.setCell ⟨qo, 0, none⟩ (.int .i64 qk)).setCell ⟨qo, 1, none⟩ (.int .i64 ql)).setCell ⟨q7, 4, none⟩ (.int .i64 q8)).setCell ⟨q7, 5, none⟩ (.int .i64 qa))) fun w40 hw => ?_; have n0_ := fw hw q0; have n1_ := fw hw q1; have n2_ : Aside0 (w40.heap[q7]? = some (.cells #[.int .i64 qb, .int .i64 qc, .int .i64 qd, .int .i64 qe, .int .i64 q8, .int .i64 qa] 55 (0, 0))) := ⟨(by rw [hw]; exact (by (with_reducible repeat (first | refine blk_drewN ?_ _ | refine blk_drew ?_ | refine blk_alloc ?_ _)); refine blk_put (cs := #[.int .i64 qb, .int .i64 qc, .int .i64 qd, .int .i64 qe, .int .i64 q8, .int .i64 0]) ?_ 5 _ rfl; (with_reducible repeat (first | refine blk_drewN ?_ _ | refine blk_drew ?_ | refine blk_alloc ?_ _)); refine blk_put (cs := #[.int .i64 qb, .int .i64 qc, .int .i64 qd, .int .i64 qe, .int .i64 0, .int .i64 0]) ?_ 4 _ rfl; (with_reducible repeat (first | refine blk_drewN ?_ _ | refine blk_drew ?_ | refine blk_alloc ?_ _)); refine blk_far ?_ qm.out _; (with_reducible repeat (first | refine blk_drewN ?_ _ | refine blk_drew ?_ | refine blk_alloc ?_ _)); refine blk_far ?_ qm.out _; (with_reducible repeat (first | refine blk_drewN ?_ _ | refine blk_drew ?_ | refine blk_alloc ?_ _)); exact q3.out))⟩; have n3_ : Aside0 (w40.heap[qo]? = some (.cells #[.int .i64 qk, .int .i64 ql] 37 (0, 0))) := ⟨(by rw [hw]; exact (by (with_reducible repeat (first | refine blk_drewN ?_ _ | refine blk_drew ?_ | refine blk_alloc ?_ _)); refine blk_far ?_ qn.out _; (with_reducible repeat (first | refine blk_drewN ?_ _ | refine blk_drew ?_ | refine blk_alloc ?_ _)); refine blk_far ?_ qn.out _; (with_reducible repeat (first | refine blk_drewN ?_ _ | refine blk_drew ?_ | refine blk_alloc ?_ _)); refine blk_put (cs := #[.int .i64 qk, .int .i64 0]) ?_ 1 _ rfl; (with_reducible repeat (first | refine blk_drewN ?_ _ | refine blk_drew ?_ | refine blk_alloc ?_ _)); refine blk_put (cs := #[.int .i64 0, .int .i64 0]) ?_ 0 _ rfl; (with_reducible repeat (first | refine blk_drewN ?_ _ | refine blk_drew ?_ | refine blk_alloc ?_ _)); exact q9.out))⟩; have n4_ := bw hw HB; clear hw; clear q0; clear q1; clear q3; clear q9; clear HB; have q0 := n0_; have q1 := n1_; have q3 := n2_; have q9 := n3_; have HB := n4_; clear n0_ n1_ n2_ n3_ n4_; have ⟨jO, jP, jQ, jR, jS, jT, gQ, gR, gS, gT, gU, gV⟩ := cf6 q3) | ((with_reducible refine gate_callee (f := 67) rfl ?_); refine gl 38 Try.func67 (grids_valid.calls kj4 qb qc qd qe q8 qa qp qq qr qs qt qu j7 _ A22.out) ?_; rintro e w42 ⟨rfl, hb⟩; refine ⟨_, rfl, ?_⟩; replace q0 := bb q0 hb; replace q1 := bb q1 hb; replace q3 := bb q3 hb; replace q9 := bb q9 hb; replace HB := bst HB hb; clear hb; have ⟨jU, jV, jW, jX, jY, jZ, gW, gX, gY, gZ, Q0, Q1⟩ := cf6 q1) | ((with_reducible refine gate_store (t := 55) (p := 2) rfl ?_); refine sx 55 2 (((((((w42.setCell ⟨q2, 0, none⟩ (.int .i64 qp)).setCell ⟨q2, 1, none⟩ (.int .i64 qq)).setCell ⟨q2, 2, none⟩ (.int .i64 qr)).setCell ⟨q2, 3, none⟩ (.int .i64 qs)).setCell ⟨q2, 4, none⟩ (.int .i64 qt)).setCell ⟨q2, 5, none⟩ (.int .i64 qu))) fun w44 hw => ?_; replace q0 := fw hw q0; replace q1 := pw6 hw q1; replace q3 := fw hw q3; replace q9 := fw hw q9; replace HB := bw hw HB; clear hw))
     refine bodyPost_ret (results_ct rfl _ _ q2 55 #[.int .i64 qp, .int .i64 qq, .int .i64 qr, .int .i64 qs, .int .i64 qt, .int .i64 qu] (0, 0) _ rfl (pk q1) Try.underlying55 rfl (by kernel_rfl)) rfl ?_
     exact rt HB
 ·replace c3 := Bool.eq_false_iff.mpr c3
  subst c3
  have H1 : (some (0, 0, 0, 0, 0, 0, 2)) = some (r1, r2, r3, r4, r5, r6, r7) := by rw [if_neg (show ¬ (false = true) by decide)] at H; exact H
  clear H
  have H := H1
  clear H1
  simp only [Option.some.injEq, Prod.mk.injEq] at H
  obtain ⟨rfl, rfl, rfl, rfl, rfl, rfl, rfl⟩ := H
  go_enter Try.func31, Try.ntmps31
  go_wp2_with (first | ((with_reducible refine gate_dst (N := 1) rfl ?_); refine bx 1 #[.int .i64 a0_0, .int .i64 a0_1, .int .i64 a0_2, .int .i64 a0_3, .int .i64 a0_4, .int .i64 a0_5] 55 fun qw hg w45 q0 hb => ?_; have qz := gw hg HB; have qx := gw hg HB; replace HB := bst HB hb; clear hb hg) | ((with_reducible refine gate_dst (N := 2) rfl ?_); refine bx 2 #[.int .i64 0, .int .i64 0, .int .i64 0, .int .i64 0, .int .i64 0, .int .i64 0] 55 fun q2 hg w46 q1 hb => ?_; have qA := gw hg HB; have qy := gw hg HB; have qg := nlt hg q0; have qh := ngt hg q0; replace q0 := bb q0 hb; replace HB := bst HB hb; clear hb hg; have Ql := qg.out; have Qu := qh.out; have ⟨g0, g1, g2, g3, g4, g5, Q2, Q3, Q4, Q5, Q6, Q7⟩ := cf6 q0) | ((with_reducible refine gate_callee (f := 62) rfl ?_); refine gl 8 Try.func62 (grids_move.calls k a0_0 a0_1 a0_2 a0_3 a0_4 a0_5 false _ A2.out) ?_; rintro e w49 ⟨rfl, hb⟩; refine ⟨_, rfl, ?_⟩; replace q0 := bb q0 hb; replace q1 := bb q1 hb; replace HB := bst HB hb; clear hb; have ⟨g6, g7, g8, g9, ga, gb, Q8, Q9, Qa, Qb, Qc, Qd⟩ := cf6 q1) | ((with_reducible refine gate_store (t := 55) (p := 2) rfl ?_); refine sx 55 2 (((((((w49.setCell ⟨q2, 0, none⟩ (.int .i64 0)).setCell ⟨q2, 1, none⟩ (.int .i64 0)).setCell ⟨q2, 2, none⟩ (.int .i64 0)).setCell ⟨q2, 3, none⟩ (.int .i64 0)).setCell ⟨q2, 4, none⟩ (.int .i64 0)).setCell ⟨q2, 5, none⟩ (.int .i64 0))) fun w51 hw => ?_; replace q0 := fw hw q0; replace q1 := pw6 hw q1; replace HB := bw hw HB; clear hw))
  refine bodyPost_ret (results_ct rfl _ _ q2 55 #[.int .i64 0, .int .i64 0, .int .i64 0, .int .i64 0, .int .i64 0, .int .i64 0] (0, 0) _ rfl (pk q1) Try.underlying55 rfl (by kernel_rfl)) rfl ?_
  exact rt HB
end
section
/-! ### torchonlaw06_near: function 35 -/
def torchonlaw06_near.f (a0_0 : Int) (a0_1 : Int) : Option (Int × Int) := (some (Int.tmod a0_0 11)).bind fun q2 => ((some (Int.tmod a0_1 11)).bind fun q3 => ((torchonlaw06_pt.f q2 q3).bind fun q1 => (some (q1.1, q1.2))))
set_option maxHeartbeats 8000000 in
set_option maxRecDepth 100000 in
theorem torchonlaw06_near.calls (a0_0 : Int) (a0_1 : Int) (r1 : Int) (r2 : Int) (w : World) (h : torchonlaw06_near.f a0_0 a0_1 = some (r1, r2)) :
  Calls Try.prog 35 #[.agg #[.int .i64 a0_0, .int .i64 a0_1]] w fun e w' => e = .returned (.agg #[.int .i64 r1, .int .i64 r2]) ∧ Below w.heap.size w w' := by
 have hu37 := Try.underlying37
 have HB := Aside0.mk (Below.refl w.heap.size w)
 have H : ((some (Int.tmod a0_0 11)).bind fun q2 => ((some (Int.tmod a0_1 11)).bind fun q3 => ((torchonlaw06_pt.f q2 q3).bind fun q1 => (some (q1.1, q1.2))))) = some (r1, r2) := h
 clear h
 obtain ⟨q2, E20, H⟩ := oc H
 obtain ⟨q3, E30, H⟩ := oc H
 obtain ⟨⟨q5, q6⟩, A4, H⟩ := ob H
 simp only [Option.some.injEq, Prod.mk.injEq] at H
 obtain ⟨rfl, rfl⟩ := H
 go_enter Try.func35, Try.ntmps35
 go_wp2_with (first | ((with_reducible refine gate_dst (N := 1) rfl ?_); refine bx 1 #[.int .i64 a0_0, .int .i64 a0_1] 37 fun qe hg w5 q0 hb => ?_; have qc := gw hg HB; have qa := gw hg HB; replace HB := bst HB hb; clear hb hg) | ((with_reducible refine gate_dst (N := 2) rfl ?_); refine bx 2 #[.int .i64 0, .int .i64 0] 37 fun q9 hg w6 q4 hb => ?_; have qd := gw hg HB; have qb := gw hg HB; have q7 := nlt hg q0; have q8 := ngt hg q0; replace q0 := bb q0 hb; replace HB := bst HB hb; clear hb hg; have qn := q7.out; have qo := q8.out; have ⟨qh, qi, ql, qm⟩ := cf2 q0) | ((with_reducible refine gate_callee (f := 19) rfl ?_); refine gl 9 Try.func19 (torchonlaw06_pt.calls q2 q3 q5 q6 _ A4.out) ?_; rintro e w9 ⟨rfl, hb⟩; refine ⟨_, rfl, ?_⟩; replace q0 := bb q0 hb; replace q4 := bb q4 hb; replace HB := bst HB hb; clear hb; have ⟨qf, qg, qj, qk⟩ := cf2 q4))
 refine bodyPost_ret (results_cell_row rfl _ _ q9 37 #[.int .i64 q5, .int .i64 q6] (0, 0) _ rfl (by (with_reducible repeat (first | refine blk_drewN ?_ _ | refine blk_drew ?_ | refine blk_alloc ?_ _)); refine blk_put (cs := #[.int .i64 q5, .int .i64 0]) ?_ 1 _ rfl; (with_reducible repeat (first | refine blk_drewN ?_ _ | refine blk_drew ?_ | refine blk_alloc ?_ _)); refine blk_put (cs := #[.int .i64 0, .int .i64 0]) ?_ 0 _ rfl; (with_reducible repeat (first | refine blk_drewN ?_ _ | refine blk_drew ?_ | refine blk_alloc ?_ _)); exact q4.out) Try.underlying37 rfl (by kernel_rfl)) rfl ?_
 exact rt HB
end
end Go.Proofs.Ytmcajdepoohlhaa.G
