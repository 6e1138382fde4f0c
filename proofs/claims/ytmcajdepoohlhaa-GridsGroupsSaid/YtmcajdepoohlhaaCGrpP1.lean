/- Functions of the program as plain Lean functions, and their contracts (printed by a program of this session). No condition beyond what each states. -/
import Derived.Test.YtmcajdepoohlhaaCGrpY
import Derived.Test.YtmcajdepoohlhaaCGrpP0
namespace Go.Proofs.Ytmcajdepoohlhaa.G
open Go.RowKit Go.Proofs.YtmcajdepoohlhaaW.PrintWords Go.Proofs.YtmcajdepoohlhaaW.PrintLast Go.Proofs.YtmcajdepoohlhaaW.PrintMore
attribute [local go_sem] max2_int min2_int max_two min_two max_three min_three max_four min_four
set_option linter.unusedVariables false
set_option linter.unusedSimpArgs false
section
/-! ### cmp_Compare_int64: function 54 -/
def cmp_Compare_int64.f (a0 : Int) (a1 : Int) : Option (Int) := (cmp_isNaN_int64.f a0).bind fun q1 => ((cmp_isNaN_int64.f a1).bind fun q0 => (if q1 = true then (if q0 = true then (some 0) else (some (-1))) else (if q0 = true then (some 1) else (if a0 < a1 then (some (-1)) else (if a0 > a1 then (some 1) else (some 0))))))
set_option maxHeartbeats 8000000 in
set_option maxRecDepth 100000 in
theorem cmp_Compare_int64.calls (a0 : Int) (a1 : Int) (r : Int) (w : World) (h : cmp_Compare_int64.f a0 a1 = some r) :
  Calls Try.prog 54 #[.int .i64 a0, .int .i64 a1] w fun e w' => e = .returned (.int .i64 r) ∧ Drawn0 w w' := by
 have H : ((cmp_isNaN_int64.f a0).bind fun q1 => ((cmp_isNaN_int64.f a1).bind fun q0 => (if q1 = true then (if q0 = true then (some 0) else (some (-1))) else (if q0 = true then (some 1) else (if a0 < a1 then (some (-1)) else (if a0 > a1 then (some 1) else (some 0))))))) = some r := h
 clear h
 obtain ⟨q1, A3, H⟩ := ob H
 obtain ⟨q0, A4, H⟩ := ob H
 by_cases c5 : q1 = true
 ·subst c5
  have H1 : (if q0 = true then (some 0) else (some (-1))) = some r := by rw [if_pos rfl] at H; exact H
  clear H
  have H := H1
  clear H1
  by_cases c6 : q0 = true
  ·subst c6
   have H1 : (some 0) = some r := by rw [if_pos rfl] at H; exact H
   clear H
   have H := H1
   clear H1
   obtain rfl := Option.some.inj H
   go_enter Try.func54, Try.ntmps54
   go_wp2_with (first | ((with_reducible refine gate_callee (f := 79) rfl ?_); refine goesL_ (some 8) rfl rfl Try.func79 (by kernel_rfl) rfl #[.int .i64 a0] rfl am ?_; (with_reducible refine (cmp_isNaN_int64.calls a0 true _ A3.out).mono ?_); rintro e w' ⟨rfl, ⟨nd, rfl⟩⟩; refine ⟨_, rfl, ?_⟩) | ((with_reducible refine gate_callee (f := 79) rfl ?_); refine goesL_ (some 10) rfl rfl Try.func79 (by kernel_rfl) rfl #[.int .i64 a1] rfl am ?_; (with_reducible refine (cmp_isNaN_int64.calls a1 true _ A4.out).mono ?_); rintro e w' ⟨rfl, ⟨nd, rfl⟩⟩; refine ⟨_, rfl, ?_⟩))
   go_ret
   exact ⟨by first | rfl | (simp; done) | (simp [*]; done), by repeat (first | exact Drawn0.refl _ | apply Drawn0.step)⟩
  ·replace c6 := Bool.eq_false_iff.mpr c6
   subst c6
   have H1 : (some (-1)) = some r := by rw [if_neg (show ¬ (false = true) by decide)] at H; exact H
   clear H
   have H := H1
   clear H1
   obtain rfl := Option.some.inj H
   go_enter Try.func54, Try.ntmps54
   go_wp2_with (first | ((with_reducible refine gate_callee (f := 79) rfl ?_); refine goesL_ (some 8) rfl rfl Try.func79 (by kernel_rfl) rfl #[.int .i64 a0] rfl am ?_; (with_reducible refine (cmp_isNaN_int64.calls a0 true _ A3.out).mono ?_); rintro e w' ⟨rfl, ⟨nd, rfl⟩⟩; refine ⟨_, rfl, ?_⟩) | ((with_reducible refine gate_callee (f := 79) rfl ?_); refine goesL_ (some 10) rfl rfl Try.func79 (by kernel_rfl) rfl #[.int .i64 a1] rfl am ?_; (with_reducible refine (cmp_isNaN_int64.calls a1 false _ A4.out).mono ?_); rintro e w' ⟨rfl, ⟨nd, rfl⟩⟩; refine ⟨_, rfl, ?_⟩))
   go_ret
   exact ⟨by first | rfl | (simp; done) | (simp [*]; done), by repeat (first | exact Drawn0.refl _ | apply Drawn0.step)⟩
 ·replace c5 := Bool.eq_false_iff.mpr c5
  subst c5
  have H1 : (if q0 = true then (some 1) else (if a0 < a1 then (some (-1)) else (if a0 > a1 then (some 1) else (some 0)))) = some r := by rw [if_neg (show ¬ (false = true) by decide)] at H; exact H
  clear H
  have H := H1
  clear H1
  by_cases c7 : q0 = true
  ·subst c7
   have H1 : (some 1) = some r := by rw [if_pos rfl] at H; exact H
   clear H
   have H := H1
   clear H1
   obtain rfl := Option.some.inj H
   go_enter Try.func54, Try.ntmps54
   go_wp2_with (first | ((with_reducible refine gate_callee (f := 79) rfl ?_); refine goesL_ (some 8) rfl rfl Try.func79 (by kernel_rfl) rfl #[.int .i64 a0] rfl am ?_; (with_reducible refine (cmp_isNaN_int64.calls a0 false _ A3.out).mono ?_); rintro e w' ⟨rfl, ⟨nd, rfl⟩⟩; refine ⟨_, rfl, ?_⟩) | ((with_reducible refine gate_callee (f := 79) rfl ?_); refine goesL_ (some 10) rfl rfl Try.func79 (by kernel_rfl) rfl #[.int .i64 a1] rfl am ?_; (with_reducible refine (cmp_isNaN_int64.calls a1 true _ A4.out).mono ?_); rintro e w' ⟨rfl, ⟨nd, rfl⟩⟩; refine ⟨_, rfl, ?_⟩))
   go_ret
   exact ⟨by first | rfl | (simp; done) | (simp [*]; done), by repeat (first | exact Drawn0.refl _ | apply Drawn0.step)⟩
  ·replace c7 := Bool.eq_false_iff.mpr c7
   subst c7
   have H1 : (if a0 < a1 then (some (-1)) else (if a0 > a1 then (some 1) else (some 0))) = some r := by rw [if_neg (show ¬ (false = true) by decide)] at H; exact H
   clear H
   have H := H1
   clear H1
   by_cases c8 : a0 < a1
   ·rw [if_pos c8] at H
    have q2 : decide (a0 < a1) = true := decide_eq_true c8
    clear c8
    obtain rfl := Option.some.inj H
    go_enter Try.func54, Try.ntmps54
    go_wp2_with (first | ((with_reducible refine gate_callee (f := 79) rfl ?_); refine goesL_ (some 8) rfl rfl Try.func79 (by kernel_rfl) rfl #[.int .i64 a0] rfl am ?_; (with_reducible refine (cmp_isNaN_int64.calls a0 false _ A3.out).mono ?_); rintro e w' ⟨rfl, ⟨nd, rfl⟩⟩; refine ⟨_, rfl, ?_⟩) | ((with_reducible refine gate_callee (f := 79) rfl ?_); refine goesL_ (some 10) rfl rfl Try.func79 (by kernel_rfl) rfl #[.int .i64 a1] rfl am ?_; (with_reducible refine (cmp_isNaN_int64.calls a1 false _ A4.out).mono ?_); rintro e w' ⟨rfl, ⟨nd, rfl⟩⟩; refine ⟨_, rfl, ?_⟩))
    go_ret
    exact ⟨by first | rfl | (simp; done) | (simp [*]; done), by repeat (first | exact Drawn0.refl _ | apply Drawn0.step)⟩
   ·rw [if_neg c8] at H
    have q2 : decide (a0 < a1) = false := decide_eq_false c8
    clear c8
    by_cases c9 : a0 > a1
    ·rw [if_pos c9] at H
     have q3 : decide (a1 < a0) = true := decide_eq_true c9
     clear c9
     obtain rfl := Option.some.inj H
     go_enter Try.func54, Try.ntmps54
     go_wp2_with (first | ((with_reducible refine gate_callee (f := 79) rfl ?_); refine goesL_ (some 8) rfl rfl Try.func79 (by kernel_rfl) rfl #[.int .i64 a0] rfl am ?_; (with_reducible refine (cmp_isNaN_int64.calls a0 false _ A3.out).mono ?_); rintro e w' ⟨rfl, ⟨nd, rfl⟩⟩; refine ⟨_, rfl, ?_⟩) | ((with_reducible refine gate_callee (f := 79) rfl ?_); refine goesL_ (some 10) rfl rfl Try.func79 (by kernel_rfl) rfl #[.int .i64 a1] rfl am ?_; (with_reducible refine (cmp_isNaN_int64.calls a1 false _ A4.out).mono ?_); rintro e w' ⟨rfl, ⟨nd, rfl⟩⟩; refine ⟨_, rfl, ?_⟩))
     go_ret
     exact ⟨by first | rfl | (simp; done) | (simp [*]; done), by repeat (first | exact Drawn0.refl _ | apply Drawn0.step)⟩
    ·rw [if_neg c9] at H
     have q3 : decide (a1 < a0) = false := decide_eq_false c9
     clear c9
     obtain rfl := Option.some.inj H
     go_enter Try.func54, Try.ntmps54
     go_wp2_with (first | ((with_reducible refine gate_callee (f := 79) rfl ?_); refine goesL_ (some 8) rfl rfl Try.func79 (by kernel_rfl) rfl #[.int .i64 a0] rfl am ?_; (with_reducible refine (cmp_isNaN_int64.calls a0 false _ A3.out).mono ?_); rintro e w' ⟨rfl, ⟨nd, rfl⟩⟩; refine ⟨_, rfl, ?_⟩) | ((with_reducible refine gate_callee (f := 79) rfl ?_); refine goesL_ (some 10) rfl rfl Try.func79 (by kernel_rfl) rfl #[.int .i64 a1] rfl am ?_; (with_reducible refine (cmp_isNaN_int64.calls a1 false _ A4.out).mono ?_); rintro e w' ⟨rfl, ⟨nd, rfl⟩⟩; refine ⟨_, rfl, ?_⟩))
     go_ret
     exact ⟨by first | rfl | (simp; done) | (simp [*]; done), by repeat (first | exact Drawn0.refl _ | apply Drawn0.step)⟩
end
section
/-! ### grids_order: function 42 -/
def grids_order.f (k : Nat) (a0_0 : Int) (a0_1 : Int) (a0_2 : Int) (a0_3 : Int) (a1_0 : Int) (a1_1 : Int) (a1_2 : Int) (a1_3 : Int) : Option (Int) := (cmp_Compare_int64.f a0_0 a1_0).bind fun q2 => ((cmp_Compare_int64.f a0_1 a1_1).bind fun q3 => ((cmp_Compare_int64.f a0_2 a1_2).bind fun q4 => ((cmp_Compare_int64.f a0_3 a1_3).bind fun q5 => ((cmp_Or_int.f k (([q2, q3, q4, q5] : List Int))).bind fun q6 => (some q6)))))
theorem grids_order.mono : ∀ a0 a1 a2 a3 a4 a5 a6 a7 k, LeO (grids_order.f k a0 a1 a2 a3 a4 a5 a6 a7) (grids_order.f (k + 1) a0 a1 a2 a3 a4 a5 a6 a7) := by
 intro a0 a1 a2 a3 a4 a5 a6 a7 k
 unfold grids_order.f
 repeat' first
   | (with_reducible exact cmp_Or_int.mono _ _)
   | (with_reducible exact LeO.refl _)
   | (with_reducible exact LeO.none _)
   | (with_reducible refine LeO.ite ?_ ?_)
   | (with_reducible refine LeO.bind ?_ (fun _ => ?_))
   | exact cmp_Or_int.mono _ _
   | exact LeO.none _
   | refine LeO.ite ?_ ?_
   | refine LeO.bind ?_ (fun _ => ?_)
def grids_order.T1 : Bool × List (List Nat × List Nat) := (true, [([], []), ([0], [0]), ([], []), ([2], [2]), ([1, 3], [1, 3]), ([], []), ([5], [5]), ([], []), ([7], [7]), ([6, 8, 4], [6, 8]), ([], []), ([10], [10]), ([], []), ([12], [12]), ([11, 13, 9], [11, 13]), ([], []), ([15], [15]), ([], []), ([17], [17]), ([16, 18, 14], [16, 18]), ([4, 9, 14, 19], [4, 9, 14, 19]), ([20, 19], [20]), ([21, 21, 0, 1, 2, 3, 4, 5, 6, 7, 8, 9, 10, 11, 12, 13, 14, 15, 16, 17, 18, 19, 20, 21], [21])])
def grids_order.B1 : List Nat := [0, 1, 0, 4, 15, 0, 32, 0, 128, 511, 0, 1024, 0, 4096, 16383, 0, 32768, 0, 131072, 524287, 1048575, 2097151, 4194303]
theorem grids_order.tab1 : rtab .any (opsOf Try.f42 1) = grids_order.T1 := by kernel_rfl
theorem grids_order.bits1 : waitsOk grids_order.T1.2 grids_order.B1 = true := by kernel_rfl
set_option maxHeartbeats 8000000 in
set_option maxRecDepth 100000 in
theorem grids_order.calls (k : Nat) (a0_0 : Int) (a0_1 : Int) (a0_2 : Int) (a0_3 : Int) (a1_0 : Int) (a1_1 : Int) (a1_2 : Int) (a1_3 : Int) (r : Int) (w : World) (h : grids_order.f k a0_0 a0_1 a0_2 a0_3 a1_0 a1_1 a1_2 a1_3 = some r) :
  Calls Try.prog 42 #[.agg #[.int .i64 a0_0, .int .i64 a0_1, .int .i64 a0_2, .int .i64 a0_3], .agg #[.int .i64 a1_0, .int .i64 a1_1, .int .i64 a1_2, .int .i64 a1_3]] w fun e w' => e = .returned (.int .i64 r) ∧ Below w.heap.size w w' := by
 have hu25 := Try.underlying25
 have HB := Aside0.mk (Below.refl w.heap.size w)
 have H : ((cmp_Compare_int64.f a0_0 a1_0).bind fun q2 => ((cmp_Compare_int64.f a0_1 a1_1).bind fun q3 => ((cmp_Compare_int64.f a0_2 a1_2).bind fun q4 => ((cmp_Compare_int64.f a0_3 a1_3).bind fun q5 => ((cmp_Or_int.f k (([q2, q3, q4, q5] : List Int))).bind fun q6 => (some q6)))))) = some r := h
 clear h
 obtain ⟨q2, A3, H⟩ := ob H
 obtain ⟨q3, A4, H⟩ := ob H
 obtain ⟨q4, A5, H⟩ := ob H
 obtain ⟨q5, A6, H⟩ := ob H
 obtain ⟨qc, hy198⟩ : ∃ y_ : List Int, y_ = (([q2, q3, q4, q5] : List Int)) := ⟨_, rfl⟩
 replace H : ((cmp_Or_int.f k qc).bind fun q6 => (some q6)) = some r := by first | (rw [hy198]; with_reducible exact H) | (have H2_ := (Option.bind_some _ _).symm.trans H; rw [hy198]; with_reducible exact H2_) | (have H2_ := (Option.bind_some _ _).symm.trans H; with_reducible exact H2_) | with_reducible exact H | (rw [hy198]; exact H) | exact H
 have Ny198 := Aside0.mk hy198
 clear hy198
 obtain ⟨q6, A7, H⟩ := ob H
 obtain rfl := Option.some.inj H
 go_enter Try.func42, Try.ntmps42
 try go_wp2_with (first | ((with_reducible refine gate_dst (N := 2) rfl ?_); refine bx 2 #[.int .i64 a0_0, .int .i64 a0_1, .int .i64 a0_2, .int .i64 a0_3] 25 fun q8 hg w8 q0 hb => ?_; have qg := gw hg HB; have qe := gw hg HB; replace HB := bst HB hb; clear hb hg) | ((with_reducible refine gate_dst (N := 3) rfl ?_); refine bx 3 #[.int .i64 a1_0, .int .i64 a1_1, .int .i64 a1_2, .int .i64 a1_3] 25 fun q9 hg w9 q1 hb => ?_; have qh := gw hg HB; have qf := gw hg HB; have qi := nlt hg q0; have qj := ngt hg q0; replace q0 := bb q0 hb; replace HB := bst HB hb; clear hb hg))
 replace q0 := bd q0
 replace q1 := bd q1
 replace HB := bdn HB
 refine start_ (n := 23) (S := fun w' => w'.cell? ⟨q8, 0, none⟩ = some (.int .i64 a0_0) ∧ w'.cell? ⟨q8, 1, none⟩ = some (.int .i64 a0_1) ∧ w'.cell? ⟨q8, 2, none⟩ = some (.int .i64 a0_2) ∧ w'.cell? ⟨q8, 3, none⟩ = some (.int .i64 a0_3) ∧ w'.cell? ⟨q9, 0, none⟩ = some (.int .i64 a1_0) ∧ w'.cell? ⟨q9, 1, none⟩ = some (.int .i64 a1_1) ∧ w'.cell? ⟨q9, 2, none⟩ = some (.int .i64 a1_2) ∧ w'.cell? ⟨q9, 3, none⟩ = some (.int .i64 a1_3)) (ds := []) #[false, false, false, false, false, false, false, false, false, false, false, false, false, false, false, false, false, false, false, false, false, false, false] (by kernel_rfl) rfl rfl ⟨(blk_cell q0.out 0).trans rfl, (blk_cell q0.out 1).trans rfl, (blk_cell q0.out 2).trans rfl, (blk_cell q0.out 3).trans rfl, (blk_cell q1.out 0).trans rfl, (blk_cell q1.out 1).trans rfl, (blk_cell q1.out 2).trans rfl, (blk_cell q1.out 3).trans rfl⟩ (fun hHeld => ?_); refine with_tabW grids_order.tab1 grids_order.bits1 (fun HT_ HW_ => ?_)
 generalize w9.drew = w10 at q0 q1 HB hHeld ⊢
 refine pz 0 5 HT_ ?_
 refine pz 2 7 HT_ ?_
 refine pz 5 10 HT_ ?_
 refine pz 7 12 HT_ ?_
 refine pz 10 15 HT_ ?_
 refine pz 12 17 HT_ ?_
 refine pz 15 20 HT_ ?_
 refine pz 17 22 HT_ ?_
 refine tz 1 6 HT_ HW_ hHeld ?_
 refine tz 3 8 HT_ HW_ hHeld ?_
 refine tz 6 11 HT_ HW_ hHeld ?_
 refine tz 8 13 HT_ HW_ hHeld ?_
 refine tz 11 16 HT_ HW_ hHeld ?_
 refine tz 13 18 HT_ HW_ hHeld ?_
 refine tz 16 21 HT_ HW_ hHeld ?_
 refine tz 18 23 HT_ HW_ hHeld ?_
 refine one_ (i := 4) (N := some 9) #[true, true, true, true, true, true, true, true, true, false, true, true, true, true, false, true, true, true, true, false, false, false, false] rfl rfl (one_of HT_.out (by kernel_rfl)) (by decide) (fun K hK => ?_)
 refine gs _ Try.func54 (cmp_Compare_int64.calls a0_0 a1_0 q2 _ A3.out) ?_
 rintro e w' ⟨rfl, ⟨nd, rfl⟩⟩
 refine ⟨_, rfl, ?_⟩
 refine hK.out _ _ ⟨(blk_cell q0.out 0).trans rfl, (blk_cell q0.out 1).trans rfl, (blk_cell q0.out 2).trans rfl, (blk_cell q0.out 3).trans rfl, (blk_cell q1.out 0).trans rfl, (blk_cell q1.out 1).trans rfl, (blk_cell q1.out 2).trans rfl, (blk_cell q1.out 3).trans rfl⟩ (fun hHeld => ?_)
 clear hK K
 refine norm_ (a' := ?_) ?_ ?_
 rotate_left
 ·show Act.put _ (some 9) _ = _
  simp only [Act.put, List.setIfInBounds_toArray, List.set_cons_zero, List.set_cons_succ, i64_w, i32_w]
  rfl
 refine one_ (i := 9) (N := some 14) #[true, true, true, true, true, true, true, true, true, true, true, true, true, true, false, true, true, true, true, false, false, false, false] rfl rfl (one_of HT_.out (by kernel_rfl)) (by decide) (fun K hK => ?_)
 refine gs _ Try.func54 (cmp_Compare_int64.calls a0_1 a1_1 q3 _ A4.out) ?_
 rintro e w' ⟨rfl, ⟨nd, rfl⟩⟩
 refine ⟨_, rfl, ?_⟩
 refine hK.out _ _ ⟨(blk_cell q0.out 0).trans rfl, (blk_cell q0.out 1).trans rfl, (blk_cell q0.out 2).trans rfl, (blk_cell q0.out 3).trans rfl, (blk_cell q1.out 0).trans rfl, (blk_cell q1.out 1).trans rfl, (blk_cell q1.out 2).trans rfl, (blk_cell q1.out 3).trans rfl⟩ (fun hHeld => ?_)
 clear hK K
 refine norm_ (a' := ?_) ?_ ?_
 rotate_left
 ·show Act.put _ (some 14) _ = _
  simp only [Act.put, List.setIfInBounds_toArray, List.set_cons_zero, List.set_cons_succ, i64_w, i32_w]
  rfl
 refine one_ (i := 14) (N := some 19) #[true, true, true, true, true, true, true, true, true, true, true, true, true, true, true, true, true, true, true, false, false, false, false] rfl rfl (one_of HT_.out (by kernel_rfl)) (by decide) (fun K hK => ?_)
 refine gs _ Try.func54 (cmp_Compare_int64.calls a0_2 a1_2 q4 _ A5.out) ?_
 rintro e w' ⟨rfl, ⟨nd, rfl⟩⟩
 refine ⟨_, rfl, ?_⟩
 refine hK.out _ _ ⟨(blk_cell q0.out 0).trans rfl, (blk_cell q0.out 1).trans rfl, (blk_cell q0.out 2).trans rfl, (blk_cell q0.out 3).trans rfl, (blk_cell q1.out 0).trans rfl, (blk_cell q1.out 1).trans rfl, (blk_cell q1.out 2).trans rfl, (blk_cell q1.out 3).trans rfl⟩ (fun hHeld => ?_)
 clear hK K
 refine norm_ (a' := ?_) ?_ ?_
 rotate_left
 ·show Act.put _ (some 19) _ = _
  simp only [Act.put, List.setIfInBounds_toArray, List.set_cons_zero, List.set_cons_succ, i64_w, i32_w]
  rfl
 refine one_ (i := 19) (N := some 24) #[true, true, true, true, true, true, true, true, true, true, true, true, true, true, true, true, true, true, true, true, false, false, false] rfl rfl (one_of HT_.out (by kernel_rfl)) (by decide) (fun K hK => ?_)
 refine gs _ Try.func54 (cmp_Compare_int64.calls a0_3 a1_3 q5 _ A6.out) ?_
 rintro e w' ⟨rfl, ⟨nd, rfl⟩⟩
 refine ⟨_, rfl, ?_⟩
 refine hK.out _ _ ⟨(blk_cell q0.out 0).trans rfl, (blk_cell q0.out 1).trans rfl, (blk_cell q0.out 2).trans rfl, (blk_cell q0.out 3).trans rfl, (blk_cell q1.out 0).trans rfl, (blk_cell q1.out 1).trans rfl, (blk_cell q1.out 2).trans rfl, (blk_cell q1.out 3).trans rfl⟩ (fun hHeld => ?_)
 clear hK K
 refine norm_ (a' := ?_) ?_ ?_
 rotate_left
 ·show Act.put _ (some 24) _ = _
  simp only [Act.put, List.setIfInBounds_toArray, List.set_cons_zero, List.set_cons_succ, i64_w, i32_w]
  rfl
 refine one_ (i := 20) (N := some 25) #[true, true, true, true, true, true, true, true, true, true, true, true, true, true, true, true, true, true, true, true, true, false, false] rfl rfl (one_of HT_.out (by kernel_rfl)) (by decide) (fun K hK => ?_)
 refine Kd.R_lit_step (Kd.int .i64) _ 3 ?hg (N := 25) ?hd (xs := ([q2, q3, q4, q5] : List Int)) (inner := [.int .i64 q2, .int .i64 q3, .int .i64 q4, .int .i64 q5]) (ok := fun _ => True) (okp := fun _ => True) ?hr ?hp (fun _ hk => hk) trivial (Below.refl _ _) (Nat.le_refl _) (by simp) ?_; (case hd => rfl); (case hg => rfl); (case hr => first | (go_simp; done) | (go_simp; rfl)); (case hp => exact (Reps.one (show Kd.M (Kd.int .i64) _ _ _ q2 [.int .i64 q2] from rfl) (Reps.one (show Kd.M (Kd.int .i64) _ _ _ q3 [.int .i64 q3] from rfl) (Reps.one (show Kd.M (Kd.int .i64) _ _ _ q4 [.int .i64 q4] from rfl) (Reps.one (show Kd.M (Kd.int .i64) _ _ _ q5 [.int .i64 q5] from rfl) (Reps.none _ _))))))
 intro v199 w11 q7 hb hg_ hnew_
 clear hg_ hnew_
 (first | rw [← Ny198.out] at q7 | (simp only [Int.reduceToNat] at q7; rw [← Ny198.out] at q7))
 have qa := Aside0.mk (Kd.R_lower q7 (below_size (bnow HB)))
 replace q0 := bb q0 hb
 replace q1 := bb q1 hb
 replace HB := bst HB hb
 clear hb q7
 obtain ⟨qd, qk, qb⟩ := Kd.R_slice qa.out
 (first | subst qb | (injection qb with f1_ f2_ f3_; have f4_ := f1_.symm; have f5_ := f3_.symm; clear f1_ f2_ f3_; subst f4_; subst f5_))
 refine hK.out _ _ ⟨(blk_cell q0.out 0).trans rfl, (blk_cell q0.out 1).trans rfl, (blk_cell q0.out 2).trans rfl, (blk_cell q0.out 3).trans rfl, (blk_cell q1.out 0).trans rfl, (blk_cell q1.out 1).trans rfl, (blk_cell q1.out 2).trans rfl, (blk_cell q1.out 3).trans rfl⟩ (fun hHeld => ?_)
 clear hK K
 refine norm_ (a' := ?_) ?_ ?_
 rotate_left
 ·show Act.put _ (some 25) _ = _
  simp only [Act.put, List.setIfInBounds_toArray, List.set_cons_zero, List.set_cons_succ, i64_w, i32_w]
  rfl
 refine one_ (i := 21) (N := some 26) #[true, true, true, true, true, true, true, true, true, true, true, true, true, true, true, true, true, true, true, true, true, true, false] rfl rfl (one_of HT_.out (by kernel_rfl)) (by decide) (fun K hK => ?_)
 refine gs _ Try.func51 (cmp_Or_int.calls k _ _ qc q6 _ ?side1 ?side2 A7.out) ?_
 (case side1 => repeat (first | exact (Kd.R_reads' qa.out).2.2 | (with_reducible refine Kd.C_alloc ?_ _) | (with_reducible refine Kd.C_drewN ?_ _) | (with_reducible refine Kd.C_drew ?_)))
 (case side2 => exact (Kd.R_reads' qa.out).2.1)
 rintro e w' ⟨rfl, ⟨nd, rfl⟩⟩
 refine ⟨_, rfl, ?_⟩
 refine hK.out _ _ ⟨(blk_cell q0.out 0).trans rfl, (blk_cell q0.out 1).trans rfl, (blk_cell q0.out 2).trans rfl, (blk_cell q0.out 3).trans rfl, (blk_cell q1.out 0).trans rfl, (blk_cell q1.out 1).trans rfl, (blk_cell q1.out 2).trans rfl, (blk_cell q1.out 3).trans rfl⟩ (fun hHeld => ?_)
 clear hK K
 refine norm_ (a' := ?_) ?_ ?_
 rotate_left
 ·show Act.put _ (some 26) _ = _
  simp only [Act.put, List.setIfInBounds_toArray, List.set_cons_zero, List.set_cons_succ, i64_w, i32_w]
  rfl
 refine pz 22 4 HT_ ?_
 refine done_ (done_of HT_.out (by kernel_rfl)) ?_
 try go_wp2
 go_ret
 exact rt HB
end
section
/-! ### api_GrMatrix_85: function 85 -/
mutual
def api_GrMatrix_85.l0 : Nat → List (S25) → Int → Int → Int → Option ((List (S25)))
 | 0, _, _, _, _ => none
 | k + 1, x0, x1, x2, x8 => if x8 < x2 then (api_GrMatrix_85.l1 k x0 x1 x2 x8 x8) else (some x0)
def api_GrMatrix_85.l1 : Nat → List (S25) → Int → Int → Int → Int → Option ((List (S25)))
 | 0, _, _, _, _, _ => none
 | k + 1, x0, x1, x2, x8, x9 => if x9 > x1 then (if 0 ≤ x9 then (if x9 < (x0.length : Int) then ((some (wrap64 (x9 - 1))).bind fun q0 => (if 0 ≤ q0 then (if q0 < (x0.length : Int) then ((grids_order.f k ((rd_T25 x0 x9).f0) ((rd_T25 x0 x9).f1) ((rd_T25 x0 x9).f2) ((rd_T25 x0 x9).f3) ((rd_T25 x0 q0).f0) ((rd_T25 x0 q0).f1) ((rd_T25 x0 q0).f2) ((rd_T25 x0 q0).f3)).bind fun qe => (if qe < 0 then (api_GrMatrix_85.l1 k ((x0.set (x9 : Int).toNat (⟨(rd_T25 x0 q0).f0, (rd_T25 x0 q0).f1, (rd_T25 x0 q0).f2, (rd_T25 x0 q0).f3⟩ : S25)).set (q0 : Int).toNat (⟨(rd_T25 x0 x9).f0, (rd_T25 x0 x9).f1, (rd_T25 x0 x9).f2, (rd_T25 x0 x9).f3⟩ : S25)) x1 x2 x8 q0) else ((some (wrap64 (x8 + 1))).bind fun qi => (api_GrMatrix_85.l0 k x0 x1 x2 qi)))) else (none)) else (none))) else (none)) else (none)) else ((some (wrap64 (x8 + 1))).bind fun qj => (api_GrMatrix_85.l0 k x0 x1 x2 qj))
end
def api_GrMatrix_85.f (k : Nat) (l0 : List (S25)) (a1 : Int) (a2 : Int)  : Option ((List (S25))) := (some (wrap64 (a1 + 1))).bind fun qh => (api_GrMatrix_85.l0 k l0 a1 a2 qh)
theorem api_GrMatrix_85.mono_l : ∀ k, (∀ y0 y1 y2 y3, LeO (api_GrMatrix_85.l0 k y0 y1 y2 y3) (api_GrMatrix_85.l0 (k + 1) y0 y1 y2 y3)) ∧ (∀ y0 y1 y2 y3 y4, LeO (api_GrMatrix_85.l1 k y0 y1 y2 y3 y4) (api_GrMatrix_85.l1 (k + 1) y0 y1 y2 y3 y4))
 | 0 => ⟨fun _ _ _ _ r h => by simp [api_GrMatrix_85.l0] at h, fun _ _ _ _ _ r h => by simp [api_GrMatrix_85.l1] at h⟩
 | k + 1 => by
  obtain ⟨ih0, ih1⟩ := api_GrMatrix_85.mono_l k
  refine ⟨?_, ?_⟩
  ·intro y0 y1 y2 y3
   unfold api_GrMatrix_85.l0
   repeat' first
   | (with_reducible exact ih0 _ _ _ _)
   | (with_reducible exact ih1 _ _ _ _ _)
   | (with_reducible exact grids_order.mono _ _ _ _ _ _ _ _ _)
   | (with_reducible exact LeO.refl _)
   | (with_reducible exact LeO.none _)
   | (with_reducible refine LeO.ite ?_ ?_)
   | (with_reducible refine LeO.bind ?_ (fun _ => ?_))
   | exact ih0 _ _ _ _
   | exact ih1 _ _ _ _ _
   | exact grids_order.mono _ _ _ _ _ _ _ _ _
   | exact LeO.none _
   | refine LeO.ite ?_ ?_
   | refine LeO.bind ?_ (fun _ => ?_)
  ·intro y0 y1 y2 y3 y4
   unfold api_GrMatrix_85.l1
   repeat' first
   | (with_reducible exact ih0 _ _ _ _)
   | (with_reducible exact ih1 _ _ _ _ _)
   | (with_reducible exact grids_order.mono _ _ _ _ _ _ _ _ _)
   | (with_reducible exact LeO.refl _)
   | (with_reducible exact LeO.none _)
   | (with_reducible refine LeO.ite ?_ ?_)
   | (with_reducible refine LeO.bind ?_ (fun _ => ?_))
   | exact ih0 _ _ _ _
   | exact ih1 _ _ _ _ _
   | exact grids_order.mono _ _ _ _ _ _ _ _ _
   | exact LeO.none _
   | refine LeO.ite ?_ ?_
   | refine LeO.bind ?_ (fun _ => ?_)
theorem api_GrMatrix_85.mono : ∀ a0 a1 a2 k, LeO (api_GrMatrix_85.f k a0 a1 a2) (api_GrMatrix_85.f (k + 1) a0 a1 a2) := by
 intro a0 a1 a2 k
 obtain ⟨ih0, ih1⟩ := api_GrMatrix_85.mono_l k
 unfold api_GrMatrix_85.f
 repeat' first
   | (with_reducible exact ih0 _ _ _ _)
   | (with_reducible exact ih1 _ _ _ _ _)
   | (with_reducible exact grids_order.mono _ _ _ _ _ _ _ _ _)
   | (with_reducible exact LeO.refl _)
   | (with_reducible exact LeO.none _)
   | (with_reducible refine LeO.ite ?_ ?_)
   | (with_reducible refine LeO.bind ?_ (fun _ => ?_))
   | exact ih0 _ _ _ _
   | exact ih1 _ _ _ _ _
   | exact grids_order.mono _ _ _ _ _ _ _ _ _
   | exact LeO.none _
   | refine LeO.ite ?_ ?_
   | refine LeO.bind ?_ (fun _ => ?_)
def api_GrMatrix_85.T4 : Bool × List (List Nat × List Nat) := (true, [([], []), ([], []), ([0, 1], [0, 1]), ([2], [2]), ([3], [3]), ([3], [3]), ([3], [3]), ([5, 6, 3], [3, 5, 6]), ([7, 3], [3, 7]), ([3], [3]), ([3], [3]), ([10, 3], [3, 10]), ([9, 11, 3], [3, 9, 11]), ([12, 3], [3, 12]), ([4, 8, 13, 3, 3], [3, 4, 8, 13]), ([14, 3], [3, 14]), ([3, 15], [3, 15])])
def api_GrMatrix_85.B4 : List Nat := [0, 0, 3, 7, 15, 15, 15, 111, 239, 15, 15, 1039, 3599, 7695, 16383, 32767, 65535]
theorem api_GrMatrix_85.tab4 : rtab .any (opsOf Try.f85 4) = api_GrMatrix_85.T4 := by kernel_rfl
theorem api_GrMatrix_85.bits4 : waitsOk api_GrMatrix_85.T4.2 api_GrMatrix_85.B4 = true := by kernel_rfl
def api_GrMatrix_85.T6 : Bool × List (List Nat × List Nat) := (true, [([], []), ([], []), ([], []), ([], []), ([3], [3]), ([], []), ([], []), ([6], [6]), ([5, 7], [5, 7]), ([8], [8]), ([], []), ([], []), ([10, 11], [10, 11]), ([12], [12]), ([0, 1, 0, 1, 5, 6, 7, 8, 9, 13], [0, 1]), ([14, 9, 0, 1, 5, 6, 7, 8, 9, 13], [9, 14]), ([2, 4, 0, 1, 2, 3, 4, 5, 6, 7, 8, 9, 10, 11, 12, 13, 14, 15], [2, 4]), ([16, 13, 15, 0, 1, 2, 3, 4, 5, 6, 7, 8, 9, 10, 11, 12, 13, 14, 15], [13, 16])])
def api_GrMatrix_85.B6 : List Nat := [0, 0, 0, 0, 8, 0, 0, 64, 224, 480, 0, 0, 3072, 7168, 16355, 32739, 65535, 131071]
theorem api_GrMatrix_85.tab6 : rtab .any (opsOf Try.f85 6) = api_GrMatrix_85.T6 := by kernel_rfl
theorem api_GrMatrix_85.bits6 : waitsOk api_GrMatrix_85.T6.2 api_GrMatrix_85.B6 = true := by kernel_rfl
set_option maxHeartbeats 8000000 in
set_option maxRecDepth 100000 in
theorem api_GrMatrix_85.calls (k : Nat) (P0_ : Nat → Prop) (qf : Value) (l0 : List (S25)) (a1 : Int) (a2 : Int)  (r : List (S25)) (w0 w : World) (hB : Below w0.heap.size w0 w) (ho0 : Kd.R k25 25 w w0.heap.size P0_ qf l0) (h : api_GrMatrix_85.f k l0 a1 a2 = some r) :
  Calls Try.prog 85 #[qf, .int .i64 a1, .int .i64 a2, .func (.func 42) #[] #[]] w fun e w' => e = .returned (.tuple #[]) ∧ Kd.R k25 25 w' w0.heap.size (fun k_ => (P0_ k_ ∨ w.heap.size ≤ k_)) qf r ∧ Below w0.heap.size w0 w' ∧ Kept w w' (fun k_ => P0_ k_) := by
 have hu25 := Try.underlying25
 have HO0 := Aside0.mk (show Kd.R k25 25 w w0.heap.size (fun k_ => (P0_ k_ ∨ w.heap.size ≤ k_)) qf l0 from Kd.R_mono ho0 (fun k_ hk => (.inl hk)))
 have HK := Aside0.mk (Kept.refl w (fun k_ => P0_ k_))
 have HW0 := Aside0.mk hB.size
 have HB := Aside0.mk hB
 clear hB
 have H : ((some (wrap64 (a1 + 1))).bind fun qh => (api_GrMatrix_85.l0 k l0 a1 a2 qh)) = some r := h
 clear h
 obtain ⟨qh, E50, H⟩ := oc H
 have E5w : (IntKind.i64.wrap (a1 + 1)) = qh := (i64_w _).trans E50
 have H' := Aside0.mk H
 clear H
 go_enter Try.func85, Try.ntmps85
 go_wp2
 go_loopg [8] k (fun kq v8 w' => ∃ (x0_1 : List (S25)) (x8_1 : Int), v8 = .int .i64 x8_1 ∧ Aside0 (api_GrMatrix_85.l0 kq x0_1 a1 a2 x8_1 = some r) ∧ Aside0 (kq ≤ k) ∧ Aside0 (Kd.R k25 25 w' w0.heap.size (fun k_ => (P0_ k_ ∨ w.heap.size ≤ k_)) qf x0_1) ∧ Aside0 (Kept w w' (fun k_ => P0_ k_)) ∧ Aside0 (Below w0.heap.size w0 w'))
 case atStart => exact ⟨(l0), (qh), (by first | rfl | (simp; done) | (simp [*]; done)), H', ⟨Nat.le_refl _⟩, ⟨by (with_reducible repeat (first | apply Kd.R_alloc | apply Kd.R_drewN | apply Kd.R_drew)); exact HO0.out⟩, ⟨by repeat (first | (with_reducible first | exact HK.out | apply Kept.alloc | apply Kept.drewN | apply Kept.drew) | exact HK.out)⟩, ⟨bnow HB⟩⟩
 case round =>
  clear H'
  try clear p2
  obtain ⟨x0_1, x8_1, rfl, HA, HK1, HO_0, HK, HB⟩ := hrel
  cases gk with
  | zero => exact absurd HA.out (by simp [api_GrMatrix_85.l0])
  | succ k1 =>
   have H := HA.out
   clear HA
   simp only [api_GrMatrix_85.l0] at H
   by_cases c6 : x8_1 < a2
   ·rw [if_pos c6] at H
    have qH : decide (x8_1 < a2) = true := decide_eq_true c6
    clear c6
    have H' := Aside0.mk H
    clear H
    go_wp2
    go_loopg [9] k1 (fun kq v9 w' => ∃ (x0_2 : List (S25)) (x9_2 : Int), v9 = .int .i64 x9_2 ∧ Aside0 (api_GrMatrix_85.l1 kq x0_2 a1 a2 x8_1 x9_2 = some r) ∧ Aside0 (kq ≤ k1) ∧ Aside0 (Kd.R k25 25 w' w0.heap.size (fun k_ => (P0_ k_ ∨ w.heap.size ≤ k_)) qf x0_2) ∧ Aside0 (Kept w w' (fun k_ => P0_ k_)) ∧ Aside0 (Below w0.heap.size w0 w'))
    case atStart => exact ⟨(x0_1), (x8_1), (by first | rfl | (simp; done) | (simp [*]; done)), H', ⟨Nat.le_refl _⟩, ⟨by (with_reducible repeat (first | apply Kd.R_alloc | apply Kd.R_drewN | apply Kd.R_drew)); exact HO_0.out⟩, ⟨by repeat (first | (with_reducible first | exact HK.out | apply Kept.alloc | apply Kept.drewN | apply Kept.drew) | exact HK.out)⟩, ⟨bnow HB⟩⟩
    case round =>
     clear H'
     try clear p2; try clear c6; try clear qH; try clear p6; try clear p2
     obtain ⟨x0_2, x9_2, rfl, HA, HK2, HO_0, HK, HB⟩ := hrel
     cases gk with
     | zero => exact absurd HA.out (by simp [api_GrMatrix_85.l1])
     | succ k2 =>
      have H := HA.out
      clear HA
      simp only [api_GrMatrix_85.l1] at H
      by_cases c7 : x9_2 > a1
      ·rw [if_pos c7] at H
       have qQ : decide (a1 < x9_2) = true := decide_eq_true c7
       clear c7
       by_cases c8 : 0 ≤ x9_2
       ·rw [if_pos c8] at H
        have j5 : decide (0 ≤ x9_2) = true := decide_eq_true c8
        clear c8
        by_cases c9 : x9_2 < (x0_2.length : Int)
        ·rw [if_pos c9] at H
         have j6 : decide (x9_2 < (x0_2.length : Int)) = true := decide_eq_true c9
         clear c9
         obtain ⟨q0, E100, H⟩ := oc H
         have E10w : (IntKind.i64.wrap (x9_2 - 1)) = q0 := (i64_w _).trans E100
         by_cases c11 : 0 ≤ q0
         ·rw [if_pos c11] at H
          have j3 : decide (0 ≤ q0) = true := decide_eq_true c11
          clear c11
          by_cases c12 : q0 < (x0_2.length : Int)
          ·rw [if_pos c12] at H
           have j4 : decide (q0 < (x0_2.length : Int)) = true := decide_eq_true c12
           clear c12
           obtain ⟨qe, A13, H⟩ := ob H
           by_cases c14 : qe < 0
           ·rw [if_pos c14] at H
            have qP : decide (qe < 0) = true := decide_eq_true c14
            clear c14
            obtain ⟨qg, hy498⟩ : ∃ y_ : List (S25), y_ = (x0_2.set (x9_2 : Int).toNat (⟨(rd_T25 x0_2 q0).f0, (rd_T25 x0_2 q0).f1, (rd_T25 x0_2 q0).f2, (rd_T25 x0_2 q0).f3⟩ : S25)) := ⟨_, rfl⟩
            replace H : (api_GrMatrix_85.l1 k2 (qg.set (q0 : Int).toNat (⟨(rd_T25 x0_2 x9_2).f0, (rd_T25 x0_2 x9_2).f1, (rd_T25 x0_2 x9_2).f2, (rd_T25 x0_2 x9_2).f3⟩ : S25)) a1 a2 x8_1 q0) = some r := by first | (rw [hy498]; with_reducible exact H) | (have H2_ := (Option.bind_some _ _).symm.trans H; rw [hy498]; with_reducible exact H2_) | (have H2_ := (Option.bind_some _ _).symm.trans H; with_reducible exact H2_) | with_reducible exact H | (rw [hy498]; exact H) | exact H
            have Ny498 := Aside0.mk hy498
            clear hy498
            obtain ⟨qM, hy499⟩ : ∃ y_ : List (S25), y_ = (qg.set (q0 : Int).toNat (⟨(rd_T25 x0_2 x9_2).f0, (rd_T25 x0_2 x9_2).f1, (rd_T25 x0_2 x9_2).f2, (rd_T25 x0_2 x9_2).f3⟩ : S25)) := ⟨_, rfl⟩
            replace H : (api_GrMatrix_85.l1 k2 qM a1 a2 x8_1 q0) = some r := by first | (rw [hy499]; with_reducible exact H) | (have H2_ := (Option.bind_some _ _).symm.trans H; rw [hy499]; with_reducible exact H2_) | (have H2_ := (Option.bind_some _ _).symm.trans H; with_reducible exact H2_) | with_reducible exact H | (rw [hy499]; exact H) | exact H
            have Ny499 := Aside0.mk hy499
            clear hy499
            have H' := Aside0.mk H
            clear H
            (try have hpz493 : q0.toNat < x9_2.toNat := wrap_pred E100 (of_decide_eq_true (by assumption)) (of_decide_eq_true (by assumption)))
            try go_wp2
            replace HO_0 := Aside0.mk (Kd.R_drew HO_0.out)
            replace HK := Aside0.mk (Kept.drew HK.out)
            replace HB := bdn HB
            obtain ⟨j1, j8, qJ⟩ := Kd.R_slice HO_0.out
            (first | subst qJ | (injection qJ with f1_ f2_ f3_; have f4_ := f1_.symm; have f5_ := f3_.symm; clear f1_ f2_ f3_; subst f4_; subst f5_))
            have qa : 0 ≤ (x9_2 : Int) := of_decide_eq_true (by first | (with_reducible assumption) | assumption)
            have qc : x9_2 < (x0_2.length : Int) := of_decide_eq_true (by first | (with_reducible assumption) | assumption)
            obtain ⟨q1, qt, q2, q3, q4, q5⟩ := at_T25 (Kd.R_reads' HO_0.out).2.2 x9_2 qa qc
            cases qt
            replace qa := eq_true qa
            replace qc := eq_true qc
            have qb : 0 ≤ (q0 : Int) := of_decide_eq_true (by first | (with_reducible assumption) | assumption)
            have qd : q0 < (x0_2.length : Int) := of_decide_eq_true (by first | (with_reducible assumption) | assumption)
            obtain ⟨qs, qu, q6, q7, q8, q9⟩ := at_T25 (Kd.R_reads' HO_0.out).2.2 q0 qb qd
            obtain rfl : q1 = qs := (by injection qu)
            replace qb := eq_true qb
            replace qd := eq_true qd
            refine start_ (n := 17) (S := fun w' => w'.cell? (q1.add ((x9_2).toNat * 4)) = some (.int .i64 ((rd_T25 x0_2 x9_2).f0)) ∧ w'.cell? ⟨(q1.add ((x9_2).toNat * 4)).block, (q1.add ((x9_2).toNat * 4)).off + 1, none⟩ = some (.int .i64 ((rd_T25 x0_2 x9_2).f1)) ∧ w'.cell? ⟨(q1.add ((x9_2).toNat * 4)).block, (q1.add ((x9_2).toNat * 4)).off + 2, none⟩ = some (.int .i64 ((rd_T25 x0_2 x9_2).f2)) ∧ w'.cell? ⟨(q1.add ((x9_2).toNat * 4)).block, (q1.add ((x9_2).toNat * 4)).off + 3, none⟩ = some (.int .i64 ((rd_T25 x0_2 x9_2).f3)) ∧ w'.cell? (q1.add ((q0).toNat * 4)) = some (.int .i64 ((rd_T25 x0_2 q0).f0)) ∧ w'.cell? ⟨(q1.add ((q0).toNat * 4)).block, (q1.add ((q0).toNat * 4)).off + 1, none⟩ = some (.int .i64 ((rd_T25 x0_2 q0).f1)) ∧ w'.cell? ⟨(q1.add ((q0).toNat * 4)).block, (q1.add ((q0).toNat * 4)).off + 2, none⟩ = some (.int .i64 ((rd_T25 x0_2 q0).f2)) ∧ w'.cell? ⟨(q1.add ((q0).toNat * 4)).block, (q1.add ((q0).toNat * 4)).off + 3, none⟩ = some (.int .i64 ((rd_T25 x0_2 q0).f3))) (ds := []) #[false, false, false, false, false, false, false, false, false, false, false, false, false, false, false, false, false] (by kernel_rfl) rfl rfl ⟨q2, q3, q4, q5, q6, q7, q8, q9⟩ (fun hHeld => ?_); refine with_tabW api_GrMatrix_85.tab4 api_GrMatrix_85.bits4 (fun HT_ HW_ => ?_)
            generalize wr.drew = w17 at HO_0 HK HB q2 q3 q4 q5 q6 q7 q8 q9 hHeld ⊢
            refine pz 0 18 HT_ ?_
            refine pz 1 19 HT_ ?_
            refine pz 2 20 HT_ ?_
            refine pz 3 21 HT_ ?_
            refine pz 4 22 HT_ ?_
            refine pz 5 23 HT_ ?_
            refine pz 6 24 HT_ ?_
            refine pz 7 25 HT_ ?_
            refine pz 9 27 HT_ ?_
            refine pz 10 28 HT_ ?_
            refine pz 11 29 HT_ ?_
            refine pz 12 30 HT_ ?_
            refine tz 8 26 HT_ HW_ hHeld ?_
            refine tz 13 31 HT_ HW_ hHeld ?_
            refine one_ (i := 14) (N := some 32) #[true, true, true, true, true, true, true, true, true, true, true, true, true, true, true, false, false] rfl rfl (one_of HT_.out (by kernel_rfl)) (by decide) (fun K hK => ?_)
            refine goesV_ Try.func42 (by kernel_rfl) rfl #[.agg #[.int .i64 ((rd_T25 x0_2 x9_2).f0), .int .i64 ((rd_T25 x0_2 x9_2).f1), .int .i64 ((rd_T25 x0_2 x9_2).f2), .int .i64 ((rd_T25 x0_2 x9_2).f3)], .agg #[.int .i64 ((rd_T25 x0_2 q0).f0), .int .i64 ((rd_T25 x0_2 q0).f1), .int .i64 ((rd_T25 x0_2 q0).f2), .int .i64 ((rd_T25 x0_2 q0).f3)]] (by rfl) rfl rfl (by rfl) am ?_
            with_reducible refine (grids_order.calls k2 ((rd_T25 x0_2 x9_2).f0) ((rd_T25 x0_2 x9_2).f1) ((rd_T25 x0_2 x9_2).f2) ((rd_T25 x0_2 x9_2).f3) ((rd_T25 x0_2 q0).f0) ((rd_T25 x0_2 q0).f1) ((rd_T25 x0_2 q0).f2) ((rd_T25 x0_2 q0).f3) qe _ A13.out).mono ?_
            rintro e w19 ⟨rfl, hb⟩
            have qk := (hb.cell (World.block_lt_of_cell? _ _ (hHeld.1))).trans (hHeld.1)
            have ql := (hb.cell (World.block_lt_of_cell? _ _ (hHeld.2.1))).trans (hHeld.2.1)
            have qm := (hb.cell (World.block_lt_of_cell? _ _ (hHeld.2.2.1))).trans (hHeld.2.2.1)
            have qn := (hb.cell (World.block_lt_of_cell? _ _ (hHeld.2.2.2.1))).trans (hHeld.2.2.2.1)
            have qo := (hb.cell (World.block_lt_of_cell? _ _ (hHeld.2.2.2.2.1))).trans (hHeld.2.2.2.2.1)
            have qp := (hb.cell (World.block_lt_of_cell? _ _ (hHeld.2.2.2.2.2.1))).trans (hHeld.2.2.2.2.2.1)
            have qq := (hb.cell (World.block_lt_of_cell? _ _ (hHeld.2.2.2.2.2.2.1))).trans (hHeld.2.2.2.2.2.2.1)
            have qr := (hb.cell (World.block_lt_of_cell? _ _ (hHeld.2.2.2.2.2.2.2))).trans (hHeld.2.2.2.2.2.2.2)
            refine ⟨_, rfl, ?_⟩
            have n0_ := Aside0.mk (Kd.R_below (by (with_reducible repeat (first | apply Kd.R_alloc | apply Kd.R_drewN | apply Kd.R_drew)); exact HO_0.out) hb)
            have n1_ := Aside0.mk (Kept.below (S := (fun k_ => P0_ k_)) (by repeat (first | (with_reducible first | exact HK.out | apply Kept.alloc | apply Kept.drewN | apply Kept.drew) | exact HK.out)) hb)
            have n2_ := bst HB hb
            clear HO_0
            clear HK
            clear HB
            have HO_0 := n0_
            have HK := n1_
            have HB := n2_
            clear n0_ n1_ n2_
            (try clear hb)
            (try clear hb2)
            (try clear hk)
            (try clear hi)
            refine hK.out _ _ ⟨qk, ql, qm, qn, qo, qp, qq, qr⟩ (fun hHeld => ?_)
            clear hK K
            refine norm_ (a' := ?_) ?_ ?_
            rotate_left
            ·show Act.put _ (some 32) _ = _
             simp only [Act.put, List.setIfInBounds_toArray, List.set_cons_zero, List.set_cons_succ, i64_w, i32_w]
             rfl
            refine pz 15 33 HT_ ?_
            refine pz 16 34 HT_ ?_
            refine done_ (done_of HT_.out (by kernel_rfl)) ?_
            try go_wp2
            replace HO_0 := Aside0.mk (Kd.R_drew HO_0.out)
            replace HK := Aside0.mk (Kept.drew HK.out)
            replace HB := bdn HB
            have qD : 0 ≤ (q0 : Int) := of_decide_eq_true (by first | (with_reducible assumption) | assumption)
            have qF : q0 < (x0_2.length : Int) := of_decide_eq_true (by first | (with_reducible assumption) | assumption)
            obtain ⟨qN, qR, qv, qw, qx, qy⟩ := at_T25 (Kd.R_reads' HO_0.out).2.2 q0 qD qF
            obtain rfl : q1 = qN := (by injection qR)
            replace qD := eq_true qD
            replace qF := eq_true qF
            have qE : 0 ≤ (x9_2 : Int) := of_decide_eq_true (by first | (with_reducible assumption) | assumption)
            have qG : x9_2 < (x0_2.length : Int) := of_decide_eq_true (by first | (with_reducible assumption) | assumption)
            obtain ⟨qO, qS, qz, qA, qB, qC⟩ := at_T25 (Kd.R_reads' HO_0.out).2.2 x9_2 qE qG
            obtain rfl : q1 = qO := (by injection qS)
            replace qE := eq_true qE
            replace qG := eq_true qG
            have p15 : 0 ≤ (x9_2 : Int) := of_decide_eq_true (by first | (with_reducible assumption) | assumption)
            have q15 : (x9_2 : Int) < ((x0_2.length : Int) : Int) := of_decide_eq_true (by first | (with_reducible assumption) | assumption)
            obtain ⟨go15, j7, qI, qL, gl15, cl15, HG15⟩ := Kd.R_form HO_0.out (by omega)
            (first | cases qI | (injection qI with ea_ en_ ec_; (first | subst ea_ | (injection ea_ with ea_; subst ea_)); subst ec_; clear en_))
            have GB15 := Aside0.mk qL
            have GG15 := Aside0.mk HG15
            clear qL gl15 HG15
            have HMgo15 := Aside0.mk (show (P0_ go15 ∨ w.heap.size ≤ go15) from (HO_0.out.1 _ rfl))
            (first | simp only [add_plain] at q2 | skip)
            (first | simp only [add_plain] at q3 | skip)
            (first | simp only [add_plain] at q4 | skip)
            (first | simp only [add_plain] at q5 | skip)
            (first | simp only [add_plain] at q6 | skip)
            (first | simp only [add_plain] at q7 | skip)
            (first | simp only [add_plain] at q8 | skip)
            (first | simp only [add_plain] at q9 | skip)
            (first | simp only [add_plain] at qv | skip)
            (first | simp only [add_plain] at qw | skip)
            (first | simp only [add_plain] at qx | skip)
            (first | simp only [add_plain] at qy | skip)
            (first | simp only [add_plain] at qz | skip)
            (first | simp only [add_plain] at qA | skip)
            (first | simp only [add_plain] at qB | skip)
            (first | simp only [add_plain] at qC | skip)
            obtain ⟨ce15, hcl15, hM15, hcc15, hfr15⟩ := Kd.R_elem HO_0.out z25 (x9_2 : Int) p15 q15
            obtain rfl := k25_openM hM15
            have qT : World.cell? _ ⟨go15, (x9_2 : Int).toNat * 4, none⟩ = some (.int .i64 ((rd_T25 x0_2 x9_2).f0)) := hcc15 0 _ rfl
            have qU : World.cell? _ ⟨go15, (x9_2 : Int).toNat * 4 + 1, none⟩ = some (.int .i64 ((rd_T25 x0_2 x9_2).f1)) := hcc15 1 _ rfl
            have qV : World.cell? _ ⟨go15, (x9_2 : Int).toNat * 4 + 2, none⟩ = some (.int .i64 ((rd_T25 x0_2 x9_2).f2)) := hcc15 2 _ rfl
            have qW : World.cell? _ ⟨go15, (x9_2 : Int).toNat * 4 + 3, none⟩ = some (.int .i64 ((rd_T25 x0_2 x9_2).f3)) := hcc15 3 _ rfl
            have hf15_0 : World.frozen? _ ⟨go15, (x9_2 : Int).toNat * 4, none⟩ = false := hfr15 0
            have hf15_1 : World.frozen? _ ⟨go15, (x9_2 : Int).toNat * 4 + 1, none⟩ = false := hfr15 1
            have hf15_2 : World.frozen? _ ⟨go15, (x9_2 : Int).toNat * 4 + 2, none⟩ = false := hfr15 2
            have hf15_3 : World.frozen? _ ⟨go15, (x9_2 : Int).toNat * 4 + 3, none⟩ = false := hfr15 3
            (try rw [World.frozen?_setCells] at hf15_0)
            (try rw [World.frozen?_setCells] at hf15_1)
            (try rw [World.frozen?_setCells] at hf15_2)
            (try rw [World.frozen?_setCells] at hf15_3)
            clear hcl15 hcc15 hfr15 hM15
            replace p15 := eq_true p15
            replace q15 := eq_true q15
            obtain ⟨ce21, hcl21, hM21, hcc21, hfr21⟩ := Kd.R_elem HO_0.out z25 (x9_2 : Int) (of_decide_eq_true (by first | (with_reducible assumption) | assumption)) (by have h_ : (x9_2 : Int) < ((x0_2.length : Int) : Int) := of_decide_eq_true (by first | (with_reducible assumption) | assumption); first | exact h_ | (have e_ := (Kd.R_reads' HO_0.out).1; omega) | simpa using h_)
            obtain rfl := k25_openM hM21
            have HP21 := (Kd.R_seg HO_0.out (x9_2 : Int) (of_decide_eq_true (by first | (with_reducible assumption) | assumption)) (by have h_ : (x9_2 : Int) < ((x0_2.length : Int) : Int) := of_decide_eq_true (by first | (with_reducible assumption) | assumption); first | exact h_ | (have e_ := (Kd.R_reads' HO_0.out).1; omega) | simpa using h_) (seg := [.int .i64 ((rd_T25 x0_2 q0).f0), .int .i64 ((rd_T25 x0_2 q0).f1), .int .i64 ((rd_T25 x0_2 q0).f2), .int .i64 ((rd_T25 x0_2 q0).f3)]) (j := 0) hcl21 hcc21 (show 4 ≤ 4 from by decide) (x' := (⟨(rd_T25 x0_2 q0).f0, (rd_T25 x0_2 q0).f1, (rd_T25 x0_2 q0).f2, (rd_T25 x0_2 q0).f3⟩ : S25)) (k25_mkM _ _ _ (⟨(rd_T25 x0_2 q0).f0, (rd_T25 x0_2 q0).f1, (rd_T25 x0_2 q0).f2, (rd_T25 x0_2 q0).f3⟩ : S25) ) (fun _ hk => hk)).1
            rw [← Ny498.out] at HP21
            have HQ21 := Aside0.mk HP21
            clear hcl21 hcc21 hfr21 hM21 HP21
            have p16 : 0 ≤ (q0 : Int) := of_decide_eq_true (by first | (with_reducible assumption) | assumption)
            have q16 : (q0 : Int) < ((x0_2.length : Int) : Int) := of_decide_eq_true (by first | (with_reducible assumption) | assumption)
            obtain ⟨ce16, hcl16, hM16, hcc16, hfr16⟩ := Kd.R_elem HQ21.out z25 (q0 : Int) p16 q16
            obtain rfl := k25_openM hM16
            have qX : World.cell? _ ⟨go15, (q0 : Int).toNat * 4, none⟩ = some (.int .i64 ((rd_T25 qg q0).f0)) := hcc16 0 _ rfl
            have qY : World.cell? _ ⟨go15, (q0 : Int).toNat * 4 + 1, none⟩ = some (.int .i64 ((rd_T25 qg q0).f1)) := hcc16 1 _ rfl
            have qZ : World.cell? _ ⟨go15, (q0 : Int).toNat * 4 + 2, none⟩ = some (.int .i64 ((rd_T25 qg q0).f2)) := hcc16 2 _ rfl
            have j0 : World.cell? _ ⟨go15, (q0 : Int).toNat * 4 + 3, none⟩ = some (.int .i64 ((rd_T25 qg q0).f3)) := hcc16 3 _ rfl
            have hf16_0 : World.frozen? _ ⟨go15, (q0 : Int).toNat * 4, none⟩ = false := hfr16 0
            have hf16_1 : World.frozen? _ ⟨go15, (q0 : Int).toNat * 4 + 1, none⟩ = false := hfr16 1
            have hf16_2 : World.frozen? _ ⟨go15, (q0 : Int).toNat * 4 + 2, none⟩ = false := hfr16 2
            have hf16_3 : World.frozen? _ ⟨go15, (q0 : Int).toNat * 4 + 3, none⟩ = false := hfr16 3
            (try rw [World.frozen?_setCells] at hf16_0)
            (try rw [World.frozen?_setCells] at hf16_1)
            (try rw [World.frozen?_setCells] at hf16_2)
            (try rw [World.frozen?_setCells] at hf16_3)
            clear hcl16 hcc16 hfr16 hM16
            replace p16 := eq_true p16
            replace q16 := eq_true q16
            obtain ⟨ce22, hcl22, hM22, hcc22, hfr22⟩ := Kd.R_elem HQ21.out z25 (q0 : Int) (of_decide_eq_true (by first | (with_reducible assumption) | assumption)) (by have h_ : (q0 : Int) < ((x0_2.length : Int) : Int) := of_decide_eq_true (by first | (with_reducible assumption) | assumption); first | exact h_ | (have e_ := (Kd.R_reads' HO_0.out).1; omega) | simpa using h_)
            obtain rfl := k25_openM hM22
            have HP22 := (Kd.R_seg HQ21.out (q0 : Int) (of_decide_eq_true (by first | (with_reducible assumption) | assumption)) (by have h_ : (q0 : Int) < ((x0_2.length : Int) : Int) := of_decide_eq_true (by first | (with_reducible assumption) | assumption); first | exact h_ | (have e_ := (Kd.R_reads' HO_0.out).1; omega) | simpa using h_) (seg := [.int .i64 ((rd_T25 x0_2 x9_2).f0), .int .i64 ((rd_T25 x0_2 x9_2).f1), .int .i64 ((rd_T25 x0_2 x9_2).f2), .int .i64 ((rd_T25 x0_2 x9_2).f3)]) (j := 0) hcl22 hcc22 (show 4 ≤ 4 from by decide) (x' := (⟨(rd_T25 x0_2 x9_2).f0, (rd_T25 x0_2 x9_2).f1, (rd_T25 x0_2 x9_2).f2, (rd_T25 x0_2 x9_2).f3⟩ : S25)) (k25_mkM _ _ _ (⟨(rd_T25 x0_2 x9_2).f0, (rd_T25 x0_2 x9_2).f1, (rd_T25 x0_2 x9_2).f2, (rd_T25 x0_2 x9_2).f3⟩ : S25) ) (fun _ hk => hk)).1
            rw [← Ny499.out] at HP22
            have HQ22 := Aside0.mk HP22
            clear hcl22 hcc22 hfr22 hM22 HP22
            refine start_ (n := 18) (S := fun w' => w'.cell? ⟨go15, ((q0).toNat * 4), none⟩ = some (.int .i64 ((rd_T25 x0_2 q0).f0)) ∧ w'.cell? ⟨go15, ((q0).toNat * 4) + 1, none⟩ = some (.int .i64 ((rd_T25 x0_2 q0).f1)) ∧ w'.cell? ⟨go15, ((q0).toNat * 4) + 2, none⟩ = some (.int .i64 ((rd_T25 x0_2 q0).f2)) ∧ w'.cell? ⟨go15, ((q0).toNat * 4) + 3, none⟩ = some (.int .i64 ((rd_T25 x0_2 q0).f3)) ∧ w'.cell? ⟨go15, ((x9_2).toNat * 4), none⟩ = some (.int .i64 ((rd_T25 x0_2 x9_2).f0)) ∧ w'.cell? ⟨go15, ((x9_2).toNat * 4) + 1, none⟩ = some (.int .i64 ((rd_T25 x0_2 x9_2).f1)) ∧ w'.cell? ⟨go15, ((x9_2).toNat * 4) + 2, none⟩ = some (.int .i64 ((rd_T25 x0_2 x9_2).f2)) ∧ w'.cell? ⟨go15, ((x9_2).toNat * 4) + 3, none⟩ = some (.int .i64 ((rd_T25 x0_2 x9_2).f3))) (ds := [15, 17]) #[false, false, false, false, false, false, false, false, false, false, false, false, false, false, false, false, false, false] (by kernel_rfl) rfl rfl ⟨qv, qw, qx, qy, qz, qA, qB, qC⟩ (fun hHeld => ?_); refine with_tabW api_GrMatrix_85.tab6 api_GrMatrix_85.bits6 (fun HT_ HW_ => ?_)
            generalize w19.drew = w20 at HO_0 HK HB GG15 HQ21 HQ22 hf15_0 hf15_1 hf15_2 hf15_3 hf16_0 hf16_1 hf16_2 hf16_3 qT qU qV qW qX qY qZ j0 q2 q3 q4 q5 q6 q7 q8 q9 qv qw qx qy qz qA qB qC hHeld ⊢
            refine pz 0 37 HT_ ?_
            refine pz 1 38 HT_ ?_
            refine pz 2 39 HT_ ?_
            refine pz 3 40 HT_ ?_
            refine pz 4 41 HT_ ?_
            refine pz 5 42 HT_ ?_
            refine pz 6 43 HT_ ?_
            refine pz 7 44 HT_ ?_
            refine pz 8 45 HT_ ?_
            refine pz 10 47 HT_ ?_
            refine pz 11 48 HT_ ?_
            refine pz 12 49 HT_ ?_
            refine tz 9 46 HT_ HW_ hHeld ?_
            refine tz 13 50 HT_ HW_ hHeld ?_
            refine pz 14 51 HT_ ?_
            refine last_ (i := 15) (N := none) #[true, true, true, true, true, true, true, true, true, true, true, true, true, true, true, true, false, false] rfl rfl (one_of HT_.out (by kernel_rfl)) (by decide) (fun K hK => ?_)
            refine skip_ (w1 := ?_) (by rfl) rfl ?_ ?_
            rotate_left
            ·go_simp
             rfl
            refine hK.out _ _ ?_
            clear hK K
            refine pz 16 52 HT_ ?_
            refine last_ (i := 17) (N := none) #[true, true, true, true, true, true, true, true, true, true, true, true, true, true, true, true, true, true] rfl rfl (one_of HT_.out (by kernel_rfl)) (by decide) (fun K hK => ?_)
            refine skip_ (w1 := ?_) (by rfl) rfl ?_ ?_
            rotate_left
            ·go_simp
             rfl
            refine hK.out _ _ ?_
            clear hK K
            refine done_ (done_of HT_.out (by kernel_rfl)) ?_
            try go_wp2
            go_roundg k2
            case measure => have := HK1.out; have := HK2.out; omega
            case rel => exact ⟨(qM), (q0), (by first | rfl | (simp; done) | (simp [*]; done)), H', ⟨by have := HK1.out; have := HK2.out; omega⟩, ⟨by (with_reducible repeat (first | apply Kd.R_alloc | apply Kd.R_drewN | apply Kd.R_drew)); exact HQ22.out⟩, ⟨by repeat (first | (with_reducible first | exact HK.out | apply Kept.alloc | apply Kept.drewN | apply Kept.drew | refine Kept.setCell ?_ HMgo15.out _ | refine Kept.setCell ?_ HMgo15.out _ | refine Kept.setCell ?_ HMgo15.out _ | refine Kept.setCell ?_ HMgo15.out _ | refine Kept.setCell ?_ HMgo15.out _ | refine Kept.setCell ?_ HMgo15.out _ | refine Kept.setCell ?_ HMgo15.out _ | refine Kept.setCell ?_ HMgo15.out _) | exact HK.out)⟩, ⟨by repeat (first | (with_reducible first | exact HB.out | apply below_alloc | apply pw_below_drewN | apply below_drew1 | refine below_set ?_ GB15.out | refine below_set ?_ GB15.out | refine below_set ?_ GB15.out | refine below_set ?_ GB15.out | refine below_set ?_ GB15.out | refine below_set ?_ GB15.out | refine below_set ?_ GB15.out | refine below_set ?_ GB15.out) | exact HB.out)⟩⟩
           ·rw [if_neg c14] at H
            have qP : decide (qe < 0) = false := decide_eq_false c14
            clear c14
            obtain ⟨qi, E230, H⟩ := oc H
            have E23w : (IntKind.i64.wrap (x8_1 + 1)) = qi := (i64_w _).trans E230
            have H' := Aside0.mk H
            clear H
            (try have hpz493 : q0.toNat < x9_2.toNat := wrap_pred E100 (of_decide_eq_true (by assumption)) (of_decide_eq_true (by assumption)))
            try go_wp2
            replace HO_0 := Aside0.mk (Kd.R_drew HO_0.out)
            replace HK := Aside0.mk (Kept.drew HK.out)
            replace HB := bdn HB
            obtain ⟨j2, j9, qK⟩ := Kd.R_slice HO_0.out
            (first | subst qK | (injection qK with f1_ f2_ f3_; have f4_ := f1_.symm; have f5_ := f3_.symm; clear f1_ f2_ f3_; subst f4_; subst f5_))
            have qa : 0 ≤ (x9_2 : Int) := of_decide_eq_true (by first | (with_reducible assumption) | assumption)
            have qc : x9_2 < (x0_2.length : Int) := of_decide_eq_true (by first | (with_reducible assumption) | assumption)
            obtain ⟨q1, qt, q2, q3, q4, q5⟩ := at_T25 (Kd.R_reads' HO_0.out).2.2 x9_2 qa qc
            cases qt
            replace qa := eq_true qa
            replace qc := eq_true qc
            have qb : 0 ≤ (q0 : Int) := of_decide_eq_true (by first | (with_reducible assumption) | assumption)
            have qd : q0 < (x0_2.length : Int) := of_decide_eq_true (by first | (with_reducible assumption) | assumption)
            obtain ⟨qs, qu, q6, q7, q8, q9⟩ := at_T25 (Kd.R_reads' HO_0.out).2.2 q0 qb qd
            obtain rfl : q1 = qs := (by injection qu)
            replace qb := eq_true qb
            replace qd := eq_true qd
            refine start_ (n := 17) (S := fun w' => w'.cell? (q1.add ((x9_2).toNat * 4)) = some (.int .i64 ((rd_T25 x0_2 x9_2).f0)) ∧ w'.cell? ⟨(q1.add ((x9_2).toNat * 4)).block, (q1.add ((x9_2).toNat * 4)).off + 1, none⟩ = some (.int .i64 ((rd_T25 x0_2 x9_2).f1)) ∧ w'.cell? ⟨(q1.add ((x9_2).toNat * 4)).block, (q1.add ((x9_2).toNat * 4)).off + 2, none⟩ = some (.int .i64 ((rd_T25 x0_2 x9_2).f2)) ∧ w'.cell? ⟨(q1.add ((x9_2).toNat * 4)).block, (q1.add ((x9_2).toNat * 4)).off + 3, none⟩ = some (.int .i64 ((rd_T25 x0_2 x9_2).f3)) ∧ w'.cell? (q1.add ((q0).toNat * 4)) = some (.int .i64 ((rd_T25 x0_2 q0).f0)) ∧ w'.cell? ⟨(q1.add ((q0).toNat * 4)).block, (q1.add ((q0).toNat * 4)).off + 1, none⟩ = some (.int .i64 ((rd_T25 x0_2 q0).f1)) ∧ w'.cell? ⟨(q1.add ((q0).toNat * 4)).block, (q1.add ((q0).toNat * 4)).off + 2, none⟩ = some (.int .i64 ((rd_T25 x0_2 q0).f2)) ∧ w'.cell? ⟨(q1.add ((q0).toNat * 4)).block, (q1.add ((q0).toNat * 4)).off + 3, none⟩ = some (.int .i64 ((rd_T25 x0_2 q0).f3))) (ds := []) #[false, false, false, false, false, false, false, false, false, false, false, false, false, false, false, false, false] (by kernel_rfl) rfl rfl ⟨q2, q3, q4, q5, q6, q7, q8, q9⟩ (fun hHeld => ?_); refine with_tabW api_GrMatrix_85.tab4 api_GrMatrix_85.bits4 (fun HT_ HW_ => ?_)
            generalize wr.drew = w24 at HO_0 HK HB q2 q3 q4 q5 q6 q7 q8 q9 hHeld ⊢
            refine pz 0 18 HT_ ?_
            refine pz 1 19 HT_ ?_
            refine pz 2 20 HT_ ?_
            refine pz 3 21 HT_ ?_
            refine pz 4 22 HT_ ?_
            refine pz 5 23 HT_ ?_
            refine pz 6 24 HT_ ?_
            refine pz 7 25 HT_ ?_
            refine pz 9 27 HT_ ?_
            refine pz 10 28 HT_ ?_
            refine pz 11 29 HT_ ?_
            refine pz 12 30 HT_ ?_
            refine tz 8 26 HT_ HW_ hHeld ?_
            refine tz 13 31 HT_ HW_ hHeld ?_
            refine one_ (i := 14) (N := some 32) #[true, true, true, true, true, true, true, true, true, true, true, true, true, true, true, false, false] rfl rfl (one_of HT_.out (by kernel_rfl)) (by decide) (fun K hK => ?_)
            refine goesV_ Try.func42 (by kernel_rfl) rfl #[.agg #[.int .i64 ((rd_T25 x0_2 x9_2).f0), .int .i64 ((rd_T25 x0_2 x9_2).f1), .int .i64 ((rd_T25 x0_2 x9_2).f2), .int .i64 ((rd_T25 x0_2 x9_2).f3)], .agg #[.int .i64 ((rd_T25 x0_2 q0).f0), .int .i64 ((rd_T25 x0_2 q0).f1), .int .i64 ((rd_T25 x0_2 q0).f2), .int .i64 ((rd_T25 x0_2 q0).f3)]] (by rfl) rfl rfl (by rfl) am ?_
            with_reducible refine (grids_order.calls k2 ((rd_T25 x0_2 x9_2).f0) ((rd_T25 x0_2 x9_2).f1) ((rd_T25 x0_2 x9_2).f2) ((rd_T25 x0_2 x9_2).f3) ((rd_T25 x0_2 q0).f0) ((rd_T25 x0_2 q0).f1) ((rd_T25 x0_2 q0).f2) ((rd_T25 x0_2 q0).f3) qe _ A13.out).mono ?_
            rintro e w26 ⟨rfl, hb⟩
            have qk := (hb.cell (World.block_lt_of_cell? _ _ (hHeld.1))).trans (hHeld.1)
            have ql := (hb.cell (World.block_lt_of_cell? _ _ (hHeld.2.1))).trans (hHeld.2.1)
            have qm := (hb.cell (World.block_lt_of_cell? _ _ (hHeld.2.2.1))).trans (hHeld.2.2.1)
            have qn := (hb.cell (World.block_lt_of_cell? _ _ (hHeld.2.2.2.1))).trans (hHeld.2.2.2.1)
            have qo := (hb.cell (World.block_lt_of_cell? _ _ (hHeld.2.2.2.2.1))).trans (hHeld.2.2.2.2.1)
            have qp := (hb.cell (World.block_lt_of_cell? _ _ (hHeld.2.2.2.2.2.1))).trans (hHeld.2.2.2.2.2.1)
            have qq := (hb.cell (World.block_lt_of_cell? _ _ (hHeld.2.2.2.2.2.2.1))).trans (hHeld.2.2.2.2.2.2.1)
            have qr := (hb.cell (World.block_lt_of_cell? _ _ (hHeld.2.2.2.2.2.2.2))).trans (hHeld.2.2.2.2.2.2.2)
            refine ⟨_, rfl, ?_⟩
            have n0_ := Aside0.mk (Kd.R_below (by (with_reducible repeat (first | apply Kd.R_alloc | apply Kd.R_drewN | apply Kd.R_drew)); exact HO_0.out) hb)
            have n1_ := Aside0.mk (Kept.below (S := (fun k_ => P0_ k_)) (by repeat (first | (with_reducible first | exact HK.out | apply Kept.alloc | apply Kept.drewN | apply Kept.drew) | exact HK.out)) hb)
            have n2_ := bst HB hb
            clear HO_0
            clear HK
            clear HB
            have HO_0 := n0_
            have HK := n1_
            have HB := n2_
            clear n0_ n1_ n2_
            (try clear hb)
            (try clear hb2)
            (try clear hk)
            (try clear hi)
            refine hK.out _ _ ⟨qk, ql, qm, qn, qo, qp, qq, qr⟩ (fun hHeld => ?_)
            clear hK K
            refine norm_ (a' := ?_) ?_ ?_
            rotate_left
            ·show Act.put _ (some 32) _ = _
             simp only [Act.put, List.setIfInBounds_toArray, List.set_cons_zero, List.set_cons_succ, i64_w, i32_w]
             rfl
            refine pz 15 33 HT_ ?_
            refine pz 16 34 HT_ ?_
            refine done_ (done_of HT_.out (by kernel_rfl)) ?_
            try go_wp2
            go_roundg k2
            case measure => have := HK1.out; have := HK2.out; omega
            case rel => exact ⟨(x0_2), (qi), (by first | rfl | (simp; done) | (simp [*]; done)), H', ⟨by have := HK1.out; have := HK2.out; omega⟩, ⟨by (with_reducible repeat (first | apply Kd.R_alloc | apply Kd.R_drewN | apply Kd.R_drew)); exact HO_0.out⟩, ⟨by repeat (first | (with_reducible first | exact HK.out | apply Kept.alloc | apply Kept.drewN | apply Kept.drew) | exact HK.out)⟩, ⟨bnow HB⟩⟩
          ·rw [if_neg c12] at H
           exact absurd H (by simp)
         ·rw [if_neg c11] at H
          exact absurd H (by simp)
        ·rw [if_neg c9] at H
         exact absurd H (by simp)
       ·rw [if_neg c8] at H
        exact absurd H (by simp)
      ·rw [if_neg c7] at H
       have qQ : decide (a1 < x9_2) = false := decide_eq_false c7
       clear c7
       obtain ⟨qj, E270, H⟩ := oc H
       have E27w : (IntKind.i64.wrap (x8_1 + 1)) = qj := (i64_w _).trans E270
       have H' := Aside0.mk H
       clear H
       try go_wp2
       replace HO_0 := Aside0.mk (Kd.R_drew HO_0.out)
       replace HK := Aside0.mk (Kept.drew HK.out)
       replace HB := bdn HB
       refine start_ (n := 17) (S := fun w' => True) (ds := []) #[false, false, false, false, false, false, false, false, false, false, false, false, false, false, false, false, false] (by kernel_rfl) rfl rfl trivial (fun hHeld => ?_); refine with_tabW api_GrMatrix_85.tab4 api_GrMatrix_85.bits4 (fun HT_ HW_ => ?_)
       generalize wr.drew = w28 at HO_0 HK HB hHeld ⊢
       refine pz 0 18 HT_ ?_
       refine pz 1 19 HT_ ?_
       refine pz 2 20 HT_ ?_
       refine pz 3 21 HT_ ?_
       refine pu 4 22 HT_ ?_
       refine pu 5 23 HT_ ?_
       refine pu 6 24 HT_ ?_
       refine pu 7 25 HT_ ?_
       refine pu 8 26 HT_ ?_
       refine pu 9 27 HT_ ?_
       refine pu 10 28 HT_ ?_
       refine pu 11 29 HT_ ?_
       refine pu 12 30 HT_ ?_
       refine pu 13 31 HT_ ?_
       refine pu 14 32 HT_ ?_
       refine pu 15 33 HT_ ?_
       refine pz 16 34 HT_ ?_
       refine done_ (done_of HT_.out (by kernel_rfl)) ?_
       try go_wp2
       go_roundg k2
       case measure => have := HK1.out; have := HK2.out; omega
       case rel => exact ⟨(x0_2), (qj), (by first | rfl | (simp; done) | (simp [*]; done)), H', ⟨by have := HK1.out; have := HK2.out; omega⟩, ⟨by (with_reducible repeat (first | apply Kd.R_alloc | apply Kd.R_drewN | apply Kd.R_drew)); exact HO_0.out⟩, ⟨by repeat (first | (with_reducible first | exact HK.out | apply Kept.alloc | apply Kept.drewN | apply Kept.drew) | exact HK.out)⟩, ⟨bnow HB⟩⟩
   ·rw [if_neg c6] at H
    have qH : decide (x8_1 < a2) = false := decide_eq_false c6
    clear c6
    obtain rfl := Option.some.inj H
    go_wp2
    first | go_end0 | ((try simp only [Exit.inBlock, Exit.then]); refine bodyPost_ret (results_none rfl _ _ _) rfl ?_)
    exact ⟨by first | rfl | (simp [errW_none, errW_some] <;> rfl) | (simp [*, errW_none, errW_some] <;> rfl), by (with_reducible repeat (first | apply Kd.R_alloc | apply Kd.R_drewN | apply Kd.R_drew)); exact HO_0.out, by repeat (first | (with_reducible first | exact HB.out | apply below_alloc | apply pw_below_drewN | apply below_drew1) | exact HB.out), by repeat (first | (with_reducible first | exact HK.out | apply Kept.alloc | apply Kept.drewN | apply Kept.drew) | exact HK.out)⟩
end
section
/-! ### api_GrMatrix_81: function 81 -/
mutual
def api_GrMatrix_81.l0 : Nat → List (S25) → Int → Int → Int → Bool → Option ((List (S25)))
 | 0, _, _, _, _, _ => none
 | k + 1, x0, x1, x2, x3, x10 => (some (wrap64 (x2 - x1))).bind fun q1 => (if q1 ≤ 12 then ((api_GrMatrix_85.f k x0 x1 x2).bind fun q2 => (some q2)) else (if x3 = 0 then (none) else (if x10 = true then (none) else (none))))
def api_GrMatrix_81.f : Nat → List (S25) → Int → Int → Int → Option ((List (S25)))
 | 0, _, _, _, _ => none
 | k + 1, l0, a1, a2, a3 => api_GrMatrix_81.l0 k l0 a1 a2 a3 true
end
theorem api_GrMatrix_81.mono_l : ∀ k, (∀ y0 y1 y2 y3, LeO (api_GrMatrix_81.f k y0 y1 y2 y3) (api_GrMatrix_81.f (k + 1) y0 y1 y2 y3)) ∧ (∀ y0 y1 y2 y3 y4, LeO (api_GrMatrix_81.l0 k y0 y1 y2 y3 y4) (api_GrMatrix_81.l0 (k + 1) y0 y1 y2 y3 y4))
 | 0 => ⟨fun _ _ _ _ r h => by simp [api_GrMatrix_81.f] at h, fun _ _ _ _ _ r h => by simp [api_GrMatrix_81.l0] at h⟩
 | k + 1 => by
  obtain ⟨ih0, ih1⟩ := api_GrMatrix_81.mono_l k
  refine ⟨?_, ?_⟩
  ·intro y0 y1 y2 y3
   unfold api_GrMatrix_81.f
   repeat' first
   | (with_reducible exact ih0 _ _ _ _)
   | (with_reducible exact ih1 _ _ _ _ _)
   | (with_reducible exact api_GrMatrix_85.mono _ _ _ _)
   | (with_reducible exact LeO.refl _)
   | (with_reducible exact LeO.none _)
   | (with_reducible refine LeO.ite ?_ ?_)
   | (with_reducible refine LeO.bind ?_ (fun _ => ?_))
   | exact ih0 _ _ _ _
   | exact ih1 _ _ _ _ _
   | exact api_GrMatrix_85.mono _ _ _ _
   | exact LeO.none _
   | refine LeO.ite ?_ ?_
   | refine LeO.bind ?_ (fun _ => ?_)
  ·intro y0 y1 y2 y3 y4
   unfold api_GrMatrix_81.l0
   repeat' first
   | (with_reducible exact ih0 _ _ _ _)
   | (with_reducible exact ih1 _ _ _ _ _)
   | (with_reducible exact api_GrMatrix_85.mono _ _ _ _)
   | (with_reducible exact LeO.refl _)
   | (with_reducible exact LeO.none _)
   | (with_reducible refine LeO.ite ?_ ?_)
   | (with_reducible refine LeO.bind ?_ (fun _ => ?_))
   | exact ih0 _ _ _ _
   | exact ih1 _ _ _ _ _
   | exact api_GrMatrix_85.mono _ _ _ _
   | exact LeO.none _
   | refine LeO.ite ?_ ?_
   | refine LeO.bind ?_ (fun _ => ?_)
theorem api_GrMatrix_81.mono : ∀ a0 a1 a2 a3 k, LeO (api_GrMatrix_81.f k a0 a1 a2 a3) (api_GrMatrix_81.f (k + 1) a0 a1 a2 a3) := by
 intro a0 a1 a2 a3 k
 obtain ⟨ih0, ih1⟩ := api_GrMatrix_81.mono_l k
 exact ih0 a0 a1 a2 a3
set_option maxHeartbeats 8000000 in
set_option maxRecDepth 100000 in
theorem api_GrMatrix_81.calls (k : Nat) : ∀ (P0_ : Nat → Prop) (q0 : Value) (l0 : List (S25)) (a1 : Int) (a2 : Int) (a3 : Int)  (r : List (S25)) (w0 w : World) (hB : Below w0.heap.size w0 w) (ho0 : Kd.R k25 25 w w0.heap.size P0_ q0 l0) (h : api_GrMatrix_81.f k l0 a1 a2 a3 = some r),
  Calls Try.prog 81 #[q0, .int .i64 a1, .int .i64 a2, .int .i64 a3, .func (.func 42) #[] #[]] w fun e w' => e = .returned (.tuple #[]) ∧ Kd.R k25 25 w' w0.heap.size (fun k_ => (P0_ k_ ∨ w.heap.size ≤ k_)) q0 r ∧ Below w0.heap.size w0 w' ∧ Kept w w' (fun k_ => P0_ k_) := by
 induction k using Nat.strongRecOn with
 | _ k ih =>
 intro P0_ q0 l0 a1 a2 a3 r w0 w hB ho0 h
 cases k with
 | zero => exact absurd h (by simp [api_GrMatrix_81.f])
 | succ k =>
 simp only [api_GrMatrix_81.f] at h
 have hu25 := Try.underlying25
 have HO0 := Aside0.mk (show Kd.R k25 25 w w0.heap.size (fun k_ => (P0_ k_ ∨ w.heap.size ≤ k_)) q0 l0 from Kd.R_mono ho0 (fun k_ hk => (.inl hk)))
 have HK := Aside0.mk (Kept.refl w (fun k_ => P0_ k_))
 have HW0 := Aside0.mk hB.size
 have HB := Aside0.mk hB
 clear hB
 have H : (api_GrMatrix_81.l0 k l0 a1 a2 a3 true) = some r := h
 clear h
 have H' := Aside0.mk H
 clear H
 go_enter Try.func81, Try.ntmps81
 go_wp2
 go_loopg [1, 2, 3, 10] k (fun kq v1 v2 v3 v10 w' => ∃ (x0_1 : List (S25)) (x1_1 : Int) (x2_1 : Int) (x3_1 : Int) (x10_1 : Bool), v1 = .int .i64 x1_1 ∧ v2 = .int .i64 x2_1 ∧ v3 = .int .i64 x3_1 ∧ v10 = .bool x10_1 ∧ Aside0 (api_GrMatrix_81.l0 kq x0_1 x1_1 x2_1 x3_1 x10_1 = some r) ∧ Aside0 (kq ≤ k) ∧ Aside0 (Kd.R k25 25 w' w0.heap.size (fun k_ => (P0_ k_ ∨ w.heap.size ≤ k_)) q0 x0_1) ∧ Aside0 (Kept w w' (fun k_ => P0_ k_)) ∧ Aside0 (Below w0.heap.size w0 w'))
 case atStart => exact ⟨(l0), (a1), (a2), (a3), (true), (by first | rfl | (simp; done) | (simp [*]; done)), (by first | rfl | (simp; done) | (simp [*]; done)), (by first | rfl | (simp; done) | (simp [*]; done)), (by first | rfl | (simp; done) | (simp [*]; done)), H', ⟨Nat.le_refl _⟩, ⟨by (with_reducible repeat (first | apply Kd.R_alloc | apply Kd.R_drewN | apply Kd.R_drew)); exact HO0.out⟩, ⟨by repeat (first | (with_reducible first | exact HK.out | apply Kept.alloc | apply Kept.drewN | apply Kept.drew) | exact HK.out)⟩, ⟨bnow HB⟩⟩
 case round =>
  clear H'
  try clear p2
  obtain ⟨x0_1, x1_1, x2_1, x3_1, x10_1, rfl, rfl, rfl, rfl, HA, HK1, HO_0, HK, HB⟩ := hrel
  cases gk with
  | zero => exact absurd HA.out (by simp [api_GrMatrix_81.l0])
  | succ k1 =>
   have H := HA.out
   clear HA
   simp only [api_GrMatrix_81.l0] at H
   obtain ⟨q1, E60, H⟩ := oc H
   have E6w : (IntKind.i64.wrap (x2_1 - x1_1)) = q1 := (i64_w _).trans E60
   by_cases c7 : q1 ≤ 12
   ·rw [if_pos c7] at H
    have q3 : decide (q1 ≤ 12) = true := decide_eq_true c7
    clear c7
    obtain ⟨q2, A8, H⟩ := ob H
    obtain rfl := Option.some.inj H
    obtain ⟨Ao9, co9, eo9⟩ := Kd.R_slice HO_0.out
    subst eo9
    go_wp2_with (first | ((with_reducible refine gate_callee (f := 85) rfl ?_); refine goesL_ (some 30) rfl rfl Try.func85 (by kernel_rfl) rfl #[.slice Ao9 x0_1.length co9, .int .i64 x1_1, .int .i64 x2_1, .func (.func 42) #[] #[]] rfl am ?_; (with_reducible refine (api_GrMatrix_85.calls k1 (fun k_ => some k_ = (.slice Ao9 x0_1.length co9 : Value).ownBlock) (.slice Ao9 x0_1.length co9) x0_1 x1_1 x2_1  q2 w0 _ ?side1 ?side2 A8.out).mono ?_); (case side1 => repeat (first | (with_reducible first | exact HB.out | apply below_alloc | apply pw_below_drewN | apply below_drew1) | exact HB.out)); (case side2 => exact Kd.R_tight rfl HO_0.out); rintro e w10 ⟨rfl, hy0, hb, hkp⟩; refine ⟨_, rfl, ?_⟩; have n0_ := Aside0.mk (Kd.R_reok rfl hy0 (fun k_ e_ => HO_0.out.1 k_ e_)); have n1_ := Aside0.mk (Kept.then_ (S := (fun k_ => P0_ k_)) (by repeat (first | (with_reducible first | exact HK.out | apply Kept.alloc | apply Kept.drewN | apply Kept.drew) | exact HK.out)) hkp (fun k_ hs_ => (fun e_ => (HO_0.out.1 k_ e_.symm)) hs_)); have n2_ := Aside0.mk (hb); clear HO_0; clear HK; clear HB; have HO_0 := n0_; have HK := n1_; have HB := n2_; clear n0_ n1_ n2_; (try clear hb); (try clear hkp); (try clear hy0)))
    first | go_end0 | ((try simp only [Exit.inBlock, Exit.then]); refine bodyPost_ret (results_none rfl _ _ _) rfl ?_)
    exact ⟨by first | rfl | (simp [errW_none, errW_some] <;> rfl) | (simp [*, errW_none, errW_some] <;> rfl), by (with_reducible repeat (first | apply Kd.R_alloc | apply Kd.R_drewN | apply Kd.R_drew)); exact HO_0.out, by repeat (first | (with_reducible first | exact HB.out | apply below_alloc | apply pw_below_drewN | apply below_drew1) | exact HB.out), by repeat (first | (with_reducible first | exact HK.out | apply Kept.alloc | apply Kept.drewN | apply Kept.drew) | exact HK.out)⟩
   ·rw [if_neg c7] at H
    have q3 : decide (q1 ≤ 12) = false := decide_eq_false c7
    clear c7
    by_cases c11 : x3_1 = 0
    ·rw [if_pos c11] at H
     exact absurd H (by simp)
    ·rw [if_neg c11] at H
     have q4 : (x3_1 == 0) = false := beq_eq_false_iff_ne.mpr c11
     have q5 : (x3_1 != 0) = true := bne_iff_ne.mpr c11
     by_cases c12 : x10_1 = true
     ·subst c12
      have H1 : (none) = some r := by rw [if_pos rfl] at H; exact H
      clear H
      have H := H1
      clear H1
      exact absurd H (by simp)
     ·replace c12 := Bool.eq_false_iff.mpr c12
      subst c12
      have H1 : (none) = some r := by rw [if_neg (show ¬ (false = true) by decide)] at H; exact H
      clear H
      have H := H1
      clear H1
      exact absurd H (by simp)
end
section
/-! ### api_GrMatrix_58: function 58 -/
def api_GrMatrix_58.f (k : Nat) (l0 : List (S25))  : Option ((List (S25))) := (bits_Len.f (IntKind.u64.wrap ((l0.length : Int)))).bind fun q0 => ((api_GrMatrix_81.f k l0 0 (l0.length : Int) q0).bind fun q1 => (some q1))
theorem api_GrMatrix_58.mono : ∀ a0 k, LeO (api_GrMatrix_58.f k a0) (api_GrMatrix_58.f (k + 1) a0) := by
 intro a0 k
 unfold api_GrMatrix_58.f
 repeat' first
   | (with_reducible exact api_GrMatrix_81.mono _ _ _ _ _)
   | (with_reducible exact LeO.refl _)
   | (with_reducible exact LeO.none _)
   | (with_reducible refine LeO.ite ?_ ?_)
   | (with_reducible refine LeO.bind ?_ (fun _ => ?_))
   | exact api_GrMatrix_81.mono _ _ _ _ _
   | exact LeO.none _
   | refine LeO.ite ?_ ?_
   | refine LeO.bind ?_ (fun _ => ?_)
set_option maxHeartbeats 8000000 in
set_option maxRecDepth 100000 in
theorem api_GrMatrix_58.calls (k : Nat) (P0_ : Nat → Prop) (q2 : Value) (l0 : List (S25))  (r : List (S25)) (w0 w : World) (hB : Below w0.heap.size w0 w) (ho0 : Kd.R k25 25 w w0.heap.size P0_ q2 l0) (h : api_GrMatrix_58.f k l0 = some r) :
  Calls Try.prog 58 #[q2, .func (.func 42) #[] #[]] w fun e w' => e = .returned (.tuple #[]) ∧ Kd.R k25 25 w' w0.heap.size (fun k_ => (P0_ k_ ∨ w.heap.size ≤ k_)) q2 r ∧ Below w0.heap.size w0 w' ∧ Kept w w' (fun k_ => P0_ k_) := by
 have HO0 := Aside0.mk (show Kd.R k25 25 w w0.heap.size (fun k_ => (P0_ k_ ∨ w.heap.size ≤ k_)) q2 l0 from Kd.R_mono ho0 (fun k_ hk => (.inl hk)))
 have HK := Aside0.mk (Kept.refl w (fun k_ => P0_ k_))
 have HW0 := Aside0.mk hB.size
 have HB := Aside0.mk hB
 clear hB
 have H : ((bits_Len.f (IntKind.u64.wrap ((l0.length : Int)))).bind fun q0 => ((api_GrMatrix_81.f k l0 0 (l0.length : Int) q0).bind fun q1 => (some q1))) = some r := h
 clear h
 obtain ⟨q0, A3, H⟩ := ob H
 obtain ⟨q1, A4, H⟩ := ob H
 obtain rfl := Option.some.inj H
 obtain ⟨Ao5, co5, eo5⟩ := Kd.R_slice HO0.out
 subst eo5
 go_enter Try.func58, Try.ntmps58
 go_wp2_with (first | ((with_reducible refine gate_callee (f := 82) rfl ?_); refine goesL_ (some 11) rfl rfl Try.func82 (by kernel_rfl) rfl #[.int .u64 (IntKind.u64.wrap ((l0.length : Int)))] rfl am ?_; (with_reducible refine (bits_Len.calls (IntKind.u64.wrap ((l0.length : Int))) q0 _ A3.out).mono ?_); rintro e w' ⟨rfl, ⟨nd, rfl⟩⟩; refine ⟨_, rfl, ?_⟩) | ((with_reducible refine gate_callee (f := 81) rfl ?_); refine goesL_ (some 13) rfl rfl Try.func81 (by kernel_rfl) rfl #[.slice Ao5 l0.length co5, .int .i64 0, .int .i64 (l0.length : Int), .int .i64 q0, .func (.func 42) #[] #[]] rfl am ?_; (with_reducible refine (api_GrMatrix_81.calls k (fun k_ => some k_ = (.slice Ao5 l0.length co5 : Value).ownBlock) (.slice Ao5 l0.length co5) l0 0 (l0.length : Int) q0  q1 w0 _ ?side1 ?side2 A4.out).mono ?_); (case side1 => repeat (first | (with_reducible first | exact HB.out | apply below_alloc | apply pw_below_drewN | apply below_drew1) | exact HB.out)); (case side2 => exact Kd.R_tight rfl HO0.out); rintro e w6 ⟨rfl, hy0, hb, hkp⟩; refine ⟨_, rfl, ?_⟩; have n0_ := Aside0.mk (Kd.R_reok rfl hy0 (fun k_ e_ => HO0.out.1 k_ e_)); have n1_ := Aside0.mk (Kept.then_ (S := (fun k_ => P0_ k_)) (by repeat (first | (with_reducible first | exact HK.out | apply Kept.alloc | apply Kept.drewN | apply Kept.drew) | exact HK.out)) hkp (fun k_ hs_ => (fun e_ => (HO0.out.1 k_ e_.symm)) hs_)); have n2_ := Aside0.mk (hb); clear HO0; clear HK; clear HB; have HO0 := n0_; have HK := n1_; have HB := n2_; clear n0_ n1_ n2_; (try clear hb); (try clear hkp); (try clear hy0)))
 first | go_end0 | ((try simp only [Exit.inBlock, Exit.then]); refine bodyPost_ret (results_none rfl _ _ _) rfl ?_)
 exact ⟨by first | rfl | (simp [errW_none, errW_some] <;> rfl) | (simp [*, errW_none, errW_some] <;> rfl), by (with_reducible repeat (first | apply Kd.R_alloc | apply Kd.R_drewN | apply Kd.R_drew)); exact HO0.out, by repeat (first | (with_reducible first | exact HB.out | apply below_alloc | apply pw_below_drewN | apply below_drew1) | exact HB.out), by repeat (first | (with_reducible first | exact HK.out | apply Kept.alloc | apply Kept.drewN | apply Kept.drew) | exact HK.out)⟩
end
section
/-! ### grids_Group: function 22 -/
def grids_Group.l0 : Nat → List (S25) → Int → Int → Int → Int → Int → Int → Option ((List (S25)) × Int)
 | 0, _, _, _, _, _, _, _ => none
 | k + 1, x7, x22, x23, x517000, x517001, x517002, x517003 => if x23 < x22 then (if 0 ≤ x23 then (if x23 < (x7.length : Int) then ((grids_times.f x517000 x517001 x517002 x517003 ((rd_T25 x7 x23).f0) ((rd_T25 x7 x23).f1) ((rd_T25 x7 x23).f2) ((rd_T25 x7 x23).f3)).bind fun qm => ((grids_inverse.f x517000 x517001 x517002 x517003).bind fun qn => ((grids_times.f qm.1 qm.2.1 qm.2.2.1 qm.2.2.2 qn.1 qn.2.1 qn.2.2.1 qn.2.2.2).bind fun qo => ((some (wrap64 (x23 + 1))).bind fun q8 => (grids_Group.l0 k (x7.set (x23 : Int).toNat (⟨qo.1, qo.2.1, qo.2.2.1, qo.2.2.2⟩ : S25)) x22 q8 x517000 x517001 x517002 x517003))))) else (none)) else (none)) else ((api_GrMatrix_58.f k x7).bind fun qF => (some (qF, 0)))
def grids_Group.f (k : Nat) (a0_0 : Int) (a0_1 : Int) (a0_2 : Int) : Option ((List (S25)) × Int) := (grids_Check.f k a0_0 a0_1 a0_2).bind fun q5 => (if q5 = 0 then ((grids_reduce.f k a0_0 a0_1 a0_2).bind fun q3 => ((grids_group.f k q3.1 q3.2.1 q3.2.2.1).bind fun q4 => (grids_Group.l0 k q4 (q4.length : Int) 0 q3.2.2.2.1 q3.2.2.2.2.1 q3.2.2.2.2.2.1 q3.2.2.2.2.2.2))) else (some (([] : List (S25)), q5)))
theorem grids_Group.mono_l : ∀ k, (∀ y0 y1 y2 y3 y4 y5 y6, LeO (grids_Group.l0 k y0 y1 y2 y3 y4 y5 y6) (grids_Group.l0 (k + 1) y0 y1 y2 y3 y4 y5 y6))
 | 0 => fun _ _ _ _ _ _ _ r h => by simp [grids_Group.l0] at h
 | k + 1 => by
  have ih0 := grids_Group.mono_l k
  ·intro y0 y1 y2 y3 y4 y5 y6
   unfold grids_Group.l0
   repeat' first
   | (with_reducible exact ih0 _ _ _ _ _ _ _)
   | (with_reducible exact api_GrMatrix_58.mono _ _)
   | (with_reducible exact grids_Check.mono _ _ _ _)
   | (with_reducible exact grids_group.mono _ _ _ _)
   | (with_reducible exact grids_reduce.mono _ _ _ _)
   | (with_reducible exact LeO.refl _)
   | (with_reducible exact LeO.none _)
   | (with_reducible refine LeO.ite ?_ ?_)
   | (with_reducible refine LeO.bind ?_ (fun _ => ?_))
   | exact ih0 _ _ _ _ _ _ _
   | exact api_GrMatrix_58.mono _ _
   | exact grids_Check.mono _ _ _ _
   | exact grids_group.mono _ _ _ _
   | exact grids_reduce.mono _ _ _ _
   | exact LeO.none _
   | refine LeO.ite ?_ ?_
   | refine LeO.bind ?_ (fun _ => ?_)
theorem grids_Group.mono : ∀ a0 a1 a2 k, LeO (grids_Group.f k a0 a1 a2) (grids_Group.f (k + 1) a0 a1 a2) := by
 intro a0 a1 a2 k
 have ih0 := grids_Group.mono_l k
 unfold grids_Group.f
 repeat' first
   | (with_reducible exact ih0 _ _ _ _ _ _ _)
   | (with_reducible exact api_GrMatrix_58.mono _ _)
   | (with_reducible exact grids_Check.mono _ _ _ _)
   | (with_reducible exact grids_group.mono _ _ _ _)
   | (with_reducible exact grids_reduce.mono _ _ _ _)
   | (with_reducible exact LeO.refl _)
   | (with_reducible exact LeO.none _)
   | (with_reducible refine LeO.ite ?_ ?_)
   | (with_reducible refine LeO.bind ?_ (fun _ => ?_))
   | exact ih0 _ _ _ _ _ _ _
   | exact api_GrMatrix_58.mono _ _
   | exact grids_Check.mono _ _ _ _
   | exact grids_group.mono _ _ _ _
   | exact grids_reduce.mono _ _ _ _
   | exact LeO.none _
   | refine LeO.ite ?_ ?_
   | refine LeO.bind ?_ (fun _ => ?_)
def grids_Group.T9 : Bool × List (List Nat × List Nat) := (true, [([], []), ([], []), ([], []), ([], []), ([], []), ([3, 4], [3, 4]), ([5], [5]), ([2, 6], [2, 6]), ([], []), ([8, 7], [8]), ([7, 9, 9], [7, 9]), ([0, 1, 0, 1, 2, 3, 4, 5, 6, 7, 8, 9, 10], [0, 1]), ([11, 10, 10, 0, 1, 2, 3, 4, 5, 6, 7, 8, 9, 10], [10, 11])])
def grids_Group.B9 : List Nat := [0, 0, 0, 0, 0, 24, 56, 124, 0, 508, 1020, 2047, 4095]
theorem grids_Group.tab9 : rtab .any (opsOf Try.f22 9) = grids_Group.T9 := by kernel_rfl
theorem grids_Group.bits9 : waitsOk grids_Group.T9.2 grids_Group.B9 = true := by kernel_rfl
set_option maxHeartbeats 8000000 in
set_option maxRecDepth 100000 in
theorem grids_Group.calls (k : Nat) (a0_0 : Int) (a0_1 : Int) (a0_2 : Int) (r1 : List (S25)) (r2 : Int) (w : World) (h : grids_Group.f k a0_0 a0_1 a0_2 = some (r1, r2)) :
  Calls Try.prog 22 #[.agg #[.int .i64 a0_0, .int .i64 a0_1, .int .i64 a0_2]] w fun e w' => ∃ v0_ : Value, e = .returned (.tuple #[v0_, .int .i64 r2]) ∧ Kd.R k25 25 w' w.heap.size (fun _ => True) v0_ r1 ∧ Below w.heap.size w w' := by
 have hu23 := Try.underlying23
 have hu25 := Try.underlying25
 have HB := Aside0.mk (Below.refl w.heap.size w)
 have H : ((grids_Check.f k a0_0 a0_1 a0_2).bind fun q5 => (if q5 = 0 then ((grids_reduce.f k a0_0 a0_1 a0_2).bind fun q3 => ((grids_group.f k q3.1 q3.2.1 q3.2.2.1).bind fun q4 => (grids_Group.l0 k q4 (q4.length : Int) 0 q3.2.2.2.1 q3.2.2.2.2.1 q3.2.2.2.2.2.1 q3.2.2.2.2.2.2))) else (some (([] : List (S25)), q5)))) = some (r1, r2) := h
 clear h
 obtain ⟨q5, A2, H⟩ := ob H
 by_cases c3 : q5 = 0
 ·rw [if_pos c3] at H
  have qH : (q5 == 0) = true := beq_iff_eq.mpr c3
  have qI : (q5 != 0) = false := bne_eq_false_iff_eq.mpr c3
  clear c3
  obtain ⟨⟨qe, qf, qg, qr, qs, qt, qu⟩, A4, H⟩ := ob H
  obtain ⟨q4, A5, H⟩ := ob H
  have H' := Aside0.mk H
  clear H
  go_enter Try.func22, Try.ntmps22
  go_wp2_with (first | ((with_reducible refine gate_dst (N := 1) rfl ?_); refine bx 1 #[.int .i64 a0_0, .int .i64 a0_1, .int .i64 a0_2] 23 fun qL hg w6 q0 hb => ?_; have qV := gw hg HB; have q9 := gw hg HB; replace HB := bst HB hb; clear hb hg; have ⟨jg, jh, ji, jw, jx, jy⟩ := cf3 q0) | ((with_reducible refine gate_callee (f := 14) rfl ?_); refine gl 10 Try.func14 (grids_Check.calls k a0_0 a0_1 a0_2 q5 _ A2.out) ?_; rintro e w8 ⟨rfl, hb⟩; refine ⟨_, rfl, ?_⟩; replace q0 := bb q0 hb; replace HB := bst HB hb; clear hb; have ⟨jj, jk, jl, jz, jA, jB⟩ := cf3 q0) | ((with_reducible refine gate_callee (f := 38) rfl ?_); refine gl 16 Try.func38 (grids_reduce.calls k a0_0 a0_1 a0_2 qe qf qg qr qs qt qu _ A4.out) ?_; rintro e w10 ⟨rfl, hb⟩; refine ⟨_, rfl, ?_⟩; replace q0 := bb q0 hb; replace HB := bst HB hb; clear hb) | ((with_reducible refine gate_dst (N := 5) rfl ?_); refine bx 5 #[.int .i64 0, .int .i64 0, .int .i64 0] 23 fun qq hg w11 q2 hb => ?_; have jC := gw hg HB; have qv := gw hg HB; have qW := nlt hg q0; have qY := ngt hg q0; replace q0 := bb q0 hb; replace HB := bst HB hb; clear hb hg) | ((with_reducible refine gate_dst (N := 6) rfl ?_); refine bx 6 #[.int .i64 0, .int .i64 0, .int .i64 0, .int .i64 0] 25 fun q6 hg w12 q1 hb => ?_; have jD := gw hg HB; have qw := gw hg HB; have qX := nlt hg q0; have j0 := ngt hg q0; have qZ := nlt hg q2; have j1 := ngt hg q2; replace q0 := bb q0 hb; replace q2 := bb q2 hb; replace HB := bst HB hb; clear hb hg; have jM := qY.out; have jP := qW.out; have jN := qZ.out; have jQ := j1.out; have ⟨j6, j7, j8, jm, jn, jo⟩ := cf3 q2) | ((with_reducible refine gate_store (t := 23) (p := 5) rfl ?_); refine sx 23 5 ((((w12.setCell ⟨qq, 0, none⟩ (.int .i64 qe)).setCell ⟨qq, 1, none⟩ (.int .i64 qf)).setCell ⟨qq, 2, none⟩ (.int .i64 qg))) fun w16 hw => ?_; replace q0 := fw hw q0; replace q2 := pw3 hw q2; replace q1 := fw hw q1; replace HB := bw hw HB; clear hw; have jO := j0.out; have jR := qX.out; have ⟨j9, ja, jb, jc, jp, jq, jr, js⟩ := cf4 q1) | ((with_reducible refine gate_store (t := 25) (p := 6) rfl ?_); refine sx 25 6 (((((w16.setCell ⟨q6, 0, none⟩ (.int .i64 qr)).setCell ⟨q6, 1, none⟩ (.int .i64 qs)).setCell ⟨q6, 2, none⟩ (.int .i64 qt)).setCell ⟨q6, 3, none⟩ (.int .i64 qu))) fun w19 hw => ?_; replace q0 := fw hw q0; replace q2 := fw hw q2; replace q1 := pw4 hw q1; replace HB := bw hw HB; clear hw; have ⟨jd, je, jf, jt, ju, jv⟩ := cf3 q2) | ((with_reducible refine gate_callee (f := 39) rfl ?_); refine goesL_ (some 20) rfl rfl Try.func39 (by kernel_rfl) rfl #[.agg #[.int .i64 qe, .int .i64 qf, .int .i64 qg]] rfl am ?_; (with_reducible refine (grids_group.calls k qe qf qg q4 _ A5.out).mono ?_); rintro e w21 ⟨v518, rfl, ho0, hb⟩; refine ⟨_, rfl, ?_⟩; have qG := Aside0.mk (Kd.R_lower (Kd.R_newB ho0 (g := q6) (o := .cells #[.int .i64 qr, .int .i64 qs, .int .i64 qt, .int .i64 qu] 25 (0, 0)) (pk q1)) (below_size (bnow HB))); replace q0 := bb q0 hb; replace q2 := bb q2 hb; replace q1 := bb q1 hb; replace HB := bst HB hb; (try clear hb); (try clear hb2); (try clear hk); (try clear hi); (try clear ho0); obtain ⟨ql, qp, j5⟩ := Kd.R_slice qG.out; subst j5))
  (try simp only [Act.put, List.setIfInBounds_toArray, List.set_cons_zero, List.set_cons_succ])
  go_loopg [23] k (fun kq v23 w' => ∃ (x7_1 : List (S25)) (x23_1 : Int) (x517000_1 : Int) (x517001_1 : Int) (x517002_1 : Int) (x517003_1 : Int), v23 = .int .i64 x23_1 ∧ Aside0 (grids_Group.l0 kq x7_1 (q4.length : Int) x23_1 x517000_1 x517001_1 x517002_1 x517003_1 = some (r1, r2)) ∧ Aside0 (kq ≤ k) ∧ Aside0 (Kd.R k25 25 w' w.heap.size (fun k_ => k_ ≠ q6) (.slice ql q4.length qp) x7_1) ∧ Aside0 (w'.heap[qL]? = some (.cells #[.int .i64 a0_0, .int .i64 a0_1, .int .i64 a0_2] 23 (0, 0))) ∧ Aside0 (w'.heap[qq]? = some (.cells #[.int .i64 qe, .int .i64 qf, .int .i64 qg] 23 (0, 0))) ∧ Aside0 (w'.heap[q6]? = some (.cells #[.int .i64 x517000_1, .int .i64 x517001_1, .int .i64 x517002_1, .int .i64 x517003_1] 25 (0, 0))) ∧ Aside0 (Below w.heap.size w w'))
  case atStart => exact ⟨(q4), (0), (qr), (qs), (qt), (qu), (by first | rfl | (simp; done) | (simp [*]; done)), H', ⟨Nat.le_refl _⟩, ⟨by (with_reducible repeat (first | apply Kd.R_alloc | apply Kd.R_drewN | apply Kd.R_drew)); exact Kd.R_mono qG.out (fun _ hk => hk.2)⟩, ⟨pk q0⟩, ⟨pk q2⟩, ⟨pk q1⟩, ⟨bnow HB⟩⟩
  case round =>
   clear H'
   try clear c1; try clear c2; try clear p2; try clear c3; try clear qH; try clear qI; try clear c13; try clear c14; try clear c17; try clear c22; try clear j6; try clear j7; try clear j8; try clear j9; try clear ja; try clear jb; try clear jc; try clear jd; try clear je; try clear jf; try clear jg; try clear jh; try clear ji; try clear jj; try clear jk; try clear jl; try clear jm; try clear jn; try clear jo; try clear jp; try clear jq; try clear jr; try clear js; try clear jt; try clear ju; try clear jv; try clear jw; try clear jx; try clear jy; try clear jz; try clear jA; try clear jB
   obtain ⟨x7_1, x23_1, x517000_1, x517001_1, x517002_1, x517003_1, rfl, HA, HK1, HO_7, q0, q2, q1, HB⟩ := hrel
   have hl7_1 := (Kd.R_reads' HO_7.out).1
   rw [hl7_1] at HO_7
   (try simp only [hl7_1])
   (try simp only [hl7_1] at q0)
   (try simp only [hl7_1] at q2)
   (try simp only [hl7_1] at q1)
   cases gk with
   | zero => exact absurd HA.out (by simp [grids_Group.l0])
   | succ k1 =>
    have H := HA.out
    clear HA
    simp only [grids_Group.l0] at H
    by_cases c23 : x23_1 < (q4.length : Int)
    ·rw [if_pos c23] at H
     have qx : decide (x23_1 < (q4.length : Int)) = true := decide_eq_true c23
     (try (have qy := qx; simp only [hl7_1] at qy))
     clear c23
     by_cases c24 : 0 ≤ x23_1
     ·rw [if_pos c24] at H
      have jE : decide (0 ≤ x23_1) = true := decide_eq_true c24
      clear c24
      by_cases c25 : x23_1 < (x7_1.length : Int)
      ·rw [if_pos c25] at H
       have j2 : decide (x23_1 < (x7_1.length : Int)) = true := decide_eq_true c25
       (try (have j3 := j2; simp only [hl7_1] at j3))
       clear c25
       obtain ⟨⟨qM, qN, qO, qP⟩, A26, H⟩ := ob H
       obtain ⟨⟨qQ, qR, qS, qT⟩, A27, H⟩ := ob H
       obtain ⟨⟨qh, qi, qj, qk⟩, A28, H⟩ := ob H
       obtain ⟨qU, hy533⟩ : ∃ y_ : List (S25), y_ = (x7_1.set (x23_1 : Int).toNat (⟨qh, qi, qj, qk⟩ : S25)) := ⟨_, rfl⟩
       replace H : ((some (wrap64 (x23_1 + 1))).bind fun q8 => (grids_Group.l0 k1 qU (q4.length : Int) q8 x517000_1 x517001_1 x517002_1 x517003_1)) = some (r1, r2) := by first | (rw [hy533]; with_reducible exact H) | (have H2_ := (Option.bind_some _ _).symm.trans H; rw [hy533]; with_reducible exact H2_) | (have H2_ := (Option.bind_some _ _).symm.trans H; with_reducible exact H2_) | with_reducible exact H | (rw [hy533]; exact H) | exact H
       have Ny533 := Aside0.mk hy533
       clear hy533
       obtain ⟨q8, E300, H⟩ := oc H
       have E30w : (IntKind.i64.wrap (x23_1 + 1)) = q8 := (i64_w _).trans E300
       have H' := Aside0.mk H
       clear H
       try go_wp2
       replace HO_7 := Aside0.mk (Kd.R_drew HO_7.out)
       replace q0 := bd q0
       replace q2 := bd q2
       replace q1 := bd q1
       replace HB := bdn HB
       have qD : 0 ≤ (x23_1 : Int) := of_decide_eq_true (by first | (with_reducible assumption) | assumption)
       have qE : x23_1 < (x7_1.length : Int) := of_decide_eq_true (by first | (with_reducible assumption) | assumption)
       obtain ⟨q7, j4, qz, qA, qB, qC⟩ := at_T25 (Kd.R_reads' HO_7.out).2.2 x23_1 qD qE
       cases j4
       replace qD := eq_true qD
       replace qE := eq_true qE
       refine start_ (n := 13) (S := fun w' => w'.cell? ⟨q6, 0, none⟩ = some (.int .i64 x517000_1) ∧ w'.cell? ⟨q6, 1, none⟩ = some (.int .i64 x517001_1) ∧ w'.cell? ⟨q6, 2, none⟩ = some (.int .i64 x517002_1) ∧ w'.cell? ⟨q6, 3, none⟩ = some (.int .i64 x517003_1) ∧ w'.cell? (q7.add ((x23_1).toNat * 4)) = some (.int .i64 ((rd_T25 x7_1 x23_1).f0)) ∧ w'.cell? ⟨(q7.add ((x23_1).toNat * 4)).block, (q7.add ((x23_1).toNat * 4)).off + 1, none⟩ = some (.int .i64 ((rd_T25 x7_1 x23_1).f1)) ∧ w'.cell? ⟨(q7.add ((x23_1).toNat * 4)).block, (q7.add ((x23_1).toNat * 4)).off + 2, none⟩ = some (.int .i64 ((rd_T25 x7_1 x23_1).f2)) ∧ w'.cell? ⟨(q7.add ((x23_1).toNat * 4)).block, (q7.add ((x23_1).toNat * 4)).off + 3, none⟩ = some (.int .i64 ((rd_T25 x7_1 x23_1).f3))) (ds := [12]) #[false, false, false, false, false, false, false, false, false, false, false, false, false] (by kernel_rfl) rfl rfl ⟨(blk_cell q1.out 0).trans rfl, (blk_cell q1.out 1).trans rfl, (blk_cell q1.out 2).trans rfl, (blk_cell q1.out 3).trans rfl, qz, qA, qB, qC⟩ (fun hHeld => ?_); refine with_tabW grids_Group.tab9 grids_Group.bits9 (fun HT_ HW_ => ?_)
       generalize wr.drew = w31 at HO_7 q0 q2 q1 HB qz qA qB qC hHeld ⊢
       refine pz 0 26 HT_ ?_
       refine pz 1 27 HT_ ?_
       refine pz 3 29 HT_ ?_
       refine pz 4 30 HT_ ?_
       refine pz 5 31 HT_ ?_
       refine tz 2 28 HT_ HW_ hHeld ?_
       refine tz 6 32 HT_ HW_ hHeld ?_
       refine tz 8 34 HT_ HW_ hHeld ?_
       refine one_ (i := 7) (N := some 33) #[true, true, true, true, true, true, true, true, true, false, false, false, false] rfl rfl (one_of HT_.out (by kernel_rfl)) (by decide) (fun K hK => ?_)
       refine gs _ Try.func40 (grids_times.calls x517000_1 x517001_1 x517002_1 x517003_1 ((rd_T25 x7_1 x23_1).f0) ((rd_T25 x7_1 x23_1).f1) ((rd_T25 x7_1 x23_1).f2) ((rd_T25 x7_1 x23_1).f3) qM qN qO qP _ A26.out) ?_
       rintro e w32 ⟨rfl, hb⟩
       have qa := (hb.cell (World.block_lt_of_cell? _ _ (hHeld.2.2.2.2.1))).trans (hHeld.2.2.2.2.1)
       have qb := (hb.cell (World.block_lt_of_cell? _ _ (hHeld.2.2.2.2.2.1))).trans (hHeld.2.2.2.2.2.1)
       have qc := (hb.cell (World.block_lt_of_cell? _ _ (hHeld.2.2.2.2.2.2.1))).trans (hHeld.2.2.2.2.2.2.1)
       have qd := (hb.cell (World.block_lt_of_cell? _ _ (hHeld.2.2.2.2.2.2.2))).trans (hHeld.2.2.2.2.2.2.2)
       refine ⟨_, rfl, ?_⟩
       have n0_ := Aside0.mk (Kd.R_below (by (with_reducible repeat (first | apply Kd.R_alloc | apply Kd.R_drewN | apply Kd.R_drew)); exact HO_7.out) hb)
       have n1_ := bb q0 hb
       have n2_ := bb q2 hb
       have n3_ := bb q1 hb
       have n4_ := bst HB hb
       clear HO_7
       clear q0
       clear q2
       clear q1
       clear HB
       have HO_7 := n0_
       have q0 := n1_
       have q2 := n2_
       have q1 := n3_
       have HB := n4_
       clear n0_ n1_ n2_ n3_ n4_
       (try clear hb)
       (try clear hb2)
       (try clear hk)
       (try clear hi)
       refine hK.out _ _ ⟨(blk_cell q1.out 0).trans rfl, (blk_cell q1.out 1).trans rfl, (blk_cell q1.out 2).trans rfl, (blk_cell q1.out 3).trans rfl, qa, qb, qc, qd⟩ (fun hHeld => ?_)
       clear hK K
       refine norm_ (a' := ?_) ?_ ?_
       rotate_left
       ·show Act.put _ (some 33) _ = _
        simp only [Act.put, List.setIfInBounds_toArray, List.set_cons_zero, List.set_cons_succ, i64_w, i32_w]
        rfl
       refine one_ (i := 9) (N := some 35) #[true, true, true, true, true, true, true, true, true, true, false, false, false] rfl rfl (one_of HT_.out (by kernel_rfl)) (by decide) (fun K hK => ?_)
       refine gs _ Try.func57 (grids_inverse.calls x517000_1 x517001_1 x517002_1 x517003_1 qQ qR qS qT _ A27.out) ?_
       rintro e w33 ⟨rfl, hb⟩
       have qa := (hb.cell (World.block_lt_of_cell? _ _ (hHeld.2.2.2.2.1))).trans (hHeld.2.2.2.2.1)
       have qb := (hb.cell (World.block_lt_of_cell? _ _ (hHeld.2.2.2.2.2.1))).trans (hHeld.2.2.2.2.2.1)
       have qc := (hb.cell (World.block_lt_of_cell? _ _ (hHeld.2.2.2.2.2.2.1))).trans (hHeld.2.2.2.2.2.2.1)
       have qd := (hb.cell (World.block_lt_of_cell? _ _ (hHeld.2.2.2.2.2.2.2))).trans (hHeld.2.2.2.2.2.2.2)
       refine ⟨_, rfl, ?_⟩
       have n0_ := Aside0.mk (Kd.R_below (by (with_reducible repeat (first | apply Kd.R_alloc | apply Kd.R_drewN | apply Kd.R_drew)); exact HO_7.out) hb)
       have n1_ := bb q0 hb
       have n2_ := bb q2 hb
       have n3_ := bb q1 hb
       have n4_ := bst HB hb
       clear HO_7
       clear q0
       clear q2
       clear q1
       clear HB
       have HO_7 := n0_
       have q0 := n1_
       have q2 := n2_
       have q1 := n3_
       have HB := n4_
       clear n0_ n1_ n2_ n3_ n4_
       (try clear hb)
       (try clear hb2)
       (try clear hk)
       (try clear hi)
       refine hK.out _ _ ⟨(blk_cell q1.out 0).trans rfl, (blk_cell q1.out 1).trans rfl, (blk_cell q1.out 2).trans rfl, (blk_cell q1.out 3).trans rfl, qa, qb, qc, qd⟩ (fun hHeld => ?_)
       clear hK K
       refine norm_ (a' := ?_) ?_ ?_
       rotate_left
       ·show Act.put _ (some 35) _ = _
        simp only [Act.put, List.setIfInBounds_toArray, List.set_cons_zero, List.set_cons_succ, i64_w, i32_w]
        rfl
       refine one_ (i := 10) (N := some 36) #[true, true, true, true, true, true, true, true, true, true, true, false, false] rfl rfl (one_of HT_.out (by kernel_rfl)) (by decide) (fun K hK => ?_)
       refine gs _ Try.func40 (grids_times.calls qM qN qO qP qQ qR qS qT qh qi qj qk _ A28.out) ?_
       rintro e w34 ⟨rfl, hb⟩
       have qa := (hb.cell (World.block_lt_of_cell? _ _ (hHeld.2.2.2.2.1))).trans (hHeld.2.2.2.2.1)
       have qb := (hb.cell (World.block_lt_of_cell? _ _ (hHeld.2.2.2.2.2.1))).trans (hHeld.2.2.2.2.2.1)
       have qc := (hb.cell (World.block_lt_of_cell? _ _ (hHeld.2.2.2.2.2.2.1))).trans (hHeld.2.2.2.2.2.2.1)
       have qd := (hb.cell (World.block_lt_of_cell? _ _ (hHeld.2.2.2.2.2.2.2))).trans (hHeld.2.2.2.2.2.2.2)
       refine ⟨_, rfl, ?_⟩
       have n0_ := Aside0.mk (Kd.R_below (by (with_reducible repeat (first | apply Kd.R_alloc | apply Kd.R_drewN | apply Kd.R_drew)); exact HO_7.out) hb)
       have n1_ := bb q0 hb
       have n2_ := bb q2 hb
       have n3_ := bb q1 hb
       have n4_ := bst HB hb
       clear HO_7
       clear q0
       clear q2
       clear q1
       clear HB
       have HO_7 := n0_
       have q0 := n1_
       have q2 := n2_
       have q1 := n3_
       have HB := n4_
       clear n0_ n1_ n2_ n3_ n4_
       (try clear hb)
       (try clear hb2)
       (try clear hk)
       (try clear hi)
       have p29 : 0 ≤ (x23_1 : Int) := of_decide_eq_true (by first | (with_reducible assumption) | assumption)
       have q29 : (x23_1 : Int) < ((x7_1.length : Int) : Int) := of_decide_eq_true (by first | (with_reducible assumption) | assumption)
       obtain ⟨go29, jF, qJ, qK, gl29, cl29, HG29⟩ := Kd.R_form HO_7.out (by omega)
       (first | cases qJ | (injection qJ with ea_ en_ ec_; (first | subst ea_ | (injection ea_ with ea_; subst ea_)); subst ec_; clear en_))
       have GB29 := Aside0.mk qK
       have GG29 := Aside0.mk HG29
       clear qK gl29 HG29
       (first | simp only [add_plain] at qz | skip)
       (first | simp only [add_plain] at qA | skip)
       (first | simp only [add_plain] at qB | skip)
       (first | simp only [add_plain] at qC | skip)
       obtain ⟨ce29, hcl29, hM29, hcc29, hfr29⟩ := Kd.R_elem HO_7.out z25 (x23_1 : Int) p29 q29
       obtain rfl := k25_openM hM29
       have jS : World.cell? _ ⟨go29, (x23_1 : Int).toNat * 4, none⟩ = some (.int .i64 ((rd_T25 x7_1 x23_1).f0)) := hcc29 0 _ rfl
       have jT : World.cell? _ ⟨go29, (x23_1 : Int).toNat * 4 + 1, none⟩ = some (.int .i64 ((rd_T25 x7_1 x23_1).f1)) := hcc29 1 _ rfl
       have jU : World.cell? _ ⟨go29, (x23_1 : Int).toNat * 4 + 2, none⟩ = some (.int .i64 ((rd_T25 x7_1 x23_1).f2)) := hcc29 2 _ rfl
       have jV : World.cell? _ ⟨go29, (x23_1 : Int).toNat * 4 + 3, none⟩ = some (.int .i64 ((rd_T25 x7_1 x23_1).f3)) := hcc29 3 _ rfl
       have hf29_0 : World.frozen? _ ⟨go29, (x23_1 : Int).toNat * 4, none⟩ = false := hfr29 0
       have hf29_1 : World.frozen? _ ⟨go29, (x23_1 : Int).toNat * 4 + 1, none⟩ = false := hfr29 1
       have hf29_2 : World.frozen? _ ⟨go29, (x23_1 : Int).toNat * 4 + 2, none⟩ = false := hfr29 2
       have hf29_3 : World.frozen? _ ⟨go29, (x23_1 : Int).toNat * 4 + 3, none⟩ = false := hfr29 3
       (try rw [World.frozen?_setCells] at hf29_0)
       (try rw [World.frozen?_setCells] at hf29_1)
       (try rw [World.frozen?_setCells] at hf29_2)
       (try rw [World.frozen?_setCells] at hf29_3)
       clear hcl29 hcc29 hfr29 hM29
       replace p29 := eq_true p29
       replace q29 := eq_true q29
       obtain ⟨ce35, hcl35, hM35, hcc35, hfr35⟩ := Kd.R_elem HO_7.out z25 (x23_1 : Int) (of_decide_eq_true (by first | (with_reducible assumption) | assumption)) (by have h_ : (x23_1 : Int) < ((x7_1.length : Int) : Int) := of_decide_eq_true (by first | (with_reducible assumption) | assumption); first | exact h_ | (have e_ := (Kd.R_reads' HO_7.out).1; omega) | simpa using h_)
       obtain rfl := k25_openM hM35
       have HP35 := (Kd.R_seg HO_7.out (x23_1 : Int) (of_decide_eq_true (by first | (with_reducible assumption) | assumption)) (by have h_ : (x23_1 : Int) < ((x7_1.length : Int) : Int) := of_decide_eq_true (by first | (with_reducible assumption) | assumption); first | exact h_ | (have e_ := (Kd.R_reads' HO_7.out).1; omega) | simpa using h_) (seg := [.int .i64 qh, .int .i64 qi, .int .i64 qj, .int .i64 qk]) (j := 0) hcl35 hcc35 (show 4 ≤ 4 from by decide) (x' := (⟨qh, qi, qj, qk⟩ : S25)) (k25_mkM _ _ _ (⟨qh, qi, qj, qk⟩ : S25) ) (fun _ hk => hk)).1
       rw [← Ny533.out] at HP35
       have HQ35 := Aside0.mk HP35
       clear hcl35 hcc35 hfr35 hM35 HP35
       refine hK.out _ _ ⟨(blk_cell q1.out 0).trans rfl, (blk_cell q1.out 1).trans rfl, (blk_cell q1.out 2).trans rfl, (blk_cell q1.out 3).trans rfl, qa, qb, qc, qd⟩ (fun hHeld => ?_)
       clear hK K
       refine norm_ (a' := ?_) ?_ ?_
       rotate_left
       ·show Act.put _ (some 36) _ = _
        simp only [Act.put, List.setIfInBounds_toArray, List.set_cons_zero, List.set_cons_succ, i64_w, i32_w]
        rfl
       refine pz 11 37 HT_ ?_
       refine last_ (i := 12) (N := none) #[true, true, true, true, true, true, true, true, true, true, true, true, true] rfl rfl (one_of HT_.out (by kernel_rfl)) (by decide) (fun K hK => ?_)
       refine skip_ (w1 := ?_) (by rfl) rfl ?_ ?_
       rotate_left
       ·go_simp
        rfl
       refine hK.out _ _ ?_
       clear hK K
       refine done_ (done_of HT_.out (by kernel_rfl)) ?_
       try go_wp2
       (try simp only [← hl7_1])
       go_roundg k1
       case measure => have := HK1.out; omega
       case rel => exact ⟨(qU), (q8), (x517000_1), (x517001_1), (x517002_1), (x517003_1), (by first | rfl | (simp; done) | (simp [*]; done)), H', ⟨by have := HK1.out; omega⟩, ⟨by (try simp only [hl7_1]); (with_reducible repeat (first | apply Kd.R_alloc | apply Kd.R_drewN | apply Kd.R_drew)); exact HQ35.out⟩, ⟨by (try simp only [hl7_1]); (with_reducible repeat (first | refine blk_drewN ?_ _ | refine blk_drew ?_ | refine blk_alloc ?_ _)); refine blk_far ?_ (by have h_ := Kd.R_ne HO_7.out q0.out (by decide); intro e_; exact h_ (by rw [e_]; rfl)) _; (with_reducible repeat (first | refine blk_drewN ?_ _ | refine blk_drew ?_ | refine blk_alloc ?_ _)); refine blk_far ?_ (by have h_ := Kd.R_ne HO_7.out q0.out (by decide); intro e_; exact h_ (by rw [e_]; rfl)) _; (with_reducible repeat (first | refine blk_drewN ?_ _ | refine blk_drew ?_ | refine blk_alloc ?_ _)); refine blk_far ?_ (by have h_ := Kd.R_ne HO_7.out q0.out (by decide); intro e_; exact h_ (by rw [e_]; rfl)) _; (with_reducible repeat (first | refine blk_drewN ?_ _ | refine blk_drew ?_ | refine blk_alloc ?_ _)); refine blk_far ?_ (by have h_ := Kd.R_ne HO_7.out q0.out (by decide); intro e_; exact h_ (by rw [e_]; rfl)) _; (with_reducible repeat (first | refine blk_drewN ?_ _ | refine blk_drew ?_ | refine blk_alloc ?_ _)); exact q0.out⟩, ⟨by (try simp only [hl7_1]); (with_reducible repeat (first | refine blk_drewN ?_ _ | refine blk_drew ?_ | refine blk_alloc ?_ _)); refine blk_far ?_ (by have h_ := Kd.R_ne HO_7.out q2.out (by decide); intro e_; exact h_ (by rw [e_]; rfl)) _; (with_reducible repeat (first | refine blk_drewN ?_ _ | refine blk_drew ?_ | refine blk_alloc ?_ _)); refine blk_far ?_ (by have h_ := Kd.R_ne HO_7.out q2.out (by decide); intro e_; exact h_ (by rw [e_]; rfl)) _; (with_reducible repeat (first | refine blk_drewN ?_ _ | refine blk_drew ?_ | refine blk_alloc ?_ _)); refine blk_far ?_ (by have h_ := Kd.R_ne HO_7.out q2.out (by decide); intro e_; exact h_ (by rw [e_]; rfl)) _; (with_reducible repeat (first | refine blk_drewN ?_ _ | refine blk_drew ?_ | refine blk_alloc ?_ _)); refine blk_far ?_ (by have h_ := Kd.R_ne HO_7.out q2.out (by decide); intro e_; exact h_ (by rw [e_]; rfl)) _; (with_reducible repeat (first | refine blk_drewN ?_ _ | refine blk_drew ?_ | refine blk_alloc ?_ _)); exact q2.out⟩, ⟨by (try simp only [hl7_1]); (with_reducible repeat (first | refine blk_drewN ?_ _ | refine blk_drew ?_ | refine blk_alloc ?_ _)); refine blk_far ?_ (by have h_ := Kd.R_away HO_7.out (fun _ hk => hk); intro e_; exact h_ (by rw [e_]; rfl)) _; (with_reducible repeat (first | refine blk_drewN ?_ _ | refine blk_drew ?_ | refine blk_alloc ?_ _)); refine blk_far ?_ (by have h_ := Kd.R_away HO_7.out (fun _ hk => hk); intro e_; exact h_ (by rw [e_]; rfl)) _; (with_reducible repeat (first | refine blk_drewN ?_ _ | refine blk_drew ?_ | refine blk_alloc ?_ _)); refine blk_far ?_ (by have h_ := Kd.R_away HO_7.out (fun _ hk => hk); intro e_; exact h_ (by rw [e_]; rfl)) _; (with_reducible repeat (first | refine blk_drewN ?_ _ | refine blk_drew ?_ | refine blk_alloc ?_ _)); refine blk_far ?_ (by have h_ := Kd.R_away HO_7.out (fun _ hk => hk); intro e_; exact h_ (by rw [e_]; rfl)) _; (with_reducible repeat (first | refine blk_drewN ?_ _ | refine blk_drew ?_ | refine blk_alloc ?_ _)); exact q1.out⟩, ⟨by repeat (first | (with_reducible first | exact HB.out | apply below_alloc | apply pw_below_drewN | apply below_drew1 | refine below_set ?_ GB29.out | refine below_set ?_ GB29.out | refine below_set ?_ GB29.out | refine below_set ?_ GB29.out | refine below_set ?_ q9.out | refine below_set ?_ qv.out | refine below_set ?_ qw.out) | exact HB.out)⟩⟩
      ·rw [if_neg c25] at H
       exact absurd H (by simp)
     ·rw [if_neg c24] at H
      exact absurd H (by simp)
    ·rw [if_neg c23] at H
     have qx : decide (x23_1 < (q4.length : Int)) = false := decide_eq_false c23
     (try (have qy := qx; simp only [hl7_1] at qy))
     clear c23
     obtain ⟨qF, A36, H⟩ := ob H
     simp only [Option.some.injEq, Prod.mk.injEq] at H
     obtain ⟨rfl, rfl⟩ := H
     go_wp2_with (first | ((with_reducible refine gate_callee (f := 58) rfl ?_); refine goesL_ (some 40) rfl rfl Try.func58 (by kernel_rfl) rfl #[.slice ql x7_1.length qp, .func (.func 42) #[] #[]] rfl am ?_; (with_reducible refine (api_GrMatrix_58.calls k1 (fun k_ => some k_ = (.slice ql x7_1.length qp : Value).ownBlock) (.slice ql x7_1.length qp) x7_1  qF w _ ?side1 ?side2 A36.out).mono ?_); (case side1 => repeat (first | (with_reducible first | exact HB.out | apply below_alloc | apply pw_below_drewN | apply below_drew1 | refine below_set ?_ q9.out | refine below_set ?_ qv.out | refine below_set ?_ qw.out) | exact HB.out)); (case side2 => exact Kd.R_tight rfl HO_7.out); rintro e w37 ⟨rfl, hy0, hb, hkp⟩; refine ⟨_, rfl, ?_⟩; have n0_ := Aside0.mk (Kd.R_reok rfl hy0 (fun k_ e_ => HO_7.out.1 k_ e_)); have n1_ := Aside0.mk (blk_kept (pk q0) hkp (fun hs_ => (fun e_ => (Kd.R_ne HO_7.out q0.out (by decide)) e_) hs_)); have n2_ := Aside0.mk (blk_kept (pk q2) hkp (fun hs_ => (fun e_ => (Kd.R_ne HO_7.out q2.out (by decide)) e_) hs_)); have n3_ := Aside0.mk (blk_kept (pk q1) hkp (fun hs_ => (fun e_ => (Kd.R_away HO_7.out (fun _ hk => hk)) e_) hs_)); have n4_ := Aside0.mk (hb); clear HO_7; clear q0; clear q2; clear q1; clear HB; have HO_7 := n0_; have q0 := n1_; have q2 := n2_; have q1 := n3_; have HB := n4_; clear n0_ n1_ n2_ n3_ n4_; (try clear hb); (try clear hkp); (try clear hy0)))
     go_ret2
     exact ⟨_, by first | rfl | (simp [errW_none, errW_some] <;> rfl) | (simp [*, errW_none, errW_some] <;> rfl), by (with_reducible repeat (first | apply Kd.R_alloc | apply Kd.R_drewN | apply Kd.R_drew)); exact Kd.R_mono HO_7.out (fun _ hk => trivial), by repeat (first | (with_reducible first | exact HB.out | apply below_alloc | apply pw_below_drewN | apply below_drew1 | refine below_set ?_ q9.out | refine below_set ?_ qv.out | refine below_set ?_ qw.out) | exact HB.out)⟩
 ·rw [if_neg c3] at H
  have qH : (q5 == 0) = false := beq_eq_false_iff_ne.mpr c3
  have qI : (q5 != 0) = true := bne_iff_ne.mpr c3
  simp only [Option.some.injEq, Prod.mk.injEq] at H
  obtain ⟨rfl, rfl⟩ := H
  go_enter Try.func22, Try.ntmps22
  go_wp2_with (first | ((with_reducible refine gate_dst (N := 1) rfl ?_); refine bx 1 #[.int .i64 a0_0, .int .i64 a0_1, .int .i64 a0_2] 23 fun qL hg w38 q0 hb => ?_; have qV := gw hg HB; have q9 := gw hg HB; replace HB := bst HB hb; clear hb hg; have ⟨jG, jH, jI, jJ, jK, jL⟩ := cf3 q0) | ((with_reducible refine gate_callee (f := 14) rfl ?_); refine gl 10 Try.func14 (grids_Check.calls k a0_0 a0_1 a0_2 q5 _ A2.out) ?_; rintro e w40 ⟨rfl, hb⟩; refine ⟨_, rfl, ?_⟩; replace q0 := bb q0 hb; replace HB := bst HB hb; clear hb))
  go_ret2
  exact ⟨_, by first | rfl | (simp [errW_none, errW_some] <;> rfl) | (simp [*, errW_none, errW_some] <;> rfl), by first | exact Kd.R_nil _ _ _ _ _ | exact Kd.N_nil _ _ _ _ _ | exact Kd.V_nil _ _ _ _ _ | exact Kd.Q_nil _ _ _ _ _ | exact Kd.S_nil _ _ _ _ _, by repeat (first | (with_reducible first | exact HB.out | apply below_alloc | apply pw_below_drewN | apply below_drew1 | refine below_set ?_ q9.out) | exact HB.out)⟩
end
section
theorem eqA25 (d : Nat) (w : World) (x0 y0 : Int) (x1 y1 : Int) (x2 y2 : Int) (x3 y3 : Int) :
  (Op.equalIn (d + 2) 25 (.agg #[.int .i64 x0, .int .i64 x1, .int .i64 x2, .int .i64 x3]) (.agg #[.int .i64 y0, .int .i64 y1, .int .i64 y2, .int .i64 y3])).run Try.prog w = .ok (x0 == y0 && (x1 == y1 && (x2 == y2 && (x3 == y3)))) w := by
 refine eqA_of Try.underlying25 (by kernel_rfl) ?_
 refine eqf_cons (by rfl) (by go_simp; rfl) (by go_simp; rfl) (by go_simp) ?_
 refine eqf_cons (by rfl) (by go_simp; rfl) (by go_simp; rfl) (by go_simp) ?_
 refine eqf_cons (by rfl) (by go_simp; rfl) (by go_simp; rfl) (by go_simp) ?_
 exact eqf_last (by rfl) (by go_simp; rfl) (by go_simp; rfl) (by go_simp)
end
section
theorem eqA37 (d : Nat) (w : World) (x0 y0 : Int) (x1 y1 : Int) :
  (Op.equalIn (d + 2) 37 (.agg #[.int .i64 x0, .int .i64 x1]) (.agg #[.int .i64 y0, .int .i64 y1])).run Try.prog w = .ok (x0 == y0 && (x1 == y1)) w := by
 refine eqA_of Try.underlying37 (by kernel_rfl) ?_
 refine eqf_cons (by rfl) (by go_simp; rfl) (by go_simp; rfl) (by go_simp) ?_
 exact eqf_last (by rfl) (by go_simp; rfl) (by go_simp; rfl) (by go_simp)
end
section
/-! ### api_GrMatrix_41: function 41 -/
def api_GrMatrix_41.l0 : Nat → List (S25) → Int → Int → Int → Int → Int → Option (Int × Int × Int × Int)
 | 0, _, _, _, _, _, _ => none
 | k + 1, x0, x6, x205000, x205001, x205002, x205003 => if x6 < (x0.length : Int) then (if 0 ≤ x6 then ((grids_order.f k ((rd_T25 x0 x6).f0) ((rd_T25 x0 x6).f1) ((rd_T25 x0 x6).f2) ((rd_T25 x0 x6).f3) x205000 x205001 x205002 x205003).bind fun qf => (if qf < 0 then ((some (wrap64 (x6 + 1))).bind fun qj => (api_GrMatrix_41.l0 k x0 qj ((rd_T25 x0 x6).f0) ((rd_T25 x0 x6).f1) ((rd_T25 x0 x6).f2) ((rd_T25 x0 x6).f3))) else ((some (wrap64 (x6 + 1))).bind fun qk => (api_GrMatrix_41.l0 k x0 qk x205000 x205001 x205002 x205003)))) else (none)) else (some (x205000, x205001, x205002, x205003))
def api_GrMatrix_41.f (k : Nat) (l0 : List (S25))  : Option (Int × Int × Int × Int) := if (l0.length : Int) < 1 then (none) else (if 0 < (l0.length : Int) then (api_GrMatrix_41.l0 k l0 1 ((rd_T25 l0 0).f0) ((rd_T25 l0 0).f1) ((rd_T25 l0 0).f2) ((rd_T25 l0 0).f3)) else (none))
theorem api_GrMatrix_41.mono_l : ∀ k, (∀ y0 y1 y2 y3 y4 y5, LeO (api_GrMatrix_41.l0 k y0 y1 y2 y3 y4 y5) (api_GrMatrix_41.l0 (k + 1) y0 y1 y2 y3 y4 y5))
 | 0 => fun _ _ _ _ _ _ r h => by simp [api_GrMatrix_41.l0] at h
 | k + 1 => by
  have ih0 := api_GrMatrix_41.mono_l k
  ·intro y0 y1 y2 y3 y4 y5
   unfold api_GrMatrix_41.l0
   repeat' first
   | (with_reducible exact ih0 _ _ _ _ _ _)
   | (with_reducible exact grids_order.mono _ _ _ _ _ _ _ _ _)
   | (with_reducible exact LeO.refl _)
   | (with_reducible exact LeO.none _)
   | (with_reducible refine LeO.ite ?_ ?_)
   | (with_reducible refine LeO.bind ?_ (fun _ => ?_))
   | exact ih0 _ _ _ _ _ _
   | exact grids_order.mono _ _ _ _ _ _ _ _ _
   | exact LeO.none _
   | refine LeO.ite ?_ ?_
   | refine LeO.bind ?_ (fun _ => ?_)
theorem api_GrMatrix_41.mono : ∀ a0 k, LeO (api_GrMatrix_41.f k a0) (api_GrMatrix_41.f (k + 1) a0) := by
 intro a0 k
 have ih0 := api_GrMatrix_41.mono_l k
 unfold api_GrMatrix_41.f
 repeat' first
   | (with_reducible exact ih0 _ _ _ _ _ _)
   | (with_reducible exact grids_order.mono _ _ _ _ _ _ _ _ _)
   | (with_reducible exact LeO.refl _)
   | (with_reducible exact LeO.none _)
   | (with_reducible refine LeO.ite ?_ ?_)
   | (with_reducible refine LeO.bind ?_ (fun _ => ?_))
   | exact ih0 _ _ _ _ _ _
   | exact grids_order.mono _ _ _ _ _ _ _ _ _
   | exact LeO.none _
   | refine LeO.ite ?_ ?_
   | refine LeO.bind ?_ (fun _ => ?_)
def api_GrMatrix_41.T7 : Bool × List (List Nat × List Nat) := (true, [([], []), ([], []), ([], []), ([1, 2], [1, 2]), ([3], [3]), ([], []), ([0, 4, 5], [0, 4, 5]), ([6], [6])])
def api_GrMatrix_41.B7 : List Nat := [0, 0, 0, 6, 14, 0, 63, 127]
theorem api_GrMatrix_41.tab7 : rtab .any (opsOf Try.f41 7) = api_GrMatrix_41.T7 := by kernel_rfl
theorem api_GrMatrix_41.bits7 : waitsOk api_GrMatrix_41.T7.2 api_GrMatrix_41.B7 = true := by kernel_rfl
set_option maxHeartbeats 8000000 in
set_option maxRecDepth 100000 in
theorem api_GrMatrix_41.calls (k : Nat) (A0 : Option Addr) (c0 : Nat) (l0 : List (S25))  (r1 : Int) (r2 : Int) (r3 : Int) (r4 : Int) (w : World) (hr0 : Kd.C k25 w A0 l0.length l0) (hc0 : l0.length ≤ c0) (h : api_GrMatrix_41.f k l0 = some (r1, r2, r3, r4)) :
  Calls Try.prog 41 #[.slice A0 l0.length c0, .func (.func 42) #[] #[]] w fun e w' => e = .returned (.agg #[.int .i64 r1, .int .i64 r2, .int .i64 r3, .int .i64 r4]) ∧ Below w.heap.size w w' := by
 have hu25 := Try.underlying25
 have HR0 := Aside0.mk hr0
 have HC0 := Aside0.mk hc0
 clear hr0 hc0
 have HB := Aside0.mk (Below.refl w.heap.size w)
 have H : (if (l0.length : Int) < 1 then (none) else (if 0 < (l0.length : Int) then (api_GrMatrix_41.l0 k l0 1 ((rd_T25 l0 0).f0) ((rd_T25 l0 0).f1) ((rd_T25 l0 0).f2) ((rd_T25 l0 0).f3)) else (none))) = some (r1, r2, r3, r4) := h
 clear h
 by_cases c3 : (l0.length : Int) < 1
 ·rw [if_pos c3] at H
  exact absurd H (by simp)
 ·rw [if_neg c3] at H
  have qy : decide ((l0.length : Int) < 1) = false := decide_eq_false c3
  have qz : decide (l0.length < 1) = false := decide_eq_false (by omega)
  clear c3
  by_cases c4 : 0 < (l0.length : Int)
  ·rw [if_pos c4] at H
   have qA : decide (0 < (l0.length : Int)) = true := decide_eq_true c4
   have qB : decide (0 < l0.length) = true := decide_eq_true (by omega)
   clear c4
   have H' := Aside0.mk H
   clear H
   go_enter Try.func41, Try.ntmps41
   go_wp2_with (first | ((with_reducible refine gate_dst (N := 4) rfl ?_); refine bx 4 #[.int .i64 0, .int .i64 0, .int .i64 0, .int .i64 0] 25 fun qg hg w5 q1 hb => ?_; have qO := gw hg HB; have qM := gw hg HB; replace HB := bst HB hb; clear hb hg; have qh : 0 ≤ (0 : Int) := (by omega); have qi : 0 < (l0.length : Int) := of_decide_eq_true (by first | (with_reducible assumption) | assumption); obtain ⟨q3, qC, q9, qa, qb, qc⟩ := at_T25 HR0.out 0 qh qi; cases qC; have jl : (0 < l0.length) = True := eq_true (by omega); (try rw [show ((0 : Int)).toNat = 0 from rfl] at q9); (try rw [show 0 * 4 = 0 from rfl] at q9); (try rw [Addr.add_zero'] at q9); (try rw [show ((0 : Int)).toNat = 0 from rfl] at qa); (try rw [show 0 * 4 = 0 from rfl] at qa); (try rw [Addr.add_zero'] at qa); (try rw [show ((0 : Int)).toNat = 0 from rfl] at qb); (try rw [show 0 * 4 = 0 from rfl] at qb); (try rw [Addr.add_zero'] at qb); (try rw [show ((0 : Int)).toNat = 0 from rfl] at qc); (try rw [show 0 * 4 = 0 from rfl] at qc); (try rw [Addr.add_zero'] at qc); replace q9 := (HB.out.cell (World.block_lt_of_cell? w _ q9)).trans q9; replace qa := (HB.out.cell (World.block_lt_of_cell? w _ qa)).trans qa; replace qb := (HB.out.cell (World.block_lt_of_cell? w _ qb)).trans qb; replace qc := (HB.out.cell (World.block_lt_of_cell? w _ qc)).trans qc; replace qh := eq_true qh; replace qi := eq_true qi) | ((with_reducible refine gate_dst (N := 5) rfl ?_); refine bx 5 #[.int .i64 0, .int .i64 0, .int .i64 0, .int .i64 0] 25 fun q4 hg w6 q0 hb => ?_; have qP := gw hg HB; have qN := gw hg HB; have ql := nlt hg q1; have qm := ngt hg q1; replace q1 := bb q1 hb; replace HB := bst HB hb; clear hb hg; have jh := qm.out; have jk := ql.out; have ⟨qE, qF, qG, qH, qI, qJ, qK, qL⟩ := cf4 q0) | ((with_reducible refine gate_store (t := 25) (p := 5) rfl ?_); refine sx 25 5 (((((w6.setCell ⟨q4, 0, none⟩ (.int .i64 ((rd_T25 l0 0).f0))).setCell ⟨q4, 1, none⟩ (.int .i64 ((rd_T25 l0 0).f1))).setCell ⟨q4, 2, none⟩ (.int .i64 ((rd_T25 l0 0).f2))).setCell ⟨q4, 3, none⟩ (.int .i64 ((rd_T25 l0 0).f3)))) fun w9 hw => ?_; replace q1 := fw hw q1; replace q0 := pw4 hw q0; replace HB := bw hw HB; clear hw))
   (try simp only [Act.put, List.setIfInBounds_toArray, List.set_cons_zero, List.set_cons_succ])
   go_loopg [6] k (fun kq v6 w' => ∃ (x6_1 : Int) (x205000_1 : Int) (x205001_1 : Int) (x205002_1 : Int) (x205003_1 : Int), v6 = .int .i64 x6_1 ∧ Aside0 (api_GrMatrix_41.l0 kq l0 x6_1 x205000_1 x205001_1 x205002_1 x205003_1 = some (r1, r2, r3, r4)) ∧ Aside0 (kq ≤ k) ∧ Aside0 (w'.heap[qg]? = some (.cells #[.int .i64 0, .int .i64 0, .int .i64 0, .int .i64 0] 25 (0, 0))) ∧ Aside0 (w'.heap[q4]? = some (.cells #[.int .i64 x205000_1, .int .i64 x205001_1, .int .i64 x205002_1, .int .i64 x205003_1] 25 (0, 0))) ∧ Aside0 (Below w.heap.size w w'))
   case atStart => exact ⟨(1), ((rd_T25 l0 0).f0), ((rd_T25 l0 0).f1), ((rd_T25 l0 0).f2), ((rd_T25 l0 0).f3), (by first | rfl | (simp; done) | (simp [*]; done)), H', ⟨Nat.le_refl _⟩, ⟨pk q1⟩, ⟨pk q0⟩, ⟨bnow HB⟩⟩
   case round =>
    clear H'
    try clear p2; try clear q2; try clear hx2; try clear qi2; try clear c3; try clear qy; try clear qz; try clear c4; try clear qA; try clear qB; try clear c7; try clear qE; try clear qF; try clear qG; try clear qH; try clear qI; try clear qJ; try clear qK; try clear qL; try clear q9; try clear qa; try clear qb; try clear qc; try clear qh; try clear qi
    obtain ⟨x6_1, x205000_1, x205001_1, x205002_1, x205003_1, rfl, HA, HK1, q1, q0, HB⟩ := hrel
    cases gk with
    | zero => exact absurd HA.out (by simp [api_GrMatrix_41.l0])
    | succ k1 =>
     have H := HA.out
     clear HA
     simp only [api_GrMatrix_41.l0] at H
     by_cases c10 : x6_1 < (l0.length : Int)
     ·rw [if_pos c10] at H
      have qw : decide (x6_1 < (l0.length : Int)) = true := decide_eq_true c10
      clear c10
      by_cases c11 : 0 ≤ x6_1
      ·rw [if_pos c11] at H
       have qQ : decide (0 ≤ x6_1) = true := decide_eq_true c11
       clear c11
       obtain ⟨qf, A12, H⟩ := ob H
       by_cases c13 : qf < 0
       ·rw [if_pos c13] at H
        have qx : decide (qf < 0) = true := decide_eq_true c13
        clear c13
        obtain ⟨qj, E140, H⟩ := oc H
        have E14w : (IntKind.i64.wrap (x6_1 + 1)) = qj := (i64_w _).trans E140
        have H' := Aside0.mk H
        clear H
        try go_wp2
        replace q1 := bd q1
        replace q0 := bd q0
        replace HB := bdn HB
        have qd : 0 ≤ (x6_1 : Int) := of_decide_eq_true (by first | (with_reducible assumption) | assumption)
        have qe : x6_1 < (l0.length : Int) := of_decide_eq_true (by first | (with_reducible assumption) | assumption)
        obtain ⟨qn, qo, q5, q6, q7, q8⟩ := at_T25 HR0.out x6_1 qd qe
        have hw205_3 := q8
        have hw205_2 := q7
        have hw205_1 := q6
        have hw205_0 := q5
        obtain rfl : q3 = qn := (by injection qo)
        replace q5 := (HB.out.cell (World.block_lt_of_cell? w _ q5)).trans q5
        replace q6 := (HB.out.cell (World.block_lt_of_cell? w _ q6)).trans q6
        replace q7 := (HB.out.cell (World.block_lt_of_cell? w _ q7)).trans q7
        replace q8 := (HB.out.cell (World.block_lt_of_cell? w _ q8)).trans q8
        replace qd := eq_true qd
        replace qe := eq_true qe
        refine start_ (n := 8) (S := fun w' => w'.cell? ⟨q4, 0, none⟩ = some (.int .i64 x205000_1) ∧ w'.cell? ⟨q4, 1, none⟩ = some (.int .i64 x205001_1) ∧ w'.cell? ⟨q4, 2, none⟩ = some (.int .i64 x205002_1) ∧ w'.cell? ⟨q4, 3, none⟩ = some (.int .i64 x205003_1) ∧ w'.cell? (q3.add ((x6_1).toNat * 4)) = some (.int .i64 ((rd_T25 l0 x6_1).f0)) ∧ w'.cell? ⟨(q3.add ((x6_1).toNat * 4)).block, (q3.add ((x6_1).toNat * 4)).off + 1, none⟩ = some (.int .i64 ((rd_T25 l0 x6_1).f1)) ∧ w'.cell? ⟨(q3.add ((x6_1).toNat * 4)).block, (q3.add ((x6_1).toNat * 4)).off + 2, none⟩ = some (.int .i64 ((rd_T25 l0 x6_1).f2)) ∧ w'.cell? ⟨(q3.add ((x6_1).toNat * 4)).block, (q3.add ((x6_1).toNat * 4)).off + 3, none⟩ = some (.int .i64 ((rd_T25 l0 x6_1).f3))) (ds := []) #[false, false, false, false, false, false, false, false] (by kernel_rfl) rfl rfl ⟨(blk_cell q0.out 0).trans rfl, (blk_cell q0.out 1).trans rfl, (blk_cell q0.out 2).trans rfl, (blk_cell q0.out 3).trans rfl, ((HB.out.cell (World.block_lt_of_cell? w _ hw205_0)).trans hw205_0), ((HB.out.cell (World.block_lt_of_cell? w _ hw205_1)).trans hw205_1), ((HB.out.cell (World.block_lt_of_cell? w _ hw205_2)).trans hw205_2), ((HB.out.cell (World.block_lt_of_cell? w _ hw205_3)).trans hw205_3)⟩ (fun hHeld => ?_); refine with_tabW api_GrMatrix_41.tab7 api_GrMatrix_41.bits7 (fun HT_ HW_ => ?_)
        generalize wr.drew = w15 at q1 q0 HB q5 q6 q7 q8 hHeld ⊢
        refine pz 0 20 HT_ ?_
        refine pz 1 21 HT_ ?_
        refine pz 2 22 HT_ ?_
        refine pz 3 23 HT_ ?_
        refine tz 4 24 HT_ HW_ hHeld ?_
        refine tz 5 25 HT_ HW_ hHeld ?_
        refine one_ (i := 6) (N := some 26) #[true, true, true, true, true, true, true, false] rfl rfl (one_of HT_.out (by kernel_rfl)) (by decide) (fun K hK => ?_)
        refine goesV_ Try.func42 (by kernel_rfl) rfl #[.agg #[.int .i64 ((rd_T25 l0 x6_1).f0), .int .i64 ((rd_T25 l0 x6_1).f1), .int .i64 ((rd_T25 l0 x6_1).f2), .int .i64 ((rd_T25 l0 x6_1).f3)], .agg #[.int .i64 x205000_1, .int .i64 x205001_1, .int .i64 x205002_1, .int .i64 x205003_1]] (by rfl) rfl rfl (by rfl) am ?_
        with_reducible refine (grids_order.calls k1 ((rd_T25 l0 x6_1).f0) ((rd_T25 l0 x6_1).f1) ((rd_T25 l0 x6_1).f2) ((rd_T25 l0 x6_1).f3) x205000_1 x205001_1 x205002_1 x205003_1 qf _ A12.out).mono ?_
        rintro e w16 ⟨rfl, hb⟩
        refine ⟨_, rfl, ?_⟩
        replace q1 := bb q1 hb
        replace q0 := bb q0 hb
        replace HB := bst HB hb
        (try clear hb)
        (try clear hb2)
        (try clear hk)
        (try clear hi)
        refine hK.out _ _ ⟨(blk_cell q0.out 0).trans rfl, (blk_cell q0.out 1).trans rfl, (blk_cell q0.out 2).trans rfl, (blk_cell q0.out 3).trans rfl, ((HB.out.cell (World.block_lt_of_cell? w _ hw205_0)).trans hw205_0), ((HB.out.cell (World.block_lt_of_cell? w _ hw205_1)).trans hw205_1), ((HB.out.cell (World.block_lt_of_cell? w _ hw205_2)).trans hw205_2), ((HB.out.cell (World.block_lt_of_cell? w _ hw205_3)).trans hw205_3)⟩ (fun hHeld => ?_)
        clear hK K
        refine norm_ (a' := ?_) ?_ ?_
        rotate_left
        ·show Act.put _ (some 26) _ = _
         simp only [Act.put, List.setIfInBounds_toArray, List.set_cons_zero, List.set_cons_succ, i64_w, i32_w]
         rfl
        refine pz 7 27 HT_ ?_
        refine done_ (done_of HT_.out (by kernel_rfl)) ?_
        have qt : 0 ≤ (x6_1 : Int) := of_decide_eq_true (by first | (with_reducible assumption) | assumption)
        have qu : x6_1 < (l0.length : Int) := of_decide_eq_true (by first | (with_reducible assumption) | assumption)
        obtain ⟨qv, qD, qp, qq, qr, qs⟩ := at_T25 HR0.out x6_1 qt qu
        obtain rfl : q3 = qv := (by injection qD)
        replace qp := (HB.out.cell (World.block_lt_of_cell? w _ qp)).trans qp
        replace qq := (HB.out.cell (World.block_lt_of_cell? w _ qq)).trans qq
        replace qr := (HB.out.cell (World.block_lt_of_cell? w _ qr)).trans qr
        replace qs := (HB.out.cell (World.block_lt_of_cell? w _ qs)).trans qs
        replace qt := eq_true qt
        replace qu := eq_true qu
        have jf := qm.out
        have ji := ql.out
        have ⟨qR, qS, qT, qU, j3, j4, j5, j6⟩ := cf4 q0
        try go_wp2_with (first | ((with_reducible refine gate_store (t := 25) (p := 5) rfl ?_); refine sx 25 5 (((((w16.setCell ⟨q4, 0, none⟩ (.int .i64 ((rd_T25 l0 x6_1).f0))).setCell ⟨q4, 1, none⟩ (.int .i64 ((rd_T25 l0 x6_1).f1))).setCell ⟨q4, 2, none⟩ (.int .i64 ((rd_T25 l0 x6_1).f2))).setCell ⟨q4, 3, none⟩ (.int .i64 ((rd_T25 l0 x6_1).f3)))) fun w19 hw => ?_; replace q1 := fw hw q1; replace q0 := pw4 hw q0; replace HB := bw hw HB; clear hw))
        go_roundg k1
        case measure => have := HK1.out; omega
        case rel => exact ⟨(qj), ((rd_T25 l0 x6_1).f0), ((rd_T25 l0 x6_1).f1), ((rd_T25 l0 x6_1).f2), ((rd_T25 l0 x6_1).f3), (by first | rfl | (simp; done) | (simp [*]; done)), H', ⟨by have := HK1.out; omega⟩, ⟨pk q1⟩, ⟨pk q0⟩, ⟨bnow HB⟩⟩
       ·rw [if_neg c13] at H
        have qx : decide (qf < 0) = false := decide_eq_false c13
        clear c13
        obtain ⟨qk, E200, H⟩ := oc H
        have E20w : (IntKind.i64.wrap (x6_1 + 1)) = qk := (i64_w _).trans E200
        have H' := Aside0.mk H
        clear H
        try go_wp2
        replace q1 := bd q1
        replace q0 := bd q0
        replace HB := bdn HB
        have qd : 0 ≤ (x6_1 : Int) := of_decide_eq_true (by first | (with_reducible assumption) | assumption)
        have qe : x6_1 < (l0.length : Int) := of_decide_eq_true (by first | (with_reducible assumption) | assumption)
        obtain ⟨qn, qo, q5, q6, q7, q8⟩ := at_T25 HR0.out x6_1 qd qe
        have hw205_3 := q8
        have hw205_2 := q7
        have hw205_1 := q6
        have hw205_0 := q5
        obtain rfl : q3 = qn := (by injection qo)
        replace q5 := (HB.out.cell (World.block_lt_of_cell? w _ q5)).trans q5
        replace q6 := (HB.out.cell (World.block_lt_of_cell? w _ q6)).trans q6
        replace q7 := (HB.out.cell (World.block_lt_of_cell? w _ q7)).trans q7
        replace q8 := (HB.out.cell (World.block_lt_of_cell? w _ q8)).trans q8
        replace qd := eq_true qd
        replace qe := eq_true qe
        refine start_ (n := 8) (S := fun w' => w'.cell? ⟨q4, 0, none⟩ = some (.int .i64 x205000_1) ∧ w'.cell? ⟨q4, 1, none⟩ = some (.int .i64 x205001_1) ∧ w'.cell? ⟨q4, 2, none⟩ = some (.int .i64 x205002_1) ∧ w'.cell? ⟨q4, 3, none⟩ = some (.int .i64 x205003_1) ∧ w'.cell? (q3.add ((x6_1).toNat * 4)) = some (.int .i64 ((rd_T25 l0 x6_1).f0)) ∧ w'.cell? ⟨(q3.add ((x6_1).toNat * 4)).block, (q3.add ((x6_1).toNat * 4)).off + 1, none⟩ = some (.int .i64 ((rd_T25 l0 x6_1).f1)) ∧ w'.cell? ⟨(q3.add ((x6_1).toNat * 4)).block, (q3.add ((x6_1).toNat * 4)).off + 2, none⟩ = some (.int .i64 ((rd_T25 l0 x6_1).f2)) ∧ w'.cell? ⟨(q3.add ((x6_1).toNat * 4)).block, (q3.add ((x6_1).toNat * 4)).off + 3, none⟩ = some (.int .i64 ((rd_T25 l0 x6_1).f3))) (ds := []) #[false, false, false, false, false, false, false, false] (by kernel_rfl) rfl rfl ⟨(blk_cell q0.out 0).trans rfl, (blk_cell q0.out 1).trans rfl, (blk_cell q0.out 2).trans rfl, (blk_cell q0.out 3).trans rfl, ((HB.out.cell (World.block_lt_of_cell? w _ hw205_0)).trans hw205_0), ((HB.out.cell (World.block_lt_of_cell? w _ hw205_1)).trans hw205_1), ((HB.out.cell (World.block_lt_of_cell? w _ hw205_2)).trans hw205_2), ((HB.out.cell (World.block_lt_of_cell? w _ hw205_3)).trans hw205_3)⟩ (fun hHeld => ?_); refine with_tabW api_GrMatrix_41.tab7 api_GrMatrix_41.bits7 (fun HT_ HW_ => ?_)
        generalize wr.drew = w21 at q1 q0 HB q5 q6 q7 q8 hHeld ⊢
        refine pz 0 20 HT_ ?_
        refine pz 1 21 HT_ ?_
        refine pz 2 22 HT_ ?_
        refine pz 3 23 HT_ ?_
        refine tz 4 24 HT_ HW_ hHeld ?_
        refine tz 5 25 HT_ HW_ hHeld ?_
        refine one_ (i := 6) (N := some 26) #[true, true, true, true, true, true, true, false] rfl rfl (one_of HT_.out (by kernel_rfl)) (by decide) (fun K hK => ?_)
        refine goesV_ Try.func42 (by kernel_rfl) rfl #[.agg #[.int .i64 ((rd_T25 l0 x6_1).f0), .int .i64 ((rd_T25 l0 x6_1).f1), .int .i64 ((rd_T25 l0 x6_1).f2), .int .i64 ((rd_T25 l0 x6_1).f3)], .agg #[.int .i64 x205000_1, .int .i64 x205001_1, .int .i64 x205002_1, .int .i64 x205003_1]] (by rfl) rfl rfl (by rfl) am ?_
        with_reducible refine (grids_order.calls k1 ((rd_T25 l0 x6_1).f0) ((rd_T25 l0 x6_1).f1) ((rd_T25 l0 x6_1).f2) ((rd_T25 l0 x6_1).f3) x205000_1 x205001_1 x205002_1 x205003_1 qf _ A12.out).mono ?_
        rintro e w22 ⟨rfl, hb⟩
        refine ⟨_, rfl, ?_⟩
        replace q1 := bb q1 hb
        replace q0 := bb q0 hb
        replace HB := bst HB hb
        (try clear hb)
        (try clear hb2)
        (try clear hk)
        (try clear hi)
        refine hK.out _ _ ⟨(blk_cell q0.out 0).trans rfl, (blk_cell q0.out 1).trans rfl, (blk_cell q0.out 2).trans rfl, (blk_cell q0.out 3).trans rfl, ((HB.out.cell (World.block_lt_of_cell? w _ hw205_0)).trans hw205_0), ((HB.out.cell (World.block_lt_of_cell? w _ hw205_1)).trans hw205_1), ((HB.out.cell (World.block_lt_of_cell? w _ hw205_2)).trans hw205_2), ((HB.out.cell (World.block_lt_of_cell? w _ hw205_3)).trans hw205_3)⟩ (fun hHeld => ?_)
        clear hK K
        refine norm_ (a' := ?_) ?_ ?_
        rotate_left
        ·show Act.put _ (some 26) _ = _
         simp only [Act.put, List.setIfInBounds_toArray, List.set_cons_zero, List.set_cons_succ, i64_w, i32_w]
         rfl
        refine pz 7 27 HT_ ?_
        refine done_ (done_of HT_.out (by kernel_rfl)) ?_
        try go_wp2
        go_roundg k1
        case measure => have := HK1.out; omega
        case rel => exact ⟨(qk), (x205000_1), (x205001_1), (x205002_1), (x205003_1), (by first | rfl | (simp; done) | (simp [*]; done)), H', ⟨by have := HK1.out; omega⟩, ⟨pk q1⟩, ⟨pk q0⟩, ⟨bnow HB⟩⟩
      ·rw [if_neg c11] at H
       exact absurd H (by simp)
     ·rw [if_neg c10] at H
      have qw : decide (x6_1 < (l0.length : Int)) = false := decide_eq_false c10
      clear c10
      simp only [Option.some.injEq, Prod.mk.injEq] at H
      obtain ⟨rfl, rfl, rfl, rfl⟩ := H
      have jg := qm.out
      have jj := ql.out
      have ⟨qV, qW, qX, qY, j7, j8, j9, ja⟩ := cf4 q0
      have ⟨qZ, j0, j1, j2, jb, jc, jd, je⟩ := cf4 q1
      go_wp2_with (first | ((with_reducible refine gate_store (t := 25) (p := 4) rfl ?_); refine sx 25 4 (((((wr.setCell ⟨qg, 0, none⟩ (.int .i64 x205000_1)).setCell ⟨qg, 1, none⟩ (.int .i64 x205001_1)).setCell ⟨qg, 2, none⟩ (.int .i64 x205002_1)).setCell ⟨qg, 3, none⟩ (.int .i64 x205003_1))) fun w26 hw => ?_; replace q1 := pw4 hw q1; replace q0 := fw hw q0; replace HB := bw hw HB; clear hw))
      refine bodyPost_ret (results_cell_row rfl _ _ qg 25 #[.int .i64 x205000_1, .int .i64 x205001_1, .int .i64 x205002_1, .int .i64 x205003_1] (0, 0) _ rfl (pk q1) Try.underlying25 rfl (by kernel_rfl)) rfl ?_
      exact rt HB
  ·rw [if_neg c4] at H
   exact absurd H (by simp)
end
end Go.Proofs.Ytmcajdepoohlhaa.G
