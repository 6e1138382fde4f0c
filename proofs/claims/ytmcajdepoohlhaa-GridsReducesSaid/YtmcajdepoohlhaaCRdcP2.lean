/- Functions of the program as plain Lean functions, and their contracts (printed by a program of this session). No condition beyond what each states. -/
import Derived.Test.YtmcajdepoohlhaaCRdcY
import Derived.Test.YtmcajdepoohlhaaCRdcP0
import Derived.Test.YtmcajdepoohlhaaCRdcP1
namespace Go.Proofs.Ytmcajdepoohlhaa.G
open Go.RowKit Go.Proofs.YtmcajdepoohlhaaW.PrintWords Go.Proofs.YtmcajdepoohlhaaW.PrintLast Go.Proofs.YtmcajdepoohlhaaW.PrintMore
attribute [local go_sem] max2_int min2_int max_two min_two max_three min_three max_four min_four
set_option linter.unusedVariables false
set_option linter.unusedSimpArgs false
section
/-! ### grids_to: function 50 -/
def grids_to.f (a0_0 : Int) (a0_1 : Int) (a1_0 : Int) (a1_1 : Int) : Option (Int × Int) := (some (wrap64 (a1_0 - a0_0))).bind fun z405 => ((some (wrap64 (a1_1 - a0_1))).bind fun z406 => (some (z405, z406)))
set_option maxHeartbeats 8000000 in
set_option maxRecDepth 100000 in
theorem grids_to.calls (a0_0 : Int) (a0_1 : Int) (a1_0 : Int) (a1_1 : Int) (r1 : Int) (r2 : Int) (w : World) (h : grids_to.f a0_0 a0_1 a1_0 a1_1 = some (r1, r2)) :
    Calls Try.prog 50 #[.agg #[.int .i64 a0_0, .int .i64 a0_1], .agg #[.int .i64 a1_0, .int .i64 a1_1]] w fun e w' => e = .returned (.agg #[.int .i64 r1, .int .i64 r2]) ∧ Below w.heap.size w w' := by
  have hu37 := Try.underlying37
  have hu81 := Try.underlying81
  have HB := Aside0.mk (Below.refl w.heap.size w)
  have H : ((some (wrap64 (a1_0 - a0_0))).bind fun z405 => ((some (wrap64 (a1_1 - a0_1))).bind fun z406 => (some (z405, z406)))) = some (r1, r2) := h
  clear h
  obtain ⟨z405, E30, H⟩ := oc H
  have E3w : (IntKind.i64.wrap (a1_0 - a0_0)) = z405 := (i64_w _).trans E30
  obtain ⟨z406, E40, H⟩ := oc H
  have E4w : (IntKind.i64.wrap (a1_1 - a0_1)) = z406 := (i64_w _).trans E40
  simp only [Option.some.injEq, Prod.mk.injEq] at H
  obtain ⟨rfl, rfl⟩ := H
  go_enter Try.func50, Try.ntmps50
  go_wp2_with (first | ((with_reducible refine gate_dst (N := 2) rfl ?_); refine bx 2 #[.int .i64 a0_0, .int .i64 a0_1] 37 fun gb402 hg w5 BK402 hb => ?_; have GW402 := gw hg HB; have GE402 := gw hg HB; replace HB := bst HB hb; clear hb hg) | ((with_reducible refine gate_dst (N := 3) rfl ?_); refine bx 3 #[.int .i64 a1_0, .int .i64 a1_1] 37 fun gb403 hg w6 BK403 hb => ?_; have GW403 := gw hg HB; have GE403 := gw hg HB; have NB402_403 := nlt hg BK402; have NB403_402 := ngt hg BK402; replace BK402 := bb BK402 hb; replace HB := bst HB hb; clear hb hg) | ((with_reducible refine gate_dst (N := 4) rfl ?_); refine bx 4 #[.int .i64 0, .int .i64 0] 81 fun gb404 hg w7 BK404 hb => ?_; have GW404 := gw hg HB; have GE404 := gw hg HB; have NB402_404 := nlt hg BK402; have NB404_402 := ngt hg BK402; have NB403_404 := nlt hg BK403; have NB404_403 := ngt hg BK403; replace BK402 := bb BK402 hb; replace BK403 := bb BK403 hb; replace HB := bst HB hb; clear hb hg; have hnb8 := NB403_402.out; have hnc8 := NB402_403.out; have hnb9 := NB403_404.out; have hnc9 := NB404_403.out; have ⟨hcz10_0, hcz10_1, hfz10_0, hfz10_1⟩ := cf2 BK403; have hnb11 := NB402_404.out; have hnc11 := NB404_402.out; have ⟨hcz12_0, hcz12_1, hfz12_0, hfz12_1⟩ := cf2 BK402; have ⟨hcz13_0, hcz13_1, hfz13_0, hfz13_1⟩ := cf2 BK404))
  refine bodyPost_ret (results_cell_row rfl _ _ gb404 81 #[.int .i64 z405, .int .i64 z406] (0, 0) _ rfl (by (with_reducible repeat (first | refine blk_drewN ?_ _ | refine blk_drew ?_ | refine blk_alloc ?_ _)); refine blk_put (cs := #[.int .i64 z405, .int .i64 0]) ?_ 1 _ rfl; (with_reducible repeat (first | refine blk_drewN ?_ _ | refine blk_drew ?_ | refine blk_alloc ?_ _)); refine blk_put (cs := #[.int .i64 0, .int .i64 0]) ?_ 0 _ rfl; (with_reducible repeat (first | refine blk_drewN ?_ _ | refine blk_drew ?_ | refine blk_alloc ?_ _)); exact BK404.out) Try.underlying81 rfl (by kernel_rfl)) rfl ?_
  exact rt HB
end
section
/-! ### cmp_isNaN_int: function 78 -/
def cmp_isNaN_int.f (a0 : Int) : Option (Bool) := some (a0 != a0)
set_option maxHeartbeats 8000000 in
set_option maxRecDepth 100000 in
theorem cmp_isNaN_int.calls (a0 : Int) (r : Bool) (w : World) (h : cmp_isNaN_int.f a0 = some r) :
    Calls Try.prog 78 #[.int .i64 a0] w fun e w' => e = .returned (.bool r) ∧ Drawn0 w w' := by
  have H : (some (a0 != a0)) = some r := h
  clear h
  obtain rfl := Option.some.inj H
  go_enter Try.func78, Try.ntmps78
  go_wp2
  go_ret
  exact ⟨by first | rfl | (simp; done) | (simp [*]; done), by repeat (first | exact Drawn0.refl _ | apply Drawn0.step)⟩
end
section
/-! ### cmp_Compare_int: function 52 -/
def cmp_Compare_int.f (a0 : Int) (a1 : Int) : Option (Int) := (cmp_isNaN_int.f a0).bind fun t407 => ((cmp_isNaN_int.f a1).bind fun t408 => (if t407 = true then (if t408 = true then (some 0) else (some (-1))) else (if t408 = true then (some 1) else (if a0 < a1 then (some (-1)) else (if a0 > a1 then (some 1) else (some 0))))))
set_option maxHeartbeats 8000000 in
set_option maxRecDepth 100000 in
theorem cmp_Compare_int.calls (a0 : Int) (a1 : Int) (r : Int) (w : World) (h : cmp_Compare_int.f a0 a1 = some r) :
    Calls Try.prog 52 #[.int .i64 a0, .int .i64 a1] w fun e w' => e = .returned (.int .i64 r) ∧ Drawn0 w w' := by
  have H : ((cmp_isNaN_int.f a0).bind fun t407 => ((cmp_isNaN_int.f a1).bind fun t408 => (if t407 = true then (if t408 = true then (some 0) else (some (-1))) else (if t408 = true then (some 1) else (if a0 < a1 then (some (-1)) else (if a0 > a1 then (some 1) else (some 0))))))) = some r := h
  clear h
  obtain ⟨t407, A3, H⟩ := ob H
  obtain ⟨t408, A4, H⟩ := ob H
  by_cases c5 : t407 = true
  · subst c5
    have H1 : (if t408 = true then (some 0) else (some (-1))) = some r := by rw [if_pos rfl] at H; exact H
    clear H
    have H := H1
    clear H1
    by_cases c6 : t408 = true
    · subst c6
      have H1 : (some 0) = some r := by rw [if_pos rfl] at H; exact H
      clear H
      have H := H1
      clear H1
      obtain rfl := Option.some.inj H
      go_enter Try.func52, Try.ntmps52
      go_wp2_with (first | ((with_reducible refine gate_callee (f := 78) rfl ?_); refine goesL_ (some 8) rfl rfl Try.func78 (by kernel_rfl) rfl #[.int .i64 a0] rfl am ?_; (with_reducible refine (cmp_isNaN_int.calls a0 true _ A3.out).mono ?_); rintro e w' ⟨rfl, ⟨nd, rfl⟩⟩; refine ⟨_, rfl, ?_⟩) | ((with_reducible refine gate_callee (f := 78) rfl ?_); refine goesL_ (some 10) rfl rfl Try.func78 (by kernel_rfl) rfl #[.int .i64 a1] rfl am ?_; (with_reducible refine (cmp_isNaN_int.calls a1 true _ A4.out).mono ?_); rintro e w' ⟨rfl, ⟨nd, rfl⟩⟩; refine ⟨_, rfl, ?_⟩))
      go_ret
      exact ⟨by first | rfl | (simp; done) | (simp [*]; done), by repeat (first | exact Drawn0.refl _ | apply Drawn0.step)⟩
    · replace c6 := Bool.eq_false_iff.mpr c6
      subst c6
      have H1 : (some (-1)) = some r := by rw [if_neg (show ¬ (false = true) by decide)] at H; exact H
      clear H
      have H := H1
      clear H1
      obtain rfl := Option.some.inj H
      go_enter Try.func52, Try.ntmps52
      go_wp2_with (first | ((with_reducible refine gate_callee (f := 78) rfl ?_); refine goesL_ (some 8) rfl rfl Try.func78 (by kernel_rfl) rfl #[.int .i64 a0] rfl am ?_; (with_reducible refine (cmp_isNaN_int.calls a0 true _ A3.out).mono ?_); rintro e w' ⟨rfl, ⟨nd, rfl⟩⟩; refine ⟨_, rfl, ?_⟩) | ((with_reducible refine gate_callee (f := 78) rfl ?_); refine goesL_ (some 10) rfl rfl Try.func78 (by kernel_rfl) rfl #[.int .i64 a1] rfl am ?_; (with_reducible refine (cmp_isNaN_int.calls a1 false _ A4.out).mono ?_); rintro e w' ⟨rfl, ⟨nd, rfl⟩⟩; refine ⟨_, rfl, ?_⟩))
      go_ret
      exact ⟨by first | rfl | (simp; done) | (simp [*]; done), by repeat (first | exact Drawn0.refl _ | apply Drawn0.step)⟩
  · replace c5 := Bool.eq_false_iff.mpr c5
    subst c5
    have H1 : (if t408 = true then (some 1) else (if a0 < a1 then (some (-1)) else (if a0 > a1 then (some 1) else (some 0)))) = some r := by rw [if_neg (show ¬ (false = true) by decide)] at H; exact H
    clear H
    have H := H1
    clear H1
    by_cases c7 : t408 = true
    · subst c7
      have H1 : (some 1) = some r := by rw [if_pos rfl] at H; exact H
      clear H
      have H := H1
      clear H1
      obtain rfl := Option.some.inj H
      go_enter Try.func52, Try.ntmps52
      go_wp2_with (first | ((with_reducible refine gate_callee (f := 78) rfl ?_); refine goesL_ (some 8) rfl rfl Try.func78 (by kernel_rfl) rfl #[.int .i64 a0] rfl am ?_; (with_reducible refine (cmp_isNaN_int.calls a0 false _ A3.out).mono ?_); rintro e w' ⟨rfl, ⟨nd, rfl⟩⟩; refine ⟨_, rfl, ?_⟩) | ((with_reducible refine gate_callee (f := 78) rfl ?_); refine goesL_ (some 10) rfl rfl Try.func78 (by kernel_rfl) rfl #[.int .i64 a1] rfl am ?_; (with_reducible refine (cmp_isNaN_int.calls a1 true _ A4.out).mono ?_); rintro e w' ⟨rfl, ⟨nd, rfl⟩⟩; refine ⟨_, rfl, ?_⟩))
      go_ret
      exact ⟨by first | rfl | (simp; done) | (simp [*]; done), by repeat (first | exact Drawn0.refl _ | apply Drawn0.step)⟩
    · replace c7 := Bool.eq_false_iff.mpr c7
      subst c7
      have H1 : (if a0 < a1 then (some (-1)) else (if a0 > a1 then (some 1) else (some 0))) = some r := by rw [if_neg (show ¬ (false = true) by decide)] at H; exact H
      clear H
      have H := H1
      clear H1
      by_cases c8 : a0 < a1
      · rw [if_pos c8] at H
        have c8b0 : decide (a0 < a1) = true := decide_eq_true c8
        clear c8
        obtain rfl := Option.some.inj H
        go_enter Try.func52, Try.ntmps52
        go_wp2_with (first | ((with_reducible refine gate_callee (f := 78) rfl ?_); refine goesL_ (some 8) rfl rfl Try.func78 (by kernel_rfl) rfl #[.int .i64 a0] rfl am ?_; (with_reducible refine (cmp_isNaN_int.calls a0 false _ A3.out).mono ?_); rintro e w' ⟨rfl, ⟨nd, rfl⟩⟩; refine ⟨_, rfl, ?_⟩) | ((with_reducible refine gate_callee (f := 78) rfl ?_); refine goesL_ (some 10) rfl rfl Try.func78 (by kernel_rfl) rfl #[.int .i64 a1] rfl am ?_; (with_reducible refine (cmp_isNaN_int.calls a1 false _ A4.out).mono ?_); rintro e w' ⟨rfl, ⟨nd, rfl⟩⟩; refine ⟨_, rfl, ?_⟩))
        go_ret
        exact ⟨by first | rfl | (simp; done) | (simp [*]; done), by repeat (first | exact Drawn0.refl _ | apply Drawn0.step)⟩
      · rw [if_neg c8] at H
        have c8b0 : decide (a0 < a1) = false := decide_eq_false c8
        clear c8
        by_cases c9 : a0 > a1
        · rw [if_pos c9] at H
          have c9b0 : decide (a1 < a0) = true := decide_eq_true c9
          clear c9
          obtain rfl := Option.some.inj H
          go_enter Try.func52, Try.ntmps52
          go_wp2_with (first | ((with_reducible refine gate_callee (f := 78) rfl ?_); refine goesL_ (some 8) rfl rfl Try.func78 (by kernel_rfl) rfl #[.int .i64 a0] rfl am ?_; (with_reducible refine (cmp_isNaN_int.calls a0 false _ A3.out).mono ?_); rintro e w' ⟨rfl, ⟨nd, rfl⟩⟩; refine ⟨_, rfl, ?_⟩) | ((with_reducible refine gate_callee (f := 78) rfl ?_); refine goesL_ (some 10) rfl rfl Try.func78 (by kernel_rfl) rfl #[.int .i64 a1] rfl am ?_; (with_reducible refine (cmp_isNaN_int.calls a1 false _ A4.out).mono ?_); rintro e w' ⟨rfl, ⟨nd, rfl⟩⟩; refine ⟨_, rfl, ?_⟩))
          go_ret
          exact ⟨by first | rfl | (simp; done) | (simp [*]; done), by repeat (first | exact Drawn0.refl _ | apply Drawn0.step)⟩
        · rw [if_neg c9] at H
          have c9b0 : decide (a1 < a0) = false := decide_eq_false c9
          clear c9
          obtain rfl := Option.some.inj H
          go_enter Try.func52, Try.ntmps52
          go_wp2_with (first | ((with_reducible refine gate_callee (f := 78) rfl ?_); refine goesL_ (some 8) rfl rfl Try.func78 (by kernel_rfl) rfl #[.int .i64 a0] rfl am ?_; (with_reducible refine (cmp_isNaN_int.calls a0 false _ A3.out).mono ?_); rintro e w' ⟨rfl, ⟨nd, rfl⟩⟩; refine ⟨_, rfl, ?_⟩) | ((with_reducible refine gate_callee (f := 78) rfl ?_); refine goesL_ (some 10) rfl rfl Try.func78 (by kernel_rfl) rfl #[.int .i64 a1] rfl am ?_; (with_reducible refine (cmp_isNaN_int.calls a1 false _ A4.out).mono ?_); rintro e w' ⟨rfl, ⟨nd, rfl⟩⟩; refine ⟨_, rfl, ?_⟩))
          go_ret
          exact ⟨by first | rfl | (simp; done) | (simp [*]; done), by repeat (first | exact Drawn0.refl _ | apply Drawn0.step)⟩
end
section
/-! ### grids_step_cross: function 55 -/
def grids_step_cross.f (a0_0 : Int) (a0_1 : Int) (a1_0 : Int) (a1_1 : Int) : Option (Int) := (some (wrap64 (a0_0 * a1_1))).bind fun z411 => ((some (wrap64 (a0_1 * a1_0))).bind fun z412 => ((some (wrap64 (z411 - z412))).bind fun z413 => (some z413)))
set_option maxHeartbeats 8000000 in
set_option maxRecDepth 100000 in
theorem grids_step_cross.calls (a0_0 : Int) (a0_1 : Int) (a1_0 : Int) (a1_1 : Int) (r : Int) (w : World) (h : grids_step_cross.f a0_0 a0_1 a1_0 a1_1 = some r) :
    Calls Try.prog 55 #[.agg #[.int .i64 a0_0, .int .i64 a0_1], .agg #[.int .i64 a1_0, .int .i64 a1_1]] w fun e w' => e = .returned (.int .i64 r) ∧ Below w.heap.size w w' := by
  have hu81 := Try.underlying81
  have HB := Aside0.mk (Below.refl w.heap.size w)
  have H : ((some (wrap64 (a0_0 * a1_1))).bind fun z411 => ((some (wrap64 (a0_1 * a1_0))).bind fun z412 => ((some (wrap64 (z411 - z412))).bind fun z413 => (some z413)))) = some r := h
  clear h
  obtain ⟨z411, E30, H⟩ := oc H
  have E3w : (IntKind.i64.wrap (a0_0 * a1_1)) = z411 := (i64_w _).trans E30
  obtain ⟨z412, E40, H⟩ := oc H
  have E4w : (IntKind.i64.wrap (a0_1 * a1_0)) = z412 := (i64_w _).trans E40
  obtain ⟨z413, E50, H⟩ := oc H
  have E5w : (IntKind.i64.wrap (z411 - z412)) = z413 := (i64_w _).trans E50
  obtain rfl := Option.some.inj H
  go_enter Try.func55, Try.ntmps55
  go_wp2_with (first | ((with_reducible refine gate_dst (N := 2) rfl ?_); refine bx 2 #[.int .i64 a0_0, .int .i64 a0_1] 81 fun gb409 hg w6 BK409 hb => ?_; have GW409 := gw hg HB; have GE409 := gw hg HB; replace HB := bst HB hb; clear hb hg) | ((with_reducible refine gate_dst (N := 3) rfl ?_); refine bx 3 #[.int .i64 a1_0, .int .i64 a1_1] 81 fun gb410 hg w7 BK410 hb => ?_; have GW410 := gw hg HB; have GE410 := gw hg HB; have NB409_410 := nlt hg BK409; have NB410_409 := ngt hg BK409; replace BK409 := bb BK409 hb; replace HB := bst HB hb; clear hb hg; have hnb8 := NB409_410.out; have hnc8 := NB410_409.out; have ⟨hcz9_0, hcz9_1, hfz9_0, hfz9_1⟩ := cf2 BK409; have ⟨hcz10_0, hcz10_1, hfz10_0, hfz10_1⟩ := cf2 BK410))
  go_ret
  exact rt HB
end
section
/-! ### grids_step_half: function 53 -/
def grids_step_half.j0 : Nat → Bool → Option (Int)
  | 0, _ => none
  | k + 1, x28 => if x28 = true then (some 0) else (some 1)
def grids_step_half.f (k : Nat) (a0_0 : Int) (a0_1 : Int) (a1_0 : Int) (a1_1 : Int) : Option (Int) := (grids_step_cross.f a0_0 a0_1 a1_0 a1_1).bind fun t416 => (if t416 > 0 then (grids_step_half.j0 k true) else (if t416 = 0 then ((some (wrap64 (a0_0 * a1_0))).bind fun z417 => ((some (wrap64 (a0_1 * a1_1))).bind fun z418 => ((some (wrap64 (z417 + z418))).bind fun z419 => (grids_step_half.j0 k (decide (z419 > 0)))))) else (grids_step_half.j0 k false)))
theorem grids_step_half.mono_l : ∀ k, (∀ y0, LeO (grids_step_half.j0 k y0) (grids_step_half.j0 (k + 1) y0))
  | 0 => fun _ r h => by simp [grids_step_half.j0] at h
  | k + 1 => by
    have ih0 := grids_step_half.mono_l k
    · intro y0
      unfold grids_step_half.j0
      repeat' first
      | (with_reducible exact ih0 _)
      | (with_reducible exact LeO.refl _)
      | (with_reducible exact LeO.none _)
      | (with_reducible refine LeO.ite ?_ ?_)
      | (with_reducible refine LeO.bind ?_ (fun _ => ?_))
      | exact ih0 _
      | exact LeO.none _
      | refine LeO.ite ?_ ?_
      | refine LeO.bind ?_ (fun _ => ?_)
theorem grids_step_half.mono : ∀ a0 a1 a2 a3 k, LeO (grids_step_half.f k a0 a1 a2 a3) (grids_step_half.f (k + 1) a0 a1 a2 a3) := by
  intro a0 a1 a2 a3 k
  have ih0 := grids_step_half.mono_l k
  unfold grids_step_half.f
  repeat' first
      | (with_reducible exact ih0 _)
      | (with_reducible exact LeO.refl _)
      | (with_reducible exact LeO.none _)
      | (with_reducible refine LeO.ite ?_ ?_)
      | (with_reducible refine LeO.bind ?_ (fun _ => ?_))
      | exact ih0 _
      | exact LeO.none _
      | refine LeO.ite ?_ ?_
      | refine LeO.bind ?_ (fun _ => ?_)
set_option maxHeartbeats 8000000 in
set_option maxRecDepth 100000 in
theorem grids_step_half.calls (k : Nat) (a0_0 : Int) (a0_1 : Int) (a1_0 : Int) (a1_1 : Int) (r : Int) (w : World) (h : grids_step_half.f k a0_0 a0_1 a1_0 a1_1 = some r) :
    Calls Try.prog 53 #[.agg #[.int .i64 a0_0, .int .i64 a0_1], .agg #[.int .i64 a1_0, .int .i64 a1_1]] w fun e w' => e = .returned (.int .i64 r) ∧ Below w.heap.size w w' := by
  have hu81 := Try.underlying81
  have HB := Aside0.mk (Below.refl w.heap.size w)
  have H : ((grids_step_cross.f a0_0 a0_1 a1_0 a1_1).bind fun t416 => (if t416 > 0 then (grids_step_half.j0 k true) else (if t416 = 0 then ((some (wrap64 (a0_0 * a1_0))).bind fun z417 => ((some (wrap64 (a0_1 * a1_1))).bind fun z418 => ((some (wrap64 (z417 + z418))).bind fun z419 => (grids_step_half.j0 k (decide (z419 > 0)))))) else (grids_step_half.j0 k false)))) = some r := h
  clear h
  obtain ⟨t416, A3, H⟩ := ob H
  have HC4 := Aside0.mk H
  clear H
  go_enter Try.func53, Try.ntmps53
  go_upto_region 2 with (first | ((with_reducible refine gate_dst (N := 2) rfl ?_); refine bx 2 #[.int .i64 a0_0, .int .i64 a0_1] 81 fun gb414 hg w5 BK414 hb => ?_; have GW414 := gw hg HB; have GE414 := gw hg HB; replace HB := bst HB hb; clear hb hg) | ((with_reducible refine gate_dst (N := 3) rfl ?_); refine bx 3 #[.int .i64 a1_0, .int .i64 a1_1] 81 fun gb415 hg w6 BK415 hb => ?_; have GW415 := gw hg HB; have GE415 := gw hg HB; have NB414_415 := nlt hg BK414; have NB415_414 := ngt hg BK414; replace BK414 := bb BK414 hb; replace HB := bst HB hb; clear hb hg; have hnb7 := NB414_415.out; have hnc7 := NB415_414.out; have ⟨hcz8_0, hcz8_1, hfz8_0, hfz8_1⟩ := cf2 BK414; have ⟨hcz9_0, hcz9_1, hfz9_0, hfz9_1⟩ := cf2 BK415) | ((with_reducible refine gate_callee (f := 55) rfl ?_); refine gl 8 Try.func55 (grids_step_cross.calls a0_0 a0_1 a1_0 a1_1 t416 _ A3.out) ?_; rintro e w10 ⟨rfl, hb⟩; refine ⟨_, rfl, ?_⟩; replace BK414 := bb BK414 hb; replace BK415 := bb BK415 hb; replace HB := bst HB hb; clear hb))
  (try simp only [Act.put, List.setIfInBounds_toArray, List.set_cons_zero, List.set_cons_succ])
  go_cut [28] (fun v28 wc => ∃ (kq : Nat) (x28_3 : Bool), v28 = .bool x28_3 ∧ Aside0 (grids_step_half.j0 kq x28_3 = some r) ∧ Aside0 (kq ≤ k) ∧ Aside0 (wc.heap[gb414]? = some (.cells #[.int .i64 a0_0, .int .i64 a0_1] 81 (0, 0))) ∧ Aside0 (wc.heap[gb415]? = some (.cells #[.int .i64 a1_0, .int .i64 a1_1] 81 (0, 0))) ∧ Aside0 (Below w.heap.size w wc))
  case first =>
    have H := HC4.out
    clear HC4
    by_cases c11 : t416 > 0
    · rw [if_pos c11] at H
      have c11b0 : decide (0 < t416) = true := decide_eq_true c11
      clear c11
      (first | rw [c11b0] | (simp only [i64_w, i32_w]; rw [c11b0]) | skip)
      have H' := Aside0.mk H
      clear H
      go_wp2
      go_meet
      case rel => exact ⟨_, (true), (by first | rfl | (simp; done) | (simp [*]; done)), H', ⟨by first | omega | exact Nat.le_refl _⟩, ⟨pk BK414⟩, ⟨pk BK415⟩, ⟨bnow HB⟩⟩
    · rw [if_neg c11] at H
      have c11b0 : decide (0 < t416) = false := decide_eq_false c11
      clear c11
      (first | rw [c11b0] | (simp only [i64_w, i32_w]; rw [c11b0]) | skip)
      by_cases c12 : t416 = 0
      · rw [if_pos c12] at H
        have c12b0 : (t416 == 0) = true := beq_iff_eq.mpr c12
        have c12b1 : (t416 != 0) = false := bne_eq_false_iff_eq.mpr c12
        clear c12
        obtain ⟨z417, E130, H⟩ := oc H
        have E13w : (IntKind.i64.wrap (a0_0 * a1_0)) = z417 := (i64_w _).trans E130
        obtain ⟨z418, E140, H⟩ := oc H
        have E14w : (IntKind.i64.wrap (a0_1 * a1_1)) = z418 := (i64_w _).trans E140
        obtain ⟨z419, E150, H⟩ := oc H
        have E15w : (IntKind.i64.wrap (z417 + z418)) = z419 := (i64_w _).trans E150
        have H' := Aside0.mk H
        clear H
        have hnb16 := NB414_415.out
        have hnc16 := NB415_414.out
        have ⟨hcz17_0, hcz17_1, hfz17_0, hfz17_1⟩ := cf2 BK414
        have ⟨hcz18_0, hcz18_1, hfz18_0, hfz18_1⟩ := cf2 BK415
        go_wp2
        go_meet
        case rel => exact ⟨_, (decide (z419 > 0)), (by first | rfl | (simp; done) | (simp [*]; done)), H', ⟨by first | omega | exact Nat.le_refl _⟩, ⟨pk BK414⟩, ⟨pk BK415⟩, ⟨bnow HB⟩⟩
      · rw [if_neg c12] at H
        have c12b0 : (t416 == 0) = false := beq_eq_false_iff_ne.mpr c12
        have c12b1 : (t416 != 0) = true := bne_iff_ne.mpr c12
        have H' := Aside0.mk H
        clear H
        go_wp2
        go_meet
        case rel => exact ⟨_, (false), (by first | rfl | (simp; done) | (simp [*]; done)), H', ⟨by first | omega | exact Nat.le_refl _⟩, ⟨pk BK414⟩, ⟨pk BK415⟩, ⟨bnow HB⟩⟩
  case rest =>
    clear HC4
    try clear c1; try clear p2; try clear c5; try clear p6; try clear c7; try clear c11; try clear c11b0; try clear c12; try clear c12b0; try clear c12b1; try clear c16; try clear hcz17_0; try clear hcz17_1; try clear hcz18_0; try clear hcz18_1; try clear hcz8_0; try clear hcz8_1; try clear hcz9_0; try clear hcz9_1; try clear hfz17_0; try clear hfz17_1; try clear hfz18_0; try clear hfz18_1; try clear hfz8_0; try clear hfz8_1; try clear hfz9_0; try clear hfz9_1
    obtain ⟨kq, x28_3, rfl, HA, HJ3, BK414, BK415, HB⟩ := hcut
    cases kq with
    | zero => exact absurd HA.out (by simp [grids_step_half.j0])
    | succ kj3 =>
      have H := HA.out
      clear HA
      simp only [grids_step_half.j0] at H
      by_cases c19 : x28_3 = true
      · subst c19
        have H1 : (some 0) = some r := by rw [if_pos rfl] at H; exact H
        clear H
        have H := H1
        clear H1
        obtain rfl := Option.some.inj H
        go_wp2
        go_ret
        exact rt HB
      · replace c19 := Bool.eq_false_iff.mpr c19
        subst c19
        have H1 : (some 1) = some r := by rw [if_neg (show ¬ (false = true) by decide)] at H; exact H
        clear H
        have H := H1
        clear H1
        obtain rfl := Option.some.inj H
        go_wp2
        go_ret
        exact rt HB
end
section
attribute [local go_sem high] eqA37
/-! ### grids_Turn: function 18 -/
def grids_Turn.j0 : Nat → Bool → Int → Int → Int → Int → Int → Int → Int → Int → Option (Int × Int)
  | 0, _, _, _, _, _, _, _, _, _ => none
  | k + 1, x34, x421000, x421001, x422000, x422001, x423000, x423001, x424000, x424001 => if x34 = true then (some (0, 2)) else ((grids_to.f x421000 x421001 x422000 x422001).bind fun bt428 => ((grids_to.f x421000 x421001 x423000 x423001).bind fun bt430 => ((grids_to.f x421000 x421001 x424000 x424001).bind fun bt432 => ((grids_step_half.f k bt428.1 bt428.2 bt430.1 bt430.2).bind fun t437 => ((grids_step_half.f k bt428.1 bt428.2 bt432.1 bt432.2).bind fun t438 => ((cmp_Compare_int.f t437 t438).bind fun t439 => ((grids_step_cross.f bt430.1 bt430.2 bt432.1 bt432.2).bind fun t440 => ((cmp_Compare_int64.f 0 t440).bind fun t441 => ((cmp_Or_int.f k (([t439, t441] : List Int))).bind fun t445 => (some (t445, 0)))))))))))
def grids_Turn.f (k : Nat) (a0_0 : Int) (a0_1 : Int) (a1_0 : Int) (a1_1 : Int) (a2_0 : Int) (a2_1 : Int) (a3_0 : Int) (a3_1 : Int) : Option (Int × Int) := (grids_point.f k (([(⟨a0_0, a0_1⟩ : S37), (⟨a1_0, a1_1⟩ : S37), (⟨a2_0, a2_1⟩ : S37), (⟨a3_0, a3_1⟩ : S37)] : List (S37)))).bind fun t427 => (if t427 = true then (if (a1_0 == a0_0 && (a1_1 == a0_1)) = true then (grids_Turn.j0 k true a0_0 a0_1 a1_0 a1_1 a2_0 a2_1 a3_0 a3_1) else (if (a2_0 == a0_0 && (a2_1 == a0_1)) = true then (grids_Turn.j0 k true a0_0 a0_1 a1_0 a1_1 a2_0 a2_1 a3_0 a3_1) else (grids_Turn.j0 k (a3_0 == a0_0 && (a3_1 == a0_1)) a0_0 a0_1 a1_0 a1_1 a2_0 a2_1 a3_0 a3_1))) else (grids_Turn.j0 k true a0_0 a0_1 a1_0 a1_1 a2_0 a2_1 a3_0 a3_1))
theorem grids_Turn.mono_l : ∀ k, (∀ y0 y1 y2 y3 y4 y5 y6 y7 y8, LeO (grids_Turn.j0 k y0 y1 y2 y3 y4 y5 y6 y7 y8) (grids_Turn.j0 (k + 1) y0 y1 y2 y3 y4 y5 y6 y7 y8))
  | 0 => fun _ _ _ _ _ _ _ _ _ r h => by simp [grids_Turn.j0] at h
  | k + 1 => by
    have ih0 := grids_Turn.mono_l k
    · intro y0 y1 y2 y3 y4 y5 y6 y7 y8
      unfold grids_Turn.j0
      repeat' first
      | (with_reducible exact ih0 _ _ _ _ _ _ _ _ _)
      | (with_reducible exact cmp_Or_int.mono _ _)
      | (with_reducible exact grids_point.mono _ _)
      | (with_reducible exact grids_step_half.mono _ _ _ _ _)
      | (with_reducible exact LeO.refl _)
      | (with_reducible exact LeO.none _)
      | (with_reducible refine LeO.ite ?_ ?_)
      | (with_reducible refine LeO.bind ?_ (fun _ => ?_))
      | exact ih0 _ _ _ _ _ _ _ _ _
      | exact cmp_Or_int.mono _ _
      | exact grids_point.mono _ _
      | exact grids_step_half.mono _ _ _ _ _
      | exact LeO.none _
      | refine LeO.ite ?_ ?_
      | refine LeO.bind ?_ (fun _ => ?_)
theorem grids_Turn.mono : ∀ a0 a1 a2 a3 a4 a5 a6 a7 k, LeO (grids_Turn.f k a0 a1 a2 a3 a4 a5 a6 a7) (grids_Turn.f (k + 1) a0 a1 a2 a3 a4 a5 a6 a7) := by
  intro a0 a1 a2 a3 a4 a5 a6 a7 k
  have ih0 := grids_Turn.mono_l k
  unfold grids_Turn.f
  repeat' first
      | (with_reducible exact ih0 _ _ _ _ _ _ _ _ _)
      | (with_reducible exact cmp_Or_int.mono _ _)
      | (with_reducible exact grids_point.mono _ _)
      | (with_reducible exact grids_step_half.mono _ _ _ _ _)
      | (with_reducible exact LeO.refl _)
      | (with_reducible exact LeO.none _)
      | (with_reducible refine LeO.ite ?_ ?_)
      | (with_reducible refine LeO.bind ?_ (fun _ => ?_))
      | exact ih0 _ _ _ _ _ _ _ _ _
      | exact cmp_Or_int.mono _ _
      | exact grids_point.mono _ _
      | exact grids_step_half.mono _ _ _ _ _
      | exact LeO.none _
      | refine LeO.ite ?_ ?_
      | refine LeO.bind ?_ (fun _ => ?_)
def grids_Turn.T3 : Bool × List (List Nat × List Nat) := (true, [([], []), ([], []), ([0, 1], [0, 1]), ([], []), ([], []), ([3, 4, 2], [3, 4]), ([], []), ([], []), ([6, 7, 5], [6, 7]), ([], []), ([], []), ([], []), ([9, 2, 8, 0, 1, 2, 9, 10, 11], [2, 9]), ([10, 5, 12, 0, 1, 2, 3, 4, 5, 9, 10, 11, 12], [5, 10]), ([11, 8, 13, 0, 1, 2, 3, 4, 5, 6, 7, 8, 9, 10, 11, 12, 13], [8, 11])])
def grids_Turn.B3 : List Nat := [0, 0, 3, 0, 0, 31, 0, 0, 255, 0, 0, 0, 4095, 8191, 16383]
theorem grids_Turn.tab3 : rtab .any (opsOf Try.f18 3) = grids_Turn.T3 := by kernel_rfl
theorem grids_Turn.bits3 : waitsOk grids_Turn.T3.2 grids_Turn.B3 = true := by kernel_rfl
def grids_Turn.T4 : Bool × List (List Nat × List Nat) := (true, [([], []), ([], []), ([0, 1], [0, 1]), ([], []), ([], []), ([3, 4, 2], [3, 4]), ([2, 5, 5], [2, 5]), ([], []), ([], []), ([7, 8, 6], [7, 8]), ([9, 9], [9]), ([6, 10], [6, 10]), ([11, 10], [11]), ([12, 12, 0, 1, 2, 3, 4, 5, 6, 7, 8, 9, 10, 11, 12], [12]), ([13, 0, 1, 2, 3, 4, 5, 6, 7, 8, 9, 10, 11, 12, 13], [])])
def grids_Turn.B4 : List Nat := [0, 0, 3, 0, 0, 31, 63, 0, 0, 511, 1023, 2047, 4095, 8191, 16383]
theorem grids_Turn.tab4 : rtab .any (opsOf Try.f18 4) = grids_Turn.T4 := by kernel_rfl
theorem grids_Turn.bits4 : waitsOk grids_Turn.T4.2 grids_Turn.B4 = true := by kernel_rfl
set_option maxHeartbeats 8000000 in
set_option maxRecDepth 100000 in
theorem grids_Turn.calls (k : Nat) (a0_0 : Int) (a0_1 : Int) (a1_0 : Int) (a1_1 : Int) (a2_0 : Int) (a2_1 : Int) (a3_0 : Int) (a3_1 : Int) (r1 : Int) (r2 : Int) (w : World) (h : grids_Turn.f k a0_0 a0_1 a1_0 a1_1 a2_0 a2_1 a3_0 a3_1 = some (r1, r2)) :
    Calls Try.prog 18 #[.agg #[.int .i64 a0_0, .int .i64 a0_1], .agg #[.int .i64 a1_0, .int .i64 a1_1], .agg #[.int .i64 a2_0, .int .i64 a2_1], .agg #[.int .i64 a3_0, .int .i64 a3_1]] w fun e w' => e = .returned (.tuple #[.int .i64 r1, .int .i64 r2]) ∧ Below w.heap.size w w' := by
  have hu37 := Try.underlying37
  have hu81 := Try.underlying81
  have HB := Aside0.mk (Below.refl w.heap.size w)
  have H : ((grids_point.f k (([(⟨a0_0, a0_1⟩ : S37), (⟨a1_0, a1_1⟩ : S37), (⟨a2_0, a2_1⟩ : S37), (⟨a3_0, a3_1⟩ : S37)] : List (S37)))).bind fun t427 => (if t427 = true then (if (a1_0 == a0_0 && (a1_1 == a0_1)) = true then (grids_Turn.j0 k true a0_0 a0_1 a1_0 a1_1 a2_0 a2_1 a3_0 a3_1) else (if (a2_0 == a0_0 && (a2_1 == a0_1)) = true then (grids_Turn.j0 k true a0_0 a0_1 a1_0 a1_1 a2_0 a2_1 a3_0 a3_1) else (grids_Turn.j0 k (a3_0 == a0_0 && (a3_1 == a0_1)) a0_0 a0_1 a1_0 a1_1 a2_0 a2_1 a3_0 a3_1))) else (grids_Turn.j0 k true a0_0 a0_1 a1_0 a1_1 a2_0 a2_1 a3_0 a3_1))) = some (r1, r2) := h
  clear h
  have HC5 := Aside0.mk H
  clear H
  go_enter Try.func18, Try.ntmps18
  go_upto_region 1 with (first | ((with_reducible refine gate_dst (N := 4) rfl ?_); refine bx 4 #[.int .i64 a0_0, .int .i64 a0_1] 37 fun gb420 hg w6 BK420 hb => ?_; have GW420 := gw hg HB; have GE420 := gw hg HB; replace HB := bst HB hb; clear hb hg) | ((with_reducible refine gate_dst (N := 5) rfl ?_); refine bx 5 #[.int .i64 a1_0, .int .i64 a1_1] 37 fun gb421 hg w7 BK421 hb => ?_; have GW421 := gw hg HB; have GE421 := gw hg HB; have NB420_421 := nlt hg BK420; have NB421_420 := ngt hg BK420; replace BK420 := bb BK420 hb; replace HB := bst HB hb; clear hb hg) | ((with_reducible refine gate_dst (N := 6) rfl ?_); refine bx 6 #[.int .i64 a2_0, .int .i64 a2_1] 37 fun gb422 hg w8 BK422 hb => ?_; have GW422 := gw hg HB; have GE422 := gw hg HB; have NB420_422 := nlt hg BK420; have NB422_420 := ngt hg BK420; have NB421_422 := nlt hg BK421; have NB422_421 := ngt hg BK421; replace BK420 := bb BK420 hb; replace BK421 := bb BK421 hb; replace HB := bst HB hb; clear hb hg) | ((with_reducible refine gate_dst (N := 7) rfl ?_); refine bx 7 #[.int .i64 a3_0, .int .i64 a3_1] 37 fun gb423 hg w9 BK423 hb => ?_; have GW423 := gw hg HB; have GE423 := gw hg HB; have NB420_423 := nlt hg BK420; have NB423_420 := ngt hg BK420; have NB421_423 := nlt hg BK421; have NB423_421 := ngt hg BK421; have NB422_423 := nlt hg BK422; have NB423_422 := ngt hg BK422; replace BK420 := bb BK420 hb; replace BK421 := bb BK421 hb; replace BK422 := bb BK422 hb; replace HB := bst HB hb; clear hb hg))
  (try simp only [Act.put, List.setIfInBounds_toArray, List.set_cons_zero, List.set_cons_succ])
  go_cut [34] (fun v34 wc => ∃ (kq : Nat) (x34_4 : Bool), v34 = .bool x34_4 ∧ Aside0 (grids_Turn.j0 kq x34_4 a0_0 a0_1 a1_0 a1_1 a2_0 a2_1 a3_0 a3_1 = some (r1, r2)) ∧ Aside0 (kq ≤ k) ∧ Aside0 (wc.heap[gb420]? = some (.cells #[.int .i64 a0_0, .int .i64 a0_1] 37 (0, 0))) ∧ Aside0 (wc.heap[gb421]? = some (.cells #[.int .i64 a1_0, .int .i64 a1_1] 37 (0, 0))) ∧ Aside0 (wc.heap[gb422]? = some (.cells #[.int .i64 a2_0, .int .i64 a2_1] 37 (0, 0))) ∧ Aside0 (wc.heap[gb423]? = some (.cells #[.int .i64 a3_0, .int .i64 a3_1] 37 (0, 0))) ∧ Aside0 (Below w.heap.size w wc))
  case first =>
    have H := HC5.out
    clear HC5
    obtain ⟨y424, hy424⟩ : ∃ y_ : List (S37), y_ = (([(⟨a0_0, a0_1⟩ : S37), (⟨a1_0, a1_1⟩ : S37), (⟨a2_0, a2_1⟩ : S37), (⟨a3_0, a3_1⟩ : S37)] : List (S37))) := ⟨_, rfl⟩
    replace H : ((grids_point.f k y424).bind fun t427 => (if t427 = true then (if (a1_0 == a0_0 && (a1_1 == a0_1)) = true then (grids_Turn.j0 k true a0_0 a0_1 a1_0 a1_1 a2_0 a2_1 a3_0 a3_1) else (if (a2_0 == a0_0 && (a2_1 == a0_1)) = true then (grids_Turn.j0 k true a0_0 a0_1 a1_0 a1_1 a2_0 a2_1 a3_0 a3_1) else (grids_Turn.j0 k (a3_0 == a0_0 && (a3_1 == a0_1)) a0_0 a0_1 a1_0 a1_1 a2_0 a2_1 a3_0 a3_1))) else (grids_Turn.j0 k true a0_0 a0_1 a1_0 a1_1 a2_0 a2_1 a3_0 a3_1))) = some (r1, r2) := by first | (rw [hy424]; with_reducible exact H) | (have H2_ := (Option.bind_some _ _).symm.trans H; rw [hy424]; with_reducible exact H2_) | (have H2_ := (Option.bind_some _ _).symm.trans H; with_reducible exact H2_) | with_reducible exact H | (rw [hy424]; exact H) | exact H
    have Ny424 := Aside0.mk hy424
    clear hy424
    obtain ⟨t427, A10, H⟩ := ob H
    by_cases c11 : t427 = true
    · subst c11
      have H1 : (if (a1_0 == a0_0 && (a1_1 == a0_1)) = true then (grids_Turn.j0 k true a0_0 a0_1 a1_0 a1_1 a2_0 a2_1 a3_0 a3_1) else (if (a2_0 == a0_0 && (a2_1 == a0_1)) = true then (grids_Turn.j0 k true a0_0 a0_1 a1_0 a1_1 a2_0 a2_1 a3_0 a3_1) else (grids_Turn.j0 k (a3_0 == a0_0 && (a3_1 == a0_1)) a0_0 a0_1 a1_0 a1_1 a2_0 a2_1 a3_0 a3_1))) = some (r1, r2) := by rw [if_pos rfl] at H; exact H
      clear H
      have H := H1
      clear H1
      by_cases c12 : (a1_0 == a0_0 && (a1_1 == a0_1)) = true
      · rw [if_pos c12] at H
        have c12b0 : (a1_0 == a0_0 && (a1_1 == a0_1)) = true := c12
        (try (have c12b1 : decide (a1_0 = a0_0 && (a1_1 == a0_1)) = true := by simpa using c12))
        (try (have c12b2 : (a1_0 == a0_0 && (a1_1 == a0_1)) = true := by simpa using c12))
        clear c12
        (first | rw [c12b0] | (simp only [i64_w, i32_w]; rw [c12b0]) | skip)
        have H' := Aside0.mk H
        clear H
        have hnb13 := NB420_421.out
        have hnc13 := NB421_420.out
        have hnb14 := NB420_422.out
        have hnc14 := NB422_420.out
        have hnb15 := NB420_423.out
        have hnc15 := NB423_420.out
        have ⟨hcz16_0, hcz16_1, hfz16_0, hfz16_1⟩ := cf2 BK420
        have hnb17 := NB421_422.out
        have hnc17 := NB422_421.out
        have hnb18 := NB421_423.out
        have hnc18 := NB423_421.out
        have ⟨hcz19_0, hcz19_1, hfz19_0, hfz19_1⟩ := cf2 BK421
        have hnb20 := NB422_423.out
        have hnc20 := NB423_422.out
        have ⟨hcz21_0, hcz21_1, hfz21_0, hfz21_1⟩ := cf2 BK422
        have ⟨hcz22_0, hcz22_1, hfz22_0, hfz22_1⟩ := cf2 BK423
        go_wp2_with (first | ((with_reducible refine gate_dst (N := 17) rfl ?_); refine Kd.R_lit k37 _ 37 ?hg (N := 17) ?hd (xs := ([(⟨a0_0, a0_1⟩ : S37), (⟨a1_0, a1_1⟩ : S37), (⟨a2_0, a2_1⟩ : S37), (⟨a3_0, a3_1⟩ : S37)] : List (S37))) (inner := [.int .i64 a0_0, .int .i64 a0_1, .int .i64 a1_0, .int .i64 a1_1, .int .i64 a2_0, .int .i64 a2_1, .int .i64 a3_0, .int .i64 a3_1]) (ok := fun _ => True) (okp := fun _ => True) ?hr ?hp (fun _ hk => hk) trivial (Below.refl _ _) (Nat.le_refl _) (by simp) ?_; (case hd => rfl); (case hg => rfl); (case hr => first | (go_simp; done) | (go_simp; rfl)); (case hp => exact (Reps.c2 (show Kd.M k37 _ _ _ (⟨a0_0, a0_1⟩ : S37) [.int .i64 a0_0, .int .i64 a0_1] from (k37_mkM _ _ _ (⟨a0_0, a0_1⟩ : S37) )) (Reps.c2 (show Kd.M k37 _ _ _ (⟨a1_0, a1_1⟩ : S37) [.int .i64 a1_0, .int .i64 a1_1] from (k37_mkM _ _ _ (⟨a1_0, a1_1⟩ : S37) )) (Reps.c2 (show Kd.M k37 _ _ _ (⟨a2_0, a2_1⟩ : S37) [.int .i64 a2_0, .int .i64 a2_1] from (k37_mkM _ _ _ (⟨a2_0, a2_1⟩ : S37) )) (Reps.c2 (show Kd.M k37 _ _ _ (⟨a3_0, a3_1⟩ : S37) [.int .i64 a3_0, .int .i64 a3_1] from (k37_mkM _ _ _ (⟨a3_0, a3_1⟩ : S37) )) (Reps.none _ _)))))); intro v425 w23 ho24 hb hg_ hnew_; clear hg_ hnew_; (first | rw [← Ny424.out] at ho24 | (simp only [Int.reduceToNat] at ho24; rw [← Ny424.out] at ho24)); have HO426 := Aside0.mk (Kd.R_lower (Kd.R_newB (Kd.R_newB (Kd.R_newB (Kd.R_newB ho24 (g := gb420) (o := .cells #[.int .i64 a0_0, .int .i64 a0_1] 37 (0, 0)) (pk BK420)) (g := gb421) (o := .cells #[.int .i64 a1_0, .int .i64 a1_1] 37 (0, 0)) (pk BK421)) (g := gb422) (o := .cells #[.int .i64 a2_0, .int .i64 a2_1] 37 (0, 0)) (pk BK422)) (g := gb423) (o := .cells #[.int .i64 a3_0, .int .i64 a3_1] 37 (0, 0)) (pk BK423)) (below_size (bnow HB))); replace BK420 := bb BK420 hb; replace BK421 := bb BK421 hb; replace BK422 := bb BK422 hb; replace BK423 := bb BK423 hb; replace HB := bst HB hb; clear hb ho24; obtain ⟨Ao25, co25, eo25⟩ := Kd.R_slice HO426.out; subst eo25) | ((with_reducible refine gate_callee (f := 49) rfl ?_); refine goesL_ (some 18) rfl rfl Try.func49 (by kernel_rfl) rfl #[.slice Ao25 y424.length co25] rfl am ?_; (with_reducible refine (grids_point.calls k _ _ y424 true _ ?side1 ?side2 A10.out).mono ?_); (case side1 => repeat (first | exact (Kd.R_reads' HO426.out).2.2 | (with_reducible refine Kd.C_alloc ?_ _) | (with_reducible refine Kd.C_drewN ?_ _) | (with_reducible refine Kd.C_drew ?_))); (case side2 => exact (Kd.R_reads' HO426.out).2.1); rintro e w26 ⟨rfl, hb⟩; refine ⟨_, rfl, ?_⟩; replace HO426 := Aside0.mk (Kd.R_below (by (with_reducible repeat (first | apply Kd.R_alloc | apply Kd.R_drewN | apply Kd.R_drew)); exact HO426.out) hb); replace BK420 := bb BK420 hb; replace BK421 := bb BK421 hb; replace BK422 := bb BK422 hb; replace BK423 := bb BK423 hb; replace HB := bst HB hb; (try clear hb); (try clear hb2); (try clear hk); (try clear hi); have ⟨hcz27_0, hcz27_1, hfz27_0, hfz27_1⟩ := cf2 BK421; have ⟨hcz28_0, hcz28_1, hfz28_0, hfz28_1⟩ := cf2 BK420))
        go_meet
        case rel => exact ⟨_, (true), (by first | rfl | (simp; done) | (simp [*]; done)), H', ⟨by first | omega | exact Nat.le_refl _⟩, ⟨pk BK420⟩, ⟨pk BK421⟩, ⟨pk BK422⟩, ⟨pk BK423⟩, ⟨bnow HB⟩⟩
      · rw [if_neg c12] at H
        have c12b0 : (a1_0 == a0_0 && (a1_1 == a0_1)) = false := by simpa using c12
        (try (have c12b1 : decide (a1_0 = a0_0 && (a1_1 == a0_1)) = false := by simpa using c12))
        (try (have c12b2 : (a1_0 == a0_0 && (a1_1 == a0_1)) = false := by simpa using c12))
        (try (have c12b3 : ¬ (a1_0 = a0_0 && (a1_1 == a0_1)) := by simpa using c12))
        clear c12
        (first | rw [c12b0] | (simp only [i64_w, i32_w]; rw [c12b0]) | skip)
        by_cases c29 : (a2_0 == a0_0 && (a2_1 == a0_1)) = true
        · rw [if_pos c29] at H
          have c29b0 : (a2_0 == a0_0 && (a2_1 == a0_1)) = true := c29
          (try (have c29b1 : decide (a2_0 = a0_0 && (a2_1 == a0_1)) = true := by simpa using c29))
          (try (have c29b2 : (a2_0 == a0_0 && (a2_1 == a0_1)) = true := by simpa using c29))
          clear c29
          have H' := Aside0.mk H
          clear H
          have hnb30 := NB420_421.out
          have hnc30 := NB421_420.out
          have hnb31 := NB420_422.out
          have hnc31 := NB422_420.out
          have hnb32 := NB420_423.out
          have hnc32 := NB423_420.out
          have ⟨hcz33_0, hcz33_1, hfz33_0, hfz33_1⟩ := cf2 BK420
          have hnb34 := NB421_422.out
          have hnc34 := NB422_421.out
          have hnb35 := NB421_423.out
          have hnc35 := NB423_421.out
          have ⟨hcz36_0, hcz36_1, hfz36_0, hfz36_1⟩ := cf2 BK421
          have hnb37 := NB422_423.out
          have hnc37 := NB423_422.out
          have ⟨hcz38_0, hcz38_1, hfz38_0, hfz38_1⟩ := cf2 BK422
          have ⟨hcz39_0, hcz39_1, hfz39_0, hfz39_1⟩ := cf2 BK423
          go_wp2_with (first | ((with_reducible refine gate_dst (N := 17) rfl ?_); refine Kd.R_lit k37 _ 37 ?hg (N := 17) ?hd (xs := ([(⟨a0_0, a0_1⟩ : S37), (⟨a1_0, a1_1⟩ : S37), (⟨a2_0, a2_1⟩ : S37), (⟨a3_0, a3_1⟩ : S37)] : List (S37))) (inner := [.int .i64 a0_0, .int .i64 a0_1, .int .i64 a1_0, .int .i64 a1_1, .int .i64 a2_0, .int .i64 a2_1, .int .i64 a3_0, .int .i64 a3_1]) (ok := fun _ => True) (okp := fun _ => True) ?hr ?hp (fun _ hk => hk) trivial (Below.refl _ _) (Nat.le_refl _) (by simp) ?_; (case hd => rfl); (case hg => rfl); (case hr => first | (go_simp; done) | (go_simp; rfl)); (case hp => exact (Reps.c2 (show Kd.M k37 _ _ _ (⟨a0_0, a0_1⟩ : S37) [.int .i64 a0_0, .int .i64 a0_1] from (k37_mkM _ _ _ (⟨a0_0, a0_1⟩ : S37) )) (Reps.c2 (show Kd.M k37 _ _ _ (⟨a1_0, a1_1⟩ : S37) [.int .i64 a1_0, .int .i64 a1_1] from (k37_mkM _ _ _ (⟨a1_0, a1_1⟩ : S37) )) (Reps.c2 (show Kd.M k37 _ _ _ (⟨a2_0, a2_1⟩ : S37) [.int .i64 a2_0, .int .i64 a2_1] from (k37_mkM _ _ _ (⟨a2_0, a2_1⟩ : S37) )) (Reps.c2 (show Kd.M k37 _ _ _ (⟨a3_0, a3_1⟩ : S37) [.int .i64 a3_0, .int .i64 a3_1] from (k37_mkM _ _ _ (⟨a3_0, a3_1⟩ : S37) )) (Reps.none _ _)))))); intro v425 w40 ho41 hb hg_ hnew_; clear hg_ hnew_; (first | rw [← Ny424.out] at ho41 | (simp only [Int.reduceToNat] at ho41; rw [← Ny424.out] at ho41)); have HO426 := Aside0.mk (Kd.R_lower (Kd.R_newB (Kd.R_newB (Kd.R_newB (Kd.R_newB ho41 (g := gb420) (o := .cells #[.int .i64 a0_0, .int .i64 a0_1] 37 (0, 0)) (pk BK420)) (g := gb421) (o := .cells #[.int .i64 a1_0, .int .i64 a1_1] 37 (0, 0)) (pk BK421)) (g := gb422) (o := .cells #[.int .i64 a2_0, .int .i64 a2_1] 37 (0, 0)) (pk BK422)) (g := gb423) (o := .cells #[.int .i64 a3_0, .int .i64 a3_1] 37 (0, 0)) (pk BK423)) (below_size (bnow HB))); replace BK420 := bb BK420 hb; replace BK421 := bb BK421 hb; replace BK422 := bb BK422 hb; replace BK423 := bb BK423 hb; replace HB := bst HB hb; clear hb ho41; obtain ⟨Ao42, co42, eo42⟩ := Kd.R_slice HO426.out; subst eo42) | ((with_reducible refine gate_callee (f := 49) rfl ?_); refine goesL_ (some 18) rfl rfl Try.func49 (by kernel_rfl) rfl #[.slice Ao42 y424.length co42] rfl am ?_; (with_reducible refine (grids_point.calls k _ _ y424 true _ ?side1 ?side2 A10.out).mono ?_); (case side1 => repeat (first | exact (Kd.R_reads' HO426.out).2.2 | (with_reducible refine Kd.C_alloc ?_ _) | (with_reducible refine Kd.C_drewN ?_ _) | (with_reducible refine Kd.C_drew ?_))); (case side2 => exact (Kd.R_reads' HO426.out).2.1); rintro e w43 ⟨rfl, hb⟩; refine ⟨_, rfl, ?_⟩; replace HO426 := Aside0.mk (Kd.R_below (by (with_reducible repeat (first | apply Kd.R_alloc | apply Kd.R_drewN | apply Kd.R_drew)); exact HO426.out) hb); replace BK420 := bb BK420 hb; replace BK421 := bb BK421 hb; replace BK422 := bb BK422 hb; replace BK423 := bb BK423 hb; replace HB := bst HB hb; (try clear hb); (try clear hb2); (try clear hk); (try clear hi); have ⟨hcz44_0, hcz44_1, hfz44_0, hfz44_1⟩ := cf2 BK421; have ⟨hcz45_0, hcz45_1, hfz45_0, hfz45_1⟩ := cf2 BK420; have ⟨hcz46_0, hcz46_1, hfz46_0, hfz46_1⟩ := cf2 BK422))
          go_meet
          case rel => exact ⟨_, (true), (by first | rfl | (simp; done) | (simp [*]; done)), H', ⟨by first | omega | exact Nat.le_refl _⟩, ⟨pk BK420⟩, ⟨pk BK421⟩, ⟨pk BK422⟩, ⟨pk BK423⟩, ⟨bnow HB⟩⟩
        · rw [if_neg c29] at H
          have c29b0 : (a2_0 == a0_0 && (a2_1 == a0_1)) = false := by simpa using c29
          (try (have c29b1 : decide (a2_0 = a0_0 && (a2_1 == a0_1)) = false := by simpa using c29))
          (try (have c29b2 : (a2_0 == a0_0 && (a2_1 == a0_1)) = false := by simpa using c29))
          (try (have c29b3 : ¬ (a2_0 = a0_0 && (a2_1 == a0_1)) := by simpa using c29))
          clear c29
          have H' := Aside0.mk H
          clear H
          have hnb47 := NB420_421.out
          have hnc47 := NB421_420.out
          have hnb48 := NB420_422.out
          have hnc48 := NB422_420.out
          have hnb49 := NB420_423.out
          have hnc49 := NB423_420.out
          have ⟨hcz50_0, hcz50_1, hfz50_0, hfz50_1⟩ := cf2 BK420
          have hnb51 := NB421_422.out
          have hnc51 := NB422_421.out
          have hnb52 := NB421_423.out
          have hnc52 := NB423_421.out
          have ⟨hcz53_0, hcz53_1, hfz53_0, hfz53_1⟩ := cf2 BK421
          have hnb54 := NB422_423.out
          have hnc54 := NB423_422.out
          have ⟨hcz55_0, hcz55_1, hfz55_0, hfz55_1⟩ := cf2 BK422
          have ⟨hcz56_0, hcz56_1, hfz56_0, hfz56_1⟩ := cf2 BK423
          go_wp2_with (first | ((with_reducible refine gate_dst (N := 17) rfl ?_); refine Kd.R_lit k37 _ 37 ?hg (N := 17) ?hd (xs := ([(⟨a0_0, a0_1⟩ : S37), (⟨a1_0, a1_1⟩ : S37), (⟨a2_0, a2_1⟩ : S37), (⟨a3_0, a3_1⟩ : S37)] : List (S37))) (inner := [.int .i64 a0_0, .int .i64 a0_1, .int .i64 a1_0, .int .i64 a1_1, .int .i64 a2_0, .int .i64 a2_1, .int .i64 a3_0, .int .i64 a3_1]) (ok := fun _ => True) (okp := fun _ => True) ?hr ?hp (fun _ hk => hk) trivial (Below.refl _ _) (Nat.le_refl _) (by simp) ?_; (case hd => rfl); (case hg => rfl); (case hr => first | (go_simp; done) | (go_simp; rfl)); (case hp => exact (Reps.c2 (show Kd.M k37 _ _ _ (⟨a0_0, a0_1⟩ : S37) [.int .i64 a0_0, .int .i64 a0_1] from (k37_mkM _ _ _ (⟨a0_0, a0_1⟩ : S37) )) (Reps.c2 (show Kd.M k37 _ _ _ (⟨a1_0, a1_1⟩ : S37) [.int .i64 a1_0, .int .i64 a1_1] from (k37_mkM _ _ _ (⟨a1_0, a1_1⟩ : S37) )) (Reps.c2 (show Kd.M k37 _ _ _ (⟨a2_0, a2_1⟩ : S37) [.int .i64 a2_0, .int .i64 a2_1] from (k37_mkM _ _ _ (⟨a2_0, a2_1⟩ : S37) )) (Reps.c2 (show Kd.M k37 _ _ _ (⟨a3_0, a3_1⟩ : S37) [.int .i64 a3_0, .int .i64 a3_1] from (k37_mkM _ _ _ (⟨a3_0, a3_1⟩ : S37) )) (Reps.none _ _)))))); intro v425 w57 ho58 hb hg_ hnew_; clear hg_ hnew_; (first | rw [← Ny424.out] at ho58 | (simp only [Int.reduceToNat] at ho58; rw [← Ny424.out] at ho58)); have HO426 := Aside0.mk (Kd.R_lower (Kd.R_newB (Kd.R_newB (Kd.R_newB (Kd.R_newB ho58 (g := gb420) (o := .cells #[.int .i64 a0_0, .int .i64 a0_1] 37 (0, 0)) (pk BK420)) (g := gb421) (o := .cells #[.int .i64 a1_0, .int .i64 a1_1] 37 (0, 0)) (pk BK421)) (g := gb422) (o := .cells #[.int .i64 a2_0, .int .i64 a2_1] 37 (0, 0)) (pk BK422)) (g := gb423) (o := .cells #[.int .i64 a3_0, .int .i64 a3_1] 37 (0, 0)) (pk BK423)) (below_size (bnow HB))); replace BK420 := bb BK420 hb; replace BK421 := bb BK421 hb; replace BK422 := bb BK422 hb; replace BK423 := bb BK423 hb; replace HB := bst HB hb; clear hb ho58; obtain ⟨Ao59, co59, eo59⟩ := Kd.R_slice HO426.out; subst eo59) | ((with_reducible refine gate_callee (f := 49) rfl ?_); refine goesL_ (some 18) rfl rfl Try.func49 (by kernel_rfl) rfl #[.slice Ao59 y424.length co59] rfl am ?_; (with_reducible refine (grids_point.calls k _ _ y424 true _ ?side1 ?side2 A10.out).mono ?_); (case side1 => repeat (first | exact (Kd.R_reads' HO426.out).2.2 | (with_reducible refine Kd.C_alloc ?_ _) | (with_reducible refine Kd.C_drewN ?_ _) | (with_reducible refine Kd.C_drew ?_))); (case side2 => exact (Kd.R_reads' HO426.out).2.1); rintro e w60 ⟨rfl, hb⟩; refine ⟨_, rfl, ?_⟩; replace HO426 := Aside0.mk (Kd.R_below (by (with_reducible repeat (first | apply Kd.R_alloc | apply Kd.R_drewN | apply Kd.R_drew)); exact HO426.out) hb); replace BK420 := bb BK420 hb; replace BK421 := bb BK421 hb; replace BK422 := bb BK422 hb; replace BK423 := bb BK423 hb; replace HB := bst HB hb; (try clear hb); (try clear hb2); (try clear hk); (try clear hi); have ⟨hcz61_0, hcz61_1, hfz61_0, hfz61_1⟩ := cf2 BK421; have ⟨hcz62_0, hcz62_1, hfz62_0, hfz62_1⟩ := cf2 BK420; have ⟨hcz63_0, hcz63_1, hfz63_0, hfz63_1⟩ := cf2 BK422; have ⟨hcz64_0, hcz64_1, hfz64_0, hfz64_1⟩ := cf2 BK423))
          go_meet
          case rel => exact ⟨_, ((a3_0 == a0_0 && (a3_1 == a0_1))), (by first | rfl | (simp; done) | (simp [*]; done)), H', ⟨by first | omega | exact Nat.le_refl _⟩, ⟨pk BK420⟩, ⟨pk BK421⟩, ⟨pk BK422⟩, ⟨pk BK423⟩, ⟨bnow HB⟩⟩
    · replace c11 := Bool.eq_false_iff.mpr c11
      subst c11
      have H1 : (grids_Turn.j0 k true a0_0 a0_1 a1_0 a1_1 a2_0 a2_1 a3_0 a3_1) = some (r1, r2) := by rw [if_neg (show ¬ (false = true) by decide)] at H; exact H
      clear H
      have H := H1
      clear H1
      have H' := Aside0.mk H
      clear H
      have hnb65 := NB420_421.out
      have hnc65 := NB421_420.out
      have hnb66 := NB420_422.out
      have hnc66 := NB422_420.out
      have hnb67 := NB420_423.out
      have hnc67 := NB423_420.out
      have ⟨hcz68_0, hcz68_1, hfz68_0, hfz68_1⟩ := cf2 BK420
      have hnb69 := NB421_422.out
      have hnc69 := NB422_421.out
      have hnb70 := NB421_423.out
      have hnc70 := NB423_421.out
      have ⟨hcz71_0, hcz71_1, hfz71_0, hfz71_1⟩ := cf2 BK421
      have hnb72 := NB422_423.out
      have hnc72 := NB423_422.out
      have ⟨hcz73_0, hcz73_1, hfz73_0, hfz73_1⟩ := cf2 BK422
      have ⟨hcz74_0, hcz74_1, hfz74_0, hfz74_1⟩ := cf2 BK423
      go_wp2_with (first | ((with_reducible refine gate_dst (N := 17) rfl ?_); refine Kd.R_lit k37 _ 37 ?hg (N := 17) ?hd (xs := ([(⟨a0_0, a0_1⟩ : S37), (⟨a1_0, a1_1⟩ : S37), (⟨a2_0, a2_1⟩ : S37), (⟨a3_0, a3_1⟩ : S37)] : List (S37))) (inner := [.int .i64 a0_0, .int .i64 a0_1, .int .i64 a1_0, .int .i64 a1_1, .int .i64 a2_0, .int .i64 a2_1, .int .i64 a3_0, .int .i64 a3_1]) (ok := fun _ => True) (okp := fun _ => True) ?hr ?hp (fun _ hk => hk) trivial (Below.refl _ _) (Nat.le_refl _) (by simp) ?_; (case hd => rfl); (case hg => rfl); (case hr => first | (go_simp; done) | (go_simp; rfl)); (case hp => exact (Reps.c2 (show Kd.M k37 _ _ _ (⟨a0_0, a0_1⟩ : S37) [.int .i64 a0_0, .int .i64 a0_1] from (k37_mkM _ _ _ (⟨a0_0, a0_1⟩ : S37) )) (Reps.c2 (show Kd.M k37 _ _ _ (⟨a1_0, a1_1⟩ : S37) [.int .i64 a1_0, .int .i64 a1_1] from (k37_mkM _ _ _ (⟨a1_0, a1_1⟩ : S37) )) (Reps.c2 (show Kd.M k37 _ _ _ (⟨a2_0, a2_1⟩ : S37) [.int .i64 a2_0, .int .i64 a2_1] from (k37_mkM _ _ _ (⟨a2_0, a2_1⟩ : S37) )) (Reps.c2 (show Kd.M k37 _ _ _ (⟨a3_0, a3_1⟩ : S37) [.int .i64 a3_0, .int .i64 a3_1] from (k37_mkM _ _ _ (⟨a3_0, a3_1⟩ : S37) )) (Reps.none _ _)))))); intro v425 w75 ho76 hb hg_ hnew_; clear hg_ hnew_; (first | rw [← Ny424.out] at ho76 | (simp only [Int.reduceToNat] at ho76; rw [← Ny424.out] at ho76)); have HO426 := Aside0.mk (Kd.R_lower (Kd.R_newB (Kd.R_newB (Kd.R_newB (Kd.R_newB ho76 (g := gb420) (o := .cells #[.int .i64 a0_0, .int .i64 a0_1] 37 (0, 0)) (pk BK420)) (g := gb421) (o := .cells #[.int .i64 a1_0, .int .i64 a1_1] 37 (0, 0)) (pk BK421)) (g := gb422) (o := .cells #[.int .i64 a2_0, .int .i64 a2_1] 37 (0, 0)) (pk BK422)) (g := gb423) (o := .cells #[.int .i64 a3_0, .int .i64 a3_1] 37 (0, 0)) (pk BK423)) (below_size (bnow HB))); replace BK420 := bb BK420 hb; replace BK421 := bb BK421 hb; replace BK422 := bb BK422 hb; replace BK423 := bb BK423 hb; replace HB := bst HB hb; clear hb ho76; obtain ⟨Ao77, co77, eo77⟩ := Kd.R_slice HO426.out; subst eo77) | ((with_reducible refine gate_callee (f := 49) rfl ?_); refine goesL_ (some 18) rfl rfl Try.func49 (by kernel_rfl) rfl #[.slice Ao77 y424.length co77] rfl am ?_; (with_reducible refine (grids_point.calls k _ _ y424 false _ ?side1 ?side2 A10.out).mono ?_); (case side1 => repeat (first | exact (Kd.R_reads' HO426.out).2.2 | (with_reducible refine Kd.C_alloc ?_ _) | (with_reducible refine Kd.C_drewN ?_ _) | (with_reducible refine Kd.C_drew ?_))); (case side2 => exact (Kd.R_reads' HO426.out).2.1); rintro e w78 ⟨rfl, hb⟩; refine ⟨_, rfl, ?_⟩; replace HO426 := Aside0.mk (Kd.R_below (by (with_reducible repeat (first | apply Kd.R_alloc | apply Kd.R_drewN | apply Kd.R_drew)); exact HO426.out) hb); replace BK420 := bb BK420 hb; replace BK421 := bb BK421 hb; replace BK422 := bb BK422 hb; replace BK423 := bb BK423 hb; replace HB := bst HB hb; (try clear hb); (try clear hb2); (try clear hk); (try clear hi)))
      go_meet
      case rel => exact ⟨_, (true), (by first | rfl | (simp; done) | (simp [*]; done)), H', ⟨by first | omega | exact Nat.le_refl _⟩, ⟨pk BK420⟩, ⟨pk BK421⟩, ⟨pk BK422⟩, ⟨pk BK423⟩, ⟨bnow HB⟩⟩
  case rest =>
    clear HC5
    try clear c1; try clear c2; try clear p2; try clear c3; try clear c4; try clear c5; try clear c6; try clear c7; try clear c11; try clear c12; try clear c12b0; try clear c12b1; try clear c12b2; try clear c13; try clear c14; try clear c15; try clear c17; try clear c18; try clear c20; try clear c29; try clear c29b0; try clear c29b1; try clear c29b2; try clear c30; try clear c31; try clear c32; try clear c34; try clear c35; try clear c37; try clear c47; try clear c48; try clear c49; try clear c51; try clear c52; try clear c54; try clear c65; try clear c66; try clear c67; try clear c69; try clear c70; try clear c72; try clear hcz16_0; try clear hcz16_1; try clear hcz19_0; try clear hcz19_1; try clear hcz21_0; try clear hcz21_1; try clear hcz22_0; try clear hcz22_1; try clear hcz27_0; try clear hcz27_1; try clear hcz28_0; try clear hcz28_1; try clear hcz33_0; try clear hcz33_1; try clear hcz36_0; try clear hcz36_1; try clear hcz38_0; try clear hcz38_1; try clear hcz39_0; try clear hcz39_1; try clear hcz44_0; try clear hcz44_1; try clear hcz45_0; try clear hcz45_1; try clear hcz46_0; try clear hcz46_1; try clear hcz50_0; try clear hcz50_1; try clear hcz53_0; try clear hcz53_1; try clear hcz55_0; try clear hcz55_1; try clear hcz56_0; try clear hcz56_1; try clear hcz61_0; try clear hcz61_1; try clear hcz62_0; try clear hcz62_1; try clear hcz63_0; try clear hcz63_1; try clear hcz64_0; try clear hcz64_1; try clear hcz68_0; try clear hcz68_1; try clear hcz71_0; try clear hcz71_1; try clear hcz73_0; try clear hcz73_1; try clear hcz74_0; try clear hcz74_1; try clear hfz16_0; try clear hfz16_1; try clear hfz19_0; try clear hfz19_1; try clear hfz21_0; try clear hfz21_1; try clear hfz22_0; try clear hfz22_1; try clear hfz27_0; try clear hfz27_1; try clear hfz28_0; try clear hfz28_1; try clear hfz33_0; try clear hfz33_1; try clear hfz36_0; try clear hfz36_1; try clear hfz38_0; try clear hfz38_1; try clear hfz39_0; try clear hfz39_1; try clear hfz44_0; try clear hfz44_1; try clear hfz45_0; try clear hfz45_1; try clear hfz46_0; try clear hfz46_1; try clear hfz50_0; try clear hfz50_1; try clear hfz53_0; try clear hfz53_1; try clear hfz55_0; try clear hfz55_1; try clear hfz56_0; try clear hfz56_1; try clear hfz61_0; try clear hfz61_1; try clear hfz62_0; try clear hfz62_1; try clear hfz63_0; try clear hfz63_1; try clear hfz64_0; try clear hfz64_1; try clear hfz68_0; try clear hfz68_1; try clear hfz71_0; try clear hfz71_1; try clear hfz73_0; try clear hfz73_1; try clear hfz74_0; try clear hfz74_1
    obtain ⟨kq, x34_4, rfl, HA, HJ4, BK420, BK421, BK422, BK423, HB⟩ := hcut
    cases kq with
    | zero => exact absurd HA.out (by simp [grids_Turn.j0])
    | succ kj4 =>
      have H := HA.out
      clear HA
      simp only [grids_Turn.j0] at H
      by_cases c79 : x34_4 = true
      · subst c79
        have H1 : (some (0, 2)) = some (r1, r2) := by rw [if_pos rfl] at H; exact H
        clear H
        have H := H1
        clear H1
        simp only [Option.some.injEq, Prod.mk.injEq] at H
        obtain ⟨rfl, rfl⟩ := H
        go_wp2
        go_ret2
        exact rt HB
      · replace c79 := Bool.eq_false_iff.mpr c79
        subst c79
        have H1 : ((grids_to.f a0_0 a0_1 a1_0 a1_1).bind fun bt428 => ((grids_to.f a0_0 a0_1 a2_0 a2_1).bind fun bt430 => ((grids_to.f a0_0 a0_1 a3_0 a3_1).bind fun bt432 => ((grids_step_half.f kj4 bt428.1 bt428.2 bt430.1 bt430.2).bind fun t437 => ((grids_step_half.f kj4 bt428.1 bt428.2 bt432.1 bt432.2).bind fun t438 => ((cmp_Compare_int.f t437 t438).bind fun t439 => ((grids_step_cross.f bt430.1 bt430.2 bt432.1 bt432.2).bind fun t440 => ((cmp_Compare_int64.f 0 t440).bind fun t441 => ((cmp_Or_int.f kj4 (([t439, t441] : List Int))).bind fun t445 => (some (t445, 0))))))))))) = some (r1, r2) := by rw [if_neg (show ¬ (false = true) by decide)] at H; exact H
        clear H
        have H := H1
        clear H1
        obtain ⟨⟨t428, t429⟩, A80, H⟩ := ob H
        obtain ⟨⟨t430, t431⟩, A81, H⟩ := ob H
        obtain ⟨⟨t432, t433⟩, A82, H⟩ := ob H
        obtain ⟨t437, A83, H⟩ := ob H
        obtain ⟨t438, A84, H⟩ := ob H
        obtain ⟨t439, A85, H⟩ := ob H
        obtain ⟨t440, A86, H⟩ := ob H
        obtain ⟨t441, A87, H⟩ := ob H
        obtain ⟨y442, hy442⟩ : ∃ y_ : List Int, y_ = (([t439, t441] : List Int)) := ⟨_, rfl⟩
        replace H : ((cmp_Or_int.f kj4 y442).bind fun t445 => (some (t445, 0))) = some (r1, r2) := by first | (rw [hy442]; with_reducible exact H) | (have H2_ := (Option.bind_some _ _).symm.trans H; rw [hy442]; with_reducible exact H2_) | (have H2_ := (Option.bind_some _ _).symm.trans H; with_reducible exact H2_) | with_reducible exact H | (rw [hy442]; exact H) | exact H
        have Ny442 := Aside0.mk hy442
        clear hy442
        obtain ⟨t445, A88, H⟩ := ob H
        simp only [Option.some.injEq, Prod.mk.injEq] at H
        obtain ⟨rfl, rfl⟩ := H
        try go_wp2
        replace BK420 := bd BK420
        replace BK421 := bd BK421
        replace BK422 := bd BK422
        replace BK423 := bd BK423
        replace HB := bdn HB
        refine start_ (n := 15) (S := fun w' => True) (ds := []) #[false, false, false, false, false, false, false, false, false, false, false, false, false, false, false] (by kernel_rfl) rfl rfl trivial (fun hHeld => ?_); refine with_tabW grids_Turn.tab3 grids_Turn.bits3 (fun HT_ HW_ => ?_)
        generalize wc.drew = w89 at BK420 BK421 BK422 BK423 HB hHeld ⊢
        refine inv_at [0, 1, 2, 3, 4, 5, 6, 7, 8, 9, 10, 11, 12, 13, 14] (fun a0_ b a w' => ∃ (gb434 : Nat) (gb435 : Nat) (gb436 : Nat) (m9_ : Value) (m10_ : Value) (m11_ : Value), a = putSel a0_ b [(0, 35, .agg #[.int .i64 a0_0, .int .i64 a0_1]), (1, 36, .agg #[.int .i64 a1_0, .int .i64 a1_1]), (2, 37, .agg #[.int .i64 t428, .int .i64 t429]), (3, 38, .agg #[.int .i64 a0_0, .int .i64 a0_1]), (4, 39, .agg #[.int .i64 a2_0, .int .i64 a2_1]), (5, 40, .agg #[.int .i64 t430, .int .i64 t431]), (6, 41, .agg #[.int .i64 a0_0, .int .i64 a0_1]), (7, 42, .agg #[.int .i64 a3_0, .int .i64 a3_1]), (8, 43, .agg #[.int .i64 t432, .int .i64 t433]), (9, 10, m9_), (10, 11, m10_), (11, 12, m11_)] ∧ (w'.heap[gb420]? = some (.cells #[.int .i64 a0_0, .int .i64 a0_1] 37 (0, 0))) ∧ (w'.heap[gb421]? = some (.cells #[.int .i64 a1_0, .int .i64 a1_1] 37 (0, 0))) ∧ (w'.heap[gb422]? = some (.cells #[.int .i64 a2_0, .int .i64 a2_1] 37 (0, 0))) ∧ (w'.heap[gb423]? = some (.cells #[.int .i64 a3_0, .int .i64 a3_1] 37 (0, 0))) ∧ (Below w.heap.size w w') ∧ (b 9 = true → b 10 = true → gb435 ≠ gb434) ∧ (b 9 = true → b 10 = true → gb434 ≠ gb435) ∧ (b 9 = true → b 11 = true → gb436 ≠ gb434) ∧ (b 9 = true → b 11 = true → gb434 ≠ gb436) ∧ (b 10 = true → b 11 = true → gb436 ≠ gb435) ∧ (b 10 = true → b 11 = true → gb435 ≠ gb436) ∧ (b 9 = true → b 12 = false → w'.heap[gb434]? = some (.cells #[.int .i64 0, .int .i64 0] 81 (0, 0))) ∧ (b 9 = true → w.heap.size ≤ gb434) ∧ (b 9 = true → w.heap.size ≤ gb434) ∧ (b 9 = true → gb420 ≠ gb434) ∧ (b 9 = true → gb434 ≠ gb420) ∧ (b 9 = true → gb421 ≠ gb434) ∧ (b 9 = true → gb434 ≠ gb421) ∧ (b 9 = true → gb422 ≠ gb434) ∧ (b 9 = true → gb434 ≠ gb422) ∧ (b 9 = true → gb423 ≠ gb434) ∧ (b 9 = true → gb434 ≠ gb423) ∧ (b 10 = true → b 13 = false → w'.heap[gb435]? = some (.cells #[.int .i64 0, .int .i64 0] 81 (0, 0))) ∧ (b 10 = true → w.heap.size ≤ gb435) ∧ (b 10 = true → w.heap.size ≤ gb435) ∧ (b 10 = true → gb420 ≠ gb435) ∧ (b 10 = true → gb435 ≠ gb420) ∧ (b 10 = true → gb421 ≠ gb435) ∧ (b 10 = true → gb435 ≠ gb421) ∧ (b 10 = true → gb422 ≠ gb435) ∧ (b 10 = true → gb435 ≠ gb422) ∧ (b 10 = true → gb423 ≠ gb435) ∧ (b 10 = true → gb435 ≠ gb423) ∧ (b 11 = true → b 14 = false → w'.heap[gb436]? = some (.cells #[.int .i64 0, .int .i64 0] 81 (0, 0))) ∧ (b 11 = true → w.heap.size ≤ gb436) ∧ (b 11 = true → w.heap.size ≤ gb436) ∧ (b 11 = true → gb420 ≠ gb436) ∧ (b 11 = true → gb436 ≠ gb420) ∧ (b 11 = true → gb421 ≠ gb436) ∧ (b 11 = true → gb436 ≠ gb421) ∧ (b 11 = true → gb422 ≠ gb436) ∧ (b 11 = true → gb436 ≠ gb422) ∧ (b 11 = true → gb423 ≠ gb436) ∧ (b 11 = true → gb436 ≠ gb423) ∧ (b 12 = true → w'.heap[gb434]? = some (.cells #[.int .i64 t428, .int .i64 t429] 81 (0, 0))) ∧ (b 13 = true → w'.heap[gb435]? = some (.cells #[.int .i64 t430, .int .i64 t431] 81 (0, 0))) ∧ (b 14 = true → w'.heap[gb436]? = some (.cells #[.int .i64 t432, .int .i64 t433] 81 (0, 0))) ∧ (b 9 = true → (m9_ : Value) = .pointer (some ⟨gb434, 0, none⟩)) ∧ (b 10 = true → (m10_ : Value) = .pointer (some ⟨gb435, 0, none⟩)) ∧ (b 11 = true → (m11_ : Value) = .pointer (some ⟨gb436, 0, none⟩))) HT_.out HW_.out (by kernel_rfl) (by kernel_rfl) ?_ ?_ ?_
        · exact ⟨0, 0, 0, .bool false, .bool false, .bool false, by simp only [putSel, Bool.false_eq_true, if_false], BK420.out, BK421.out, BK422.out, BK423.out, HB.out, fun h_ => absurd h_ (by decide), fun h_ => absurd h_ (by decide), fun h_ => absurd h_ (by decide), fun h_ => absurd h_ (by decide), fun h_ => absurd h_ (by decide), fun h_ => absurd h_ (by decide), fun h_ => absurd h_ (by decide), fun h_ => absurd h_ (by decide), fun h_ => absurd h_ (by decide), fun h_ => absurd h_ (by decide), fun h_ => absurd h_ (by decide), fun h_ => absurd h_ (by decide), fun h_ => absurd h_ (by decide), fun h_ => absurd h_ (by decide), fun h_ => absurd h_ (by decide), fun h_ => absurd h_ (by decide), fun h_ => absurd h_ (by decide), fun h_ => absurd h_ (by decide), fun h_ => absurd h_ (by decide), fun h_ => absurd h_ (by decide), fun h_ => absurd h_ (by decide), fun h_ => absurd h_ (by decide), fun h_ => absurd h_ (by decide), fun h_ => absurd h_ (by decide), fun h_ => absurd h_ (by decide), fun h_ => absurd h_ (by decide), fun h_ => absurd h_ (by decide), fun h_ => absurd h_ (by decide), fun h_ => absurd h_ (by decide), fun h_ => absurd h_ (by decide), fun h_ => absurd h_ (by decide), fun h_ => absurd h_ (by decide), fun h_ => absurd h_ (by decide), fun h_ => absurd h_ (by decide), fun h_ => absurd h_ (by decide), fun h_ => absurd h_ (by decide), fun h_ => absurd h_ (by decide), fun h_ => absurd h_ (by decide), fun h_ => absurd h_ (by decide), fun h_ => absurd h_ (by decide), fun h_ => absurd h_ (by decide), fun h_ => absurd h_ (by decide), fun h_ => absurd h_ (by decide), fun h_ => absurd h_ (by decide), fun h_ => absurd h_ (by decide)⟩
        · skip
          clear BK420 BK421 BK422 BK423 HB
          refine steps_cons ?_ ?_
          · rintro b a w' ⟨gb434, gb435, gb436, m9_, m10_, m11_, ha, Q_BK420, Q_BK421, Q_BK422, Q_BK423, Q_HB, Q_NB435_434, Q_NB434_435, Q_NB436_434, Q_NB434_436, Q_NB436_435, Q_NB435_436, Q_BK434, Q_GW434, Q_GE434, Q_NB420_434, Q_NB434_420, Q_NB421_434, Q_NB434_421, Q_NB422_434, Q_NB434_422, Q_NB423_434, Q_NB434_423, Q_BK435, Q_GW435, Q_GE435, Q_NB420_435, Q_NB435_420, Q_NB421_435, Q_NB435_421, Q_NB422_435, Q_NB435_422, Q_NB423_435, Q_NB435_423, Q_BK436, Q_GW436, Q_GE436, Q_NB420_436, Q_NB436_420, Q_NB421_436, Q_NB436_421, Q_NB422_436, Q_NB436_422, Q_NB423_436, Q_NB436_423, Q_BK434_e12, Q_BK435_e13, Q_BK436_e14, Q_X9_, Q_X10_, Q_X11_⟩ hb_ hon hoff
            refine ⟨_, rfl, fun K hK => ?_⟩
            have e4 : a.tmps[4]? = some (.pointer (some ⟨gb420, 0, none⟩)) := by rw [ha]; exact (putSel_off rfl).trans rfl
            replace ha := Aside0.mk ha
            have BK420 := Aside0.mk Q_BK420
            have BK421 := Aside0.mk Q_BK421
            have BK422 := Aside0.mk Q_BK422
            have BK423 := Aside0.mk Q_BK423
            have HB := Aside0.mk Q_HB
            have hc0_ : w'.cell? ⟨gb420, 0, none⟩ = some (.int .i64 a0_0) := (blk_cell BK420.out 0).trans rfl
            have hc1_ : w'.cell? ⟨gb420, 1, none⟩ = some (.int .i64 a0_1) := (blk_cell BK420.out 1).trans rfl
            refine value_ (w1 := w') (v := .agg #[.int .i64 a0_0, .int .i64 a0_1]) (by rfl) rfl ?_ ?_
            · go_simp
              (try simp only [i64_w])
              try rfl
            refine hK.out _ _ ⟨gb434, gb435, gb436, m9_, m10_, m11_, (by rw [ha.out]; exact putSel_upk 0 hb_ rfl rfl rfl), Q_BK420, Q_BK421, Q_BK422, Q_BK423, Q_HB, Q_NB435_434, Q_NB434_435, Q_NB436_434, Q_NB434_436, Q_NB436_435, Q_NB435_436, Q_BK434, Q_GW434, Q_GE434, Q_NB420_434, Q_NB434_420, Q_NB421_434, Q_NB434_421, Q_NB422_434, Q_NB434_422, Q_NB423_434, Q_NB434_423, Q_BK435, Q_GW435, Q_GE435, Q_NB420_435, Q_NB435_420, Q_NB421_435, Q_NB435_421, Q_NB422_435, Q_NB435_422, Q_NB423_435, Q_NB435_423, Q_BK436, Q_GW436, Q_GE436, Q_NB420_436, Q_NB436_420, Q_NB421_436, Q_NB436_421, Q_NB422_436, Q_NB436_422, Q_NB423_436, Q_NB436_423, fun h0_ => absurd ((hoff 12 (by kernel_rfl)).symm.trans h0_) (by decide), fun h0_ => absurd ((hoff 13 (by kernel_rfl)).symm.trans h0_) (by decide), fun h0_ => absurd ((hoff 14 (by kernel_rfl)).symm.trans h0_) (by decide), Q_X9_, Q_X10_, Q_X11_⟩
          refine steps_cons ?_ ?_
          · rintro b a w' ⟨gb434, gb435, gb436, m9_, m10_, m11_, ha, Q_BK420, Q_BK421, Q_BK422, Q_BK423, Q_HB, Q_NB435_434, Q_NB434_435, Q_NB436_434, Q_NB434_436, Q_NB436_435, Q_NB435_436, Q_BK434, Q_GW434, Q_GE434, Q_NB420_434, Q_NB434_420, Q_NB421_434, Q_NB434_421, Q_NB422_434, Q_NB434_422, Q_NB423_434, Q_NB434_423, Q_BK435, Q_GW435, Q_GE435, Q_NB420_435, Q_NB435_420, Q_NB421_435, Q_NB435_421, Q_NB422_435, Q_NB435_422, Q_NB423_435, Q_NB435_423, Q_BK436, Q_GW436, Q_GE436, Q_NB420_436, Q_NB436_420, Q_NB421_436, Q_NB436_421, Q_NB422_436, Q_NB436_422, Q_NB423_436, Q_NB436_423, Q_BK434_e12, Q_BK435_e13, Q_BK436_e14, Q_X9_, Q_X10_, Q_X11_⟩ hb_ hon hoff
            refine ⟨_, rfl, fun K hK => ?_⟩
            have e5 : a.tmps[5]? = some (.pointer (some ⟨gb421, 0, none⟩)) := by rw [ha]; exact (putSel_off rfl).trans rfl
            replace ha := Aside0.mk ha
            have BK420 := Aside0.mk Q_BK420
            have BK421 := Aside0.mk Q_BK421
            have BK422 := Aside0.mk Q_BK422
            have BK423 := Aside0.mk Q_BK423
            have HB := Aside0.mk Q_HB
            have hc0_ : w'.cell? ⟨gb421, 0, none⟩ = some (.int .i64 a1_0) := (blk_cell BK421.out 0).trans rfl
            have hc1_ : w'.cell? ⟨gb421, 1, none⟩ = some (.int .i64 a1_1) := (blk_cell BK421.out 1).trans rfl
            refine value_ (w1 := w') (v := .agg #[.int .i64 a1_0, .int .i64 a1_1]) (by rfl) rfl ?_ ?_
            · go_simp
              (try simp only [i64_w])
              try rfl
            refine hK.out _ _ ⟨gb434, gb435, gb436, m9_, m10_, m11_, (by rw [ha.out]; exact putSel_upk 1 hb_ rfl rfl rfl), Q_BK420, Q_BK421, Q_BK422, Q_BK423, Q_HB, Q_NB435_434, Q_NB434_435, Q_NB436_434, Q_NB434_436, Q_NB436_435, Q_NB435_436, Q_BK434, Q_GW434, Q_GE434, Q_NB420_434, Q_NB434_420, Q_NB421_434, Q_NB434_421, Q_NB422_434, Q_NB434_422, Q_NB423_434, Q_NB434_423, Q_BK435, Q_GW435, Q_GE435, Q_NB420_435, Q_NB435_420, Q_NB421_435, Q_NB435_421, Q_NB422_435, Q_NB435_422, Q_NB423_435, Q_NB435_423, Q_BK436, Q_GW436, Q_GE436, Q_NB420_436, Q_NB436_420, Q_NB421_436, Q_NB436_421, Q_NB422_436, Q_NB436_422, Q_NB423_436, Q_NB436_423, fun h0_ => absurd ((hoff 12 (by kernel_rfl)).symm.trans h0_) (by decide), fun h0_ => absurd ((hoff 13 (by kernel_rfl)).symm.trans h0_) (by decide), fun h0_ => absurd ((hoff 14 (by kernel_rfl)).symm.trans h0_) (by decide), Q_X9_, Q_X10_, Q_X11_⟩
          refine steps_cons ?_ ?_
          · rintro b a w' ⟨gb434, gb435, gb436, m9_, m10_, m11_, ha, Q_BK420, Q_BK421, Q_BK422, Q_BK423, Q_HB, Q_NB435_434, Q_NB434_435, Q_NB436_434, Q_NB434_436, Q_NB436_435, Q_NB435_436, Q_BK434, Q_GW434, Q_GE434, Q_NB420_434, Q_NB434_420, Q_NB421_434, Q_NB434_421, Q_NB422_434, Q_NB434_422, Q_NB423_434, Q_NB434_423, Q_BK435, Q_GW435, Q_GE435, Q_NB420_435, Q_NB435_420, Q_NB421_435, Q_NB435_421, Q_NB422_435, Q_NB435_422, Q_NB423_435, Q_NB435_423, Q_BK436, Q_GW436, Q_GE436, Q_NB420_436, Q_NB436_420, Q_NB421_436, Q_NB436_421, Q_NB422_436, Q_NB436_422, Q_NB423_436, Q_NB436_423, Q_BK434_e12, Q_BK435_e13, Q_BK436_e14, Q_X9_, Q_X10_, Q_X11_⟩ hb_ hon hoff
            refine ⟨_, rfl, fun K hK => ?_⟩
            have e35 : a.tmps[35]? = some (.agg #[.int .i64 a0_0, .int .i64 a0_1]) := by rw [ha]; exact putSel_on (e := (0, 35, .agg #[.int .i64 a0_0, .int .i64 a0_1])) 0 rfl rfl (hon 0 (by kernel_rfl)) rfl
            have e36 : a.tmps[36]? = some (.agg #[.int .i64 a1_0, .int .i64 a1_1]) := by rw [ha]; exact putSel_on (e := (1, 36, .agg #[.int .i64 a1_0, .int .i64 a1_1])) 1 rfl rfl (hon 1 (by kernel_rfl)) rfl
            replace ha := Aside0.mk ha
            have BK420 := Aside0.mk Q_BK420
            have BK421 := Aside0.mk Q_BK421
            have BK422 := Aside0.mk Q_BK422
            have BK423 := Aside0.mk Q_BK423
            have HB := Aside0.mk Q_HB
            refine goes_ Try.func50 (by kernel_rfl) rfl #[.agg #[.int .i64 a0_0, .int .i64 a0_1], .agg #[.int .i64 a1_0, .int .i64 a1_1]] (by rfl) rfl rfl (by first | (simp only [List.map_toArray, List.map_cons, List.map_nil, Act.eval, Array.getD_eq_getD_getElem?, Option.getD_some, e35, e36]; done) | (simp only [List.map_toArray, List.map_cons, List.map_nil, Act.eval, Array.getD_eq_getD_getElem?, Option.getD_some, e35, e36]; rfl)) ?_
            with_reducible refine (grids_to.calls a0_0 a0_1 a1_0 a1_1 t428 t429 _ A80.out).mono ?_
            rintro e w90 ⟨rfl, hb⟩
            refine ⟨_, rfl, ?_⟩
            have n0_ := bb BK420 hb
            have n1_ := bb BK421 hb
            have n2_ := bb BK422 hb
            have n3_ := bb BK423 hb
            have n4_ := bst HB hb
            have z_BK434 := fun (h0_ : b 9 = true) (h1_ : b 12 = false) => (show w90.heap[gb434]? = some (.cells #[.int .i64 0, .int .i64 0] 81 (0, 0)) from by first | exact (blk_below (g := gb434) (o := .cells #[.int .i64 0, .int .i64 0] 81 (0, 0)) (by (with_reducible repeat (first | refine blk_drewN ?_ _ | refine blk_drew ?_ | refine blk_alloc ?_ _)); exact (Q_BK434 h0_ h1_)) hb))
            have z_BK435 := fun (h0_ : b 10 = true) (h1_ : b 13 = false) => (show w90.heap[gb435]? = some (.cells #[.int .i64 0, .int .i64 0] 81 (0, 0)) from by first | exact (blk_below (g := gb435) (o := .cells #[.int .i64 0, .int .i64 0] 81 (0, 0)) (by (with_reducible repeat (first | refine blk_drewN ?_ _ | refine blk_drew ?_ | refine blk_alloc ?_ _)); exact (Q_BK435 h0_ h1_)) hb))
            have z_BK436 := fun (h0_ : b 11 = true) (h1_ : b 14 = false) => (show w90.heap[gb436]? = some (.cells #[.int .i64 0, .int .i64 0] 81 (0, 0)) from by first | exact (blk_below (g := gb436) (o := .cells #[.int .i64 0, .int .i64 0] 81 (0, 0)) (by (with_reducible repeat (first | refine blk_drewN ?_ _ | refine blk_drew ?_ | refine blk_alloc ?_ _)); exact (Q_BK436 h0_ h1_)) hb))
            clear BK420
            clear BK421
            clear BK422
            clear BK423
            clear HB
            have BK420 := n0_
            have BK421 := n1_
            have BK422 := n2_
            have BK423 := n3_
            have HB := n4_
            clear n0_ n1_ n2_ n3_ n4_
            (try clear hb)
            (try clear hb2)
            (try clear hk)
            (try clear hi)
            refine hK.out _ _ ⟨gb434, gb435, gb436, m9_, m10_, m11_, (by rw [ha.out]; exact putSel_upk 2 hb_ rfl rfl rfl), (pk BK420), (pk BK421), (pk BK422), (pk BK423), (bnow HB), Q_NB435_434, Q_NB434_435, Q_NB436_434, Q_NB434_436, Q_NB436_435, Q_NB435_436, z_BK434, Q_GW434, Q_GE434, Q_NB420_434, Q_NB434_420, Q_NB421_434, Q_NB434_421, Q_NB422_434, Q_NB434_422, Q_NB423_434, Q_NB434_423, z_BK435, Q_GW435, Q_GE435, Q_NB420_435, Q_NB435_420, Q_NB421_435, Q_NB435_421, Q_NB422_435, Q_NB435_422, Q_NB423_435, Q_NB435_423, z_BK436, Q_GW436, Q_GE436, Q_NB420_436, Q_NB436_420, Q_NB421_436, Q_NB436_421, Q_NB422_436, Q_NB436_422, Q_NB423_436, Q_NB436_423, fun h0_ => absurd ((hoff 12 (by kernel_rfl)).symm.trans h0_) (by decide), fun h0_ => absurd ((hoff 13 (by kernel_rfl)).symm.trans h0_) (by decide), fun h0_ => absurd ((hoff 14 (by kernel_rfl)).symm.trans h0_) (by decide), Q_X9_, Q_X10_, Q_X11_⟩
          refine steps_cons ?_ ?_
          · rintro b a w' ⟨gb434, gb435, gb436, m9_, m10_, m11_, ha, Q_BK420, Q_BK421, Q_BK422, Q_BK423, Q_HB, Q_NB435_434, Q_NB434_435, Q_NB436_434, Q_NB434_436, Q_NB436_435, Q_NB435_436, Q_BK434, Q_GW434, Q_GE434, Q_NB420_434, Q_NB434_420, Q_NB421_434, Q_NB434_421, Q_NB422_434, Q_NB434_422, Q_NB423_434, Q_NB434_423, Q_BK435, Q_GW435, Q_GE435, Q_NB420_435, Q_NB435_420, Q_NB421_435, Q_NB435_421, Q_NB422_435, Q_NB435_422, Q_NB423_435, Q_NB435_423, Q_BK436, Q_GW436, Q_GE436, Q_NB420_436, Q_NB436_420, Q_NB421_436, Q_NB436_421, Q_NB422_436, Q_NB436_422, Q_NB423_436, Q_NB436_423, Q_BK434_e12, Q_BK435_e13, Q_BK436_e14, Q_X9_, Q_X10_, Q_X11_⟩ hb_ hon hoff
            refine ⟨_, rfl, fun K hK => ?_⟩
            have e4 : a.tmps[4]? = some (.pointer (some ⟨gb420, 0, none⟩)) := by rw [ha]; exact (putSel_off rfl).trans rfl
            replace ha := Aside0.mk ha
            have BK420 := Aside0.mk Q_BK420
            have BK421 := Aside0.mk Q_BK421
            have BK422 := Aside0.mk Q_BK422
            have BK423 := Aside0.mk Q_BK423
            have HB := Aside0.mk Q_HB
            have hc0_ : w'.cell? ⟨gb420, 0, none⟩ = some (.int .i64 a0_0) := (blk_cell BK420.out 0).trans rfl
            have hc1_ : w'.cell? ⟨gb420, 1, none⟩ = some (.int .i64 a0_1) := (blk_cell BK420.out 1).trans rfl
            refine value_ (w1 := w') (v := .agg #[.int .i64 a0_0, .int .i64 a0_1]) (by rfl) rfl ?_ ?_
            · go_simp
              (try simp only [i64_w])
              try rfl
            refine hK.out _ _ ⟨gb434, gb435, gb436, m9_, m10_, m11_, (by rw [ha.out]; exact putSel_upk 3 hb_ rfl rfl rfl), Q_BK420, Q_BK421, Q_BK422, Q_BK423, Q_HB, Q_NB435_434, Q_NB434_435, Q_NB436_434, Q_NB434_436, Q_NB436_435, Q_NB435_436, Q_BK434, Q_GW434, Q_GE434, Q_NB420_434, Q_NB434_420, Q_NB421_434, Q_NB434_421, Q_NB422_434, Q_NB434_422, Q_NB423_434, Q_NB434_423, Q_BK435, Q_GW435, Q_GE435, Q_NB420_435, Q_NB435_420, Q_NB421_435, Q_NB435_421, Q_NB422_435, Q_NB435_422, Q_NB423_435, Q_NB435_423, Q_BK436, Q_GW436, Q_GE436, Q_NB420_436, Q_NB436_420, Q_NB421_436, Q_NB436_421, Q_NB422_436, Q_NB436_422, Q_NB423_436, Q_NB436_423, fun h0_ => absurd ((hoff 12 (by kernel_rfl)).symm.trans h0_) (by decide), fun h0_ => absurd ((hoff 13 (by kernel_rfl)).symm.trans h0_) (by decide), fun h0_ => absurd ((hoff 14 (by kernel_rfl)).symm.trans h0_) (by decide), Q_X9_, Q_X10_, Q_X11_⟩
          refine steps_cons ?_ ?_
          · rintro b a w' ⟨gb434, gb435, gb436, m9_, m10_, m11_, ha, Q_BK420, Q_BK421, Q_BK422, Q_BK423, Q_HB, Q_NB435_434, Q_NB434_435, Q_NB436_434, Q_NB434_436, Q_NB436_435, Q_NB435_436, Q_BK434, Q_GW434, Q_GE434, Q_NB420_434, Q_NB434_420, Q_NB421_434, Q_NB434_421, Q_NB422_434, Q_NB434_422, Q_NB423_434, Q_NB434_423, Q_BK435, Q_GW435, Q_GE435, Q_NB420_435, Q_NB435_420, Q_NB421_435, Q_NB435_421, Q_NB422_435, Q_NB435_422, Q_NB423_435, Q_NB435_423, Q_BK436, Q_GW436, Q_GE436, Q_NB420_436, Q_NB436_420, Q_NB421_436, Q_NB436_421, Q_NB422_436, Q_NB436_422, Q_NB423_436, Q_NB436_423, Q_BK434_e12, Q_BK435_e13, Q_BK436_e14, Q_X9_, Q_X10_, Q_X11_⟩ hb_ hon hoff
            refine ⟨_, rfl, fun K hK => ?_⟩
            have e6 : a.tmps[6]? = some (.pointer (some ⟨gb422, 0, none⟩)) := by rw [ha]; exact (putSel_off rfl).trans rfl
            replace ha := Aside0.mk ha
            have BK420 := Aside0.mk Q_BK420
            have BK421 := Aside0.mk Q_BK421
            have BK422 := Aside0.mk Q_BK422
            have BK423 := Aside0.mk Q_BK423
            have HB := Aside0.mk Q_HB
            have hc0_ : w'.cell? ⟨gb422, 0, none⟩ = some (.int .i64 a2_0) := (blk_cell BK422.out 0).trans rfl
            have hc1_ : w'.cell? ⟨gb422, 1, none⟩ = some (.int .i64 a2_1) := (blk_cell BK422.out 1).trans rfl
            refine value_ (w1 := w') (v := .agg #[.int .i64 a2_0, .int .i64 a2_1]) (by rfl) rfl ?_ ?_
            · go_simp
              (try simp only [i64_w])
              try rfl
            refine hK.out _ _ ⟨gb434, gb435, gb436, m9_, m10_, m11_, (by rw [ha.out]; exact putSel_upk 4 hb_ rfl rfl rfl), Q_BK420, Q_BK421, Q_BK422, Q_BK423, Q_HB, Q_NB435_434, Q_NB434_435, Q_NB436_434, Q_NB434_436, Q_NB436_435, Q_NB435_436, Q_BK434, Q_GW434, Q_GE434, Q_NB420_434, Q_NB434_420, Q_NB421_434, Q_NB434_421, Q_NB422_434, Q_NB434_422, Q_NB423_434, Q_NB434_423, Q_BK435, Q_GW435, Q_GE435, Q_NB420_435, Q_NB435_420, Q_NB421_435, Q_NB435_421, Q_NB422_435, Q_NB435_422, Q_NB423_435, Q_NB435_423, Q_BK436, Q_GW436, Q_GE436, Q_NB420_436, Q_NB436_420, Q_NB421_436, Q_NB436_421, Q_NB422_436, Q_NB436_422, Q_NB423_436, Q_NB436_423, fun h0_ => absurd ((hoff 12 (by kernel_rfl)).symm.trans h0_) (by decide), fun h0_ => absurd ((hoff 13 (by kernel_rfl)).symm.trans h0_) (by decide), fun h0_ => absurd ((hoff 14 (by kernel_rfl)).symm.trans h0_) (by decide), Q_X9_, Q_X10_, Q_X11_⟩
          refine steps_cons ?_ ?_
          · rintro b a w' ⟨gb434, gb435, gb436, m9_, m10_, m11_, ha, Q_BK420, Q_BK421, Q_BK422, Q_BK423, Q_HB, Q_NB435_434, Q_NB434_435, Q_NB436_434, Q_NB434_436, Q_NB436_435, Q_NB435_436, Q_BK434, Q_GW434, Q_GE434, Q_NB420_434, Q_NB434_420, Q_NB421_434, Q_NB434_421, Q_NB422_434, Q_NB434_422, Q_NB423_434, Q_NB434_423, Q_BK435, Q_GW435, Q_GE435, Q_NB420_435, Q_NB435_420, Q_NB421_435, Q_NB435_421, Q_NB422_435, Q_NB435_422, Q_NB423_435, Q_NB435_423, Q_BK436, Q_GW436, Q_GE436, Q_NB420_436, Q_NB436_420, Q_NB421_436, Q_NB436_421, Q_NB422_436, Q_NB436_422, Q_NB423_436, Q_NB436_423, Q_BK434_e12, Q_BK435_e13, Q_BK436_e14, Q_X9_, Q_X10_, Q_X11_⟩ hb_ hon hoff
            refine ⟨_, rfl, fun K hK => ?_⟩
            have e38 : a.tmps[38]? = some (.agg #[.int .i64 a0_0, .int .i64 a0_1]) := by rw [ha]; exact putSel_on (e := (3, 38, .agg #[.int .i64 a0_0, .int .i64 a0_1])) 3 rfl rfl (hon 3 (by kernel_rfl)) rfl
            have e39 : a.tmps[39]? = some (.agg #[.int .i64 a2_0, .int .i64 a2_1]) := by rw [ha]; exact putSel_on (e := (4, 39, .agg #[.int .i64 a2_0, .int .i64 a2_1])) 4 rfl rfl (hon 4 (by kernel_rfl)) rfl
            replace ha := Aside0.mk ha
            have BK420 := Aside0.mk Q_BK420
            have BK421 := Aside0.mk Q_BK421
            have BK422 := Aside0.mk Q_BK422
            have BK423 := Aside0.mk Q_BK423
            have HB := Aside0.mk Q_HB
            refine goes_ Try.func50 (by kernel_rfl) rfl #[.agg #[.int .i64 a0_0, .int .i64 a0_1], .agg #[.int .i64 a2_0, .int .i64 a2_1]] (by rfl) rfl rfl (by first | (simp only [List.map_toArray, List.map_cons, List.map_nil, Act.eval, Array.getD_eq_getD_getElem?, Option.getD_some, e38, e39]; done) | (simp only [List.map_toArray, List.map_cons, List.map_nil, Act.eval, Array.getD_eq_getD_getElem?, Option.getD_some, e38, e39]; rfl)) ?_
            with_reducible refine (grids_to.calls a0_0 a0_1 a2_0 a2_1 t430 t431 _ A81.out).mono ?_
            rintro e w92 ⟨rfl, hb⟩
            refine ⟨_, rfl, ?_⟩
            have n0_ := bb BK420 hb
            have n1_ := bb BK421 hb
            have n2_ := bb BK422 hb
            have n3_ := bb BK423 hb
            have n4_ := bst HB hb
            have z_BK434 := fun (h0_ : b 9 = true) (h1_ : b 12 = false) => (show w92.heap[gb434]? = some (.cells #[.int .i64 0, .int .i64 0] 81 (0, 0)) from by first | exact (blk_below (g := gb434) (o := .cells #[.int .i64 0, .int .i64 0] 81 (0, 0)) (by (with_reducible repeat (first | refine blk_drewN ?_ _ | refine blk_drew ?_ | refine blk_alloc ?_ _)); exact (Q_BK434 h0_ h1_)) hb))
            have z_BK435 := fun (h0_ : b 10 = true) (h1_ : b 13 = false) => (show w92.heap[gb435]? = some (.cells #[.int .i64 0, .int .i64 0] 81 (0, 0)) from by first | exact (blk_below (g := gb435) (o := .cells #[.int .i64 0, .int .i64 0] 81 (0, 0)) (by (with_reducible repeat (first | refine blk_drewN ?_ _ | refine blk_drew ?_ | refine blk_alloc ?_ _)); exact (Q_BK435 h0_ h1_)) hb))
            have z_BK436 := fun (h0_ : b 11 = true) (h1_ : b 14 = false) => (show w92.heap[gb436]? = some (.cells #[.int .i64 0, .int .i64 0] 81 (0, 0)) from by first | exact (blk_below (g := gb436) (o := .cells #[.int .i64 0, .int .i64 0] 81 (0, 0)) (by (with_reducible repeat (first | refine blk_drewN ?_ _ | refine blk_drew ?_ | refine blk_alloc ?_ _)); exact (Q_BK436 h0_ h1_)) hb))
            clear BK420
            clear BK421
            clear BK422
            clear BK423
            clear HB
            have BK420 := n0_
            have BK421 := n1_
            have BK422 := n2_
            have BK423 := n3_
            have HB := n4_
            clear n0_ n1_ n2_ n3_ n4_
            (try clear hb)
            (try clear hb2)
            (try clear hk)
            (try clear hi)
            refine hK.out _ _ ⟨gb434, gb435, gb436, m9_, m10_, m11_, (by rw [ha.out]; exact putSel_upk 5 hb_ rfl rfl rfl), (pk BK420), (pk BK421), (pk BK422), (pk BK423), (bnow HB), Q_NB435_434, Q_NB434_435, Q_NB436_434, Q_NB434_436, Q_NB436_435, Q_NB435_436, z_BK434, Q_GW434, Q_GE434, Q_NB420_434, Q_NB434_420, Q_NB421_434, Q_NB434_421, Q_NB422_434, Q_NB434_422, Q_NB423_434, Q_NB434_423, z_BK435, Q_GW435, Q_GE435, Q_NB420_435, Q_NB435_420, Q_NB421_435, Q_NB435_421, Q_NB422_435, Q_NB435_422, Q_NB423_435, Q_NB435_423, z_BK436, Q_GW436, Q_GE436, Q_NB420_436, Q_NB436_420, Q_NB421_436, Q_NB436_421, Q_NB422_436, Q_NB436_422, Q_NB423_436, Q_NB436_423, fun h0_ => absurd ((hoff 12 (by kernel_rfl)).symm.trans h0_) (by decide), fun h0_ => absurd ((hoff 13 (by kernel_rfl)).symm.trans h0_) (by decide), fun h0_ => absurd ((hoff 14 (by kernel_rfl)).symm.trans h0_) (by decide), Q_X9_, Q_X10_, Q_X11_⟩
          refine steps_cons ?_ ?_
          · rintro b a w' ⟨gb434, gb435, gb436, m9_, m10_, m11_, ha, Q_BK420, Q_BK421, Q_BK422, Q_BK423, Q_HB, Q_NB435_434, Q_NB434_435, Q_NB436_434, Q_NB434_436, Q_NB436_435, Q_NB435_436, Q_BK434, Q_GW434, Q_GE434, Q_NB420_434, Q_NB434_420, Q_NB421_434, Q_NB434_421, Q_NB422_434, Q_NB434_422, Q_NB423_434, Q_NB434_423, Q_BK435, Q_GW435, Q_GE435, Q_NB420_435, Q_NB435_420, Q_NB421_435, Q_NB435_421, Q_NB422_435, Q_NB435_422, Q_NB423_435, Q_NB435_423, Q_BK436, Q_GW436, Q_GE436, Q_NB420_436, Q_NB436_420, Q_NB421_436, Q_NB436_421, Q_NB422_436, Q_NB436_422, Q_NB423_436, Q_NB436_423, Q_BK434_e12, Q_BK435_e13, Q_BK436_e14, Q_X9_, Q_X10_, Q_X11_⟩ hb_ hon hoff
            refine ⟨_, rfl, fun K hK => ?_⟩
            have e4 : a.tmps[4]? = some (.pointer (some ⟨gb420, 0, none⟩)) := by rw [ha]; exact (putSel_off rfl).trans rfl
            replace ha := Aside0.mk ha
            have BK420 := Aside0.mk Q_BK420
            have BK421 := Aside0.mk Q_BK421
            have BK422 := Aside0.mk Q_BK422
            have BK423 := Aside0.mk Q_BK423
            have HB := Aside0.mk Q_HB
            have hc0_ : w'.cell? ⟨gb420, 0, none⟩ = some (.int .i64 a0_0) := (blk_cell BK420.out 0).trans rfl
            have hc1_ : w'.cell? ⟨gb420, 1, none⟩ = some (.int .i64 a0_1) := (blk_cell BK420.out 1).trans rfl
            refine value_ (w1 := w') (v := .agg #[.int .i64 a0_0, .int .i64 a0_1]) (by rfl) rfl ?_ ?_
            · go_simp
              (try simp only [i64_w])
              try rfl
            refine hK.out _ _ ⟨gb434, gb435, gb436, m9_, m10_, m11_, (by rw [ha.out]; exact putSel_upk 6 hb_ rfl rfl rfl), Q_BK420, Q_BK421, Q_BK422, Q_BK423, Q_HB, Q_NB435_434, Q_NB434_435, Q_NB436_434, Q_NB434_436, Q_NB436_435, Q_NB435_436, Q_BK434, Q_GW434, Q_GE434, Q_NB420_434, Q_NB434_420, Q_NB421_434, Q_NB434_421, Q_NB422_434, Q_NB434_422, Q_NB423_434, Q_NB434_423, Q_BK435, Q_GW435, Q_GE435, Q_NB420_435, Q_NB435_420, Q_NB421_435, Q_NB435_421, Q_NB422_435, Q_NB435_422, Q_NB423_435, Q_NB435_423, Q_BK436, Q_GW436, Q_GE436, Q_NB420_436, Q_NB436_420, Q_NB421_436, Q_NB436_421, Q_NB422_436, Q_NB436_422, Q_NB423_436, Q_NB436_423, fun h0_ => absurd ((hoff 12 (by kernel_rfl)).symm.trans h0_) (by decide), fun h0_ => absurd ((hoff 13 (by kernel_rfl)).symm.trans h0_) (by decide), fun h0_ => absurd ((hoff 14 (by kernel_rfl)).symm.trans h0_) (by decide), Q_X9_, Q_X10_, Q_X11_⟩
          refine steps_cons ?_ ?_
          · rintro b a w' ⟨gb434, gb435, gb436, m9_, m10_, m11_, ha, Q_BK420, Q_BK421, Q_BK422, Q_BK423, Q_HB, Q_NB435_434, Q_NB434_435, Q_NB436_434, Q_NB434_436, Q_NB436_435, Q_NB435_436, Q_BK434, Q_GW434, Q_GE434, Q_NB420_434, Q_NB434_420, Q_NB421_434, Q_NB434_421, Q_NB422_434, Q_NB434_422, Q_NB423_434, Q_NB434_423, Q_BK435, Q_GW435, Q_GE435, Q_NB420_435, Q_NB435_420, Q_NB421_435, Q_NB435_421, Q_NB422_435, Q_NB435_422, Q_NB423_435, Q_NB435_423, Q_BK436, Q_GW436, Q_GE436, Q_NB420_436, Q_NB436_420, Q_NB421_436, Q_NB436_421, Q_NB422_436, Q_NB436_422, Q_NB423_436, Q_NB436_423, Q_BK434_e12, Q_BK435_e13, Q_BK436_e14, Q_X9_, Q_X10_, Q_X11_⟩ hb_ hon hoff
            refine ⟨_, rfl, fun K hK => ?_⟩
            have e7 : a.tmps[7]? = some (.pointer (some ⟨gb423, 0, none⟩)) := by rw [ha]; exact (putSel_off rfl).trans rfl
            replace ha := Aside0.mk ha
            have BK420 := Aside0.mk Q_BK420
            have BK421 := Aside0.mk Q_BK421
            have BK422 := Aside0.mk Q_BK422
            have BK423 := Aside0.mk Q_BK423
            have HB := Aside0.mk Q_HB
            have hc0_ : w'.cell? ⟨gb423, 0, none⟩ = some (.int .i64 a3_0) := (blk_cell BK423.out 0).trans rfl
            have hc1_ : w'.cell? ⟨gb423, 1, none⟩ = some (.int .i64 a3_1) := (blk_cell BK423.out 1).trans rfl
            refine value_ (w1 := w') (v := .agg #[.int .i64 a3_0, .int .i64 a3_1]) (by rfl) rfl ?_ ?_
            · go_simp
              (try simp only [i64_w])
              try rfl
            refine hK.out _ _ ⟨gb434, gb435, gb436, m9_, m10_, m11_, (by rw [ha.out]; exact putSel_upk 7 hb_ rfl rfl rfl), Q_BK420, Q_BK421, Q_BK422, Q_BK423, Q_HB, Q_NB435_434, Q_NB434_435, Q_NB436_434, Q_NB434_436, Q_NB436_435, Q_NB435_436, Q_BK434, Q_GW434, Q_GE434, Q_NB420_434, Q_NB434_420, Q_NB421_434, Q_NB434_421, Q_NB422_434, Q_NB434_422, Q_NB423_434, Q_NB434_423, Q_BK435, Q_GW435, Q_GE435, Q_NB420_435, Q_NB435_420, Q_NB421_435, Q_NB435_421, Q_NB422_435, Q_NB435_422, Q_NB423_435, Q_NB435_423, Q_BK436, Q_GW436, Q_GE436, Q_NB420_436, Q_NB436_420, Q_NB421_436, Q_NB436_421, Q_NB422_436, Q_NB436_422, Q_NB423_436, Q_NB436_423, fun h0_ => absurd ((hoff 12 (by kernel_rfl)).symm.trans h0_) (by decide), fun h0_ => absurd ((hoff 13 (by kernel_rfl)).symm.trans h0_) (by decide), fun h0_ => absurd ((hoff 14 (by kernel_rfl)).symm.trans h0_) (by decide), Q_X9_, Q_X10_, Q_X11_⟩
          refine steps_cons ?_ ?_
          · rintro b a w' ⟨gb434, gb435, gb436, m9_, m10_, m11_, ha, Q_BK420, Q_BK421, Q_BK422, Q_BK423, Q_HB, Q_NB435_434, Q_NB434_435, Q_NB436_434, Q_NB434_436, Q_NB436_435, Q_NB435_436, Q_BK434, Q_GW434, Q_GE434, Q_NB420_434, Q_NB434_420, Q_NB421_434, Q_NB434_421, Q_NB422_434, Q_NB434_422, Q_NB423_434, Q_NB434_423, Q_BK435, Q_GW435, Q_GE435, Q_NB420_435, Q_NB435_420, Q_NB421_435, Q_NB435_421, Q_NB422_435, Q_NB435_422, Q_NB423_435, Q_NB435_423, Q_BK436, Q_GW436, Q_GE436, Q_NB420_436, Q_NB436_420, Q_NB421_436, Q_NB436_421, Q_NB422_436, Q_NB436_422, Q_NB423_436, Q_NB436_423, Q_BK434_e12, Q_BK435_e13, Q_BK436_e14, Q_X9_, Q_X10_, Q_X11_⟩ hb_ hon hoff
            refine ⟨_, rfl, fun K hK => ?_⟩
            have e41 : a.tmps[41]? = some (.agg #[.int .i64 a0_0, .int .i64 a0_1]) := by rw [ha]; exact putSel_on (e := (6, 41, .agg #[.int .i64 a0_0, .int .i64 a0_1])) 6 rfl rfl (hon 6 (by kernel_rfl)) rfl
            have e42 : a.tmps[42]? = some (.agg #[.int .i64 a3_0, .int .i64 a3_1]) := by rw [ha]; exact putSel_on (e := (7, 42, .agg #[.int .i64 a3_0, .int .i64 a3_1])) 7 rfl rfl (hon 7 (by kernel_rfl)) rfl
            replace ha := Aside0.mk ha
            have BK420 := Aside0.mk Q_BK420
            have BK421 := Aside0.mk Q_BK421
            have BK422 := Aside0.mk Q_BK422
            have BK423 := Aside0.mk Q_BK423
            have HB := Aside0.mk Q_HB
            refine goes_ Try.func50 (by kernel_rfl) rfl #[.agg #[.int .i64 a0_0, .int .i64 a0_1], .agg #[.int .i64 a3_0, .int .i64 a3_1]] (by rfl) rfl rfl (by first | (simp only [List.map_toArray, List.map_cons, List.map_nil, Act.eval, Array.getD_eq_getD_getElem?, Option.getD_some, e41, e42]; done) | (simp only [List.map_toArray, List.map_cons, List.map_nil, Act.eval, Array.getD_eq_getD_getElem?, Option.getD_some, e41, e42]; rfl)) ?_
            with_reducible refine (grids_to.calls a0_0 a0_1 a3_0 a3_1 t432 t433 _ A82.out).mono ?_
            rintro e w93 ⟨rfl, hb⟩
            refine ⟨_, rfl, ?_⟩
            have n0_ := bb BK420 hb
            have n1_ := bb BK421 hb
            have n2_ := bb BK422 hb
            have n3_ := bb BK423 hb
            have n4_ := bst HB hb
            have z_BK434 := fun (h0_ : b 9 = true) (h1_ : b 12 = false) => (show w93.heap[gb434]? = some (.cells #[.int .i64 0, .int .i64 0] 81 (0, 0)) from by first | exact (blk_below (g := gb434) (o := .cells #[.int .i64 0, .int .i64 0] 81 (0, 0)) (by (with_reducible repeat (first | refine blk_drewN ?_ _ | refine blk_drew ?_ | refine blk_alloc ?_ _)); exact (Q_BK434 h0_ h1_)) hb))
            have z_BK435 := fun (h0_ : b 10 = true) (h1_ : b 13 = false) => (show w93.heap[gb435]? = some (.cells #[.int .i64 0, .int .i64 0] 81 (0, 0)) from by first | exact (blk_below (g := gb435) (o := .cells #[.int .i64 0, .int .i64 0] 81 (0, 0)) (by (with_reducible repeat (first | refine blk_drewN ?_ _ | refine blk_drew ?_ | refine blk_alloc ?_ _)); exact (Q_BK435 h0_ h1_)) hb))
            have z_BK436 := fun (h0_ : b 11 = true) (h1_ : b 14 = false) => (show w93.heap[gb436]? = some (.cells #[.int .i64 0, .int .i64 0] 81 (0, 0)) from by first | exact (blk_below (g := gb436) (o := .cells #[.int .i64 0, .int .i64 0] 81 (0, 0)) (by (with_reducible repeat (first | refine blk_drewN ?_ _ | refine blk_drew ?_ | refine blk_alloc ?_ _)); exact (Q_BK436 h0_ h1_)) hb))
            clear BK420
            clear BK421
            clear BK422
            clear BK423
            clear HB
            have BK420 := n0_
            have BK421 := n1_
            have BK422 := n2_
            have BK423 := n3_
            have HB := n4_
            clear n0_ n1_ n2_ n3_ n4_
            (try clear hb)
            (try clear hb2)
            (try clear hk)
            (try clear hi)
            refine hK.out _ _ ⟨gb434, gb435, gb436, m9_, m10_, m11_, (by rw [ha.out]; exact putSel_upk 8 hb_ rfl rfl rfl), (pk BK420), (pk BK421), (pk BK422), (pk BK423), (bnow HB), Q_NB435_434, Q_NB434_435, Q_NB436_434, Q_NB434_436, Q_NB436_435, Q_NB435_436, z_BK434, Q_GW434, Q_GE434, Q_NB420_434, Q_NB434_420, Q_NB421_434, Q_NB434_421, Q_NB422_434, Q_NB434_422, Q_NB423_434, Q_NB434_423, z_BK435, Q_GW435, Q_GE435, Q_NB420_435, Q_NB435_420, Q_NB421_435, Q_NB435_421, Q_NB422_435, Q_NB435_422, Q_NB423_435, Q_NB435_423, z_BK436, Q_GW436, Q_GE436, Q_NB420_436, Q_NB436_420, Q_NB421_436, Q_NB436_421, Q_NB422_436, Q_NB436_422, Q_NB423_436, Q_NB436_423, fun h0_ => absurd ((hoff 12 (by kernel_rfl)).symm.trans h0_) (by decide), fun h0_ => absurd ((hoff 13 (by kernel_rfl)).symm.trans h0_) (by decide), fun h0_ => absurd ((hoff 14 (by kernel_rfl)).symm.trans h0_) (by decide), Q_X9_, Q_X10_, Q_X11_⟩
          refine steps_cons ?_ ?_
          · rintro b a w' ⟨gb434, gb435, gb436, m9_, m10_, m11_, ha, Q_BK420, Q_BK421, Q_BK422, Q_BK423, Q_HB, Q_NB435_434, Q_NB434_435, Q_NB436_434, Q_NB434_436, Q_NB436_435, Q_NB435_436, Q_BK434, Q_GW434, Q_GE434, Q_NB420_434, Q_NB434_420, Q_NB421_434, Q_NB434_421, Q_NB422_434, Q_NB434_422, Q_NB423_434, Q_NB434_423, Q_BK435, Q_GW435, Q_GE435, Q_NB420_435, Q_NB435_420, Q_NB421_435, Q_NB435_421, Q_NB422_435, Q_NB435_422, Q_NB423_435, Q_NB435_423, Q_BK436, Q_GW436, Q_GE436, Q_NB420_436, Q_NB436_420, Q_NB421_436, Q_NB436_421, Q_NB422_436, Q_NB436_422, Q_NB423_436, Q_NB436_423, Q_BK434_e12, Q_BK435_e13, Q_BK436_e14, Q_X9_, Q_X10_, Q_X11_⟩ hb_ hon hoff
            refine ⟨_, rfl, fun K hK => ?_⟩
            replace ha := Aside0.mk ha
            have BK420 := Aside0.mk Q_BK420
            have BK421 := Aside0.mk Q_BK421
            have BK422 := Aside0.mk Q_BK422
            have BK423 := Aside0.mk Q_BK423
            have HB := Aside0.mk Q_HB
            refine box_step ?hg (N := 10) ?hd (cs := #[.int .i64 0, .int .i64 0]) (t := 81) ?hr ?_; (case hd => rfl); (case hg => rfl); (case hr => first | (go_simp; done) | (go_simp; rfl))
            intro gb434 hg w90 hbox hb
            have n0_ := bb BK420 hb
            have n1_ := bb BK421 hb
            have n2_ := bb BK422 hb
            have n3_ := bb BK423 hb
            have n4_ := bst HB hb
            have n5_ := Aside0.mk (hbox)
            have n6_ := gw hg HB
            have n7_ := gw hg HB
            have n8_ := nlt hg BK420
            have n9_ := ngt hg BK420
            have n10_ := nlt hg BK421
            have n11_ := ngt hg BK421
            have n12_ := nlt hg BK422
            have n13_ := ngt hg BK422
            have n14_ := nlt hg BK423
            have n15_ := ngt hg BK423
            have z_NB435_434 := fun (h0_ : up b 9 9 = true) (h1_ : up b 9 10 = true) => (show gb435 ≠ gb434 from (by cases hb_ : b 13 with | false => exact ((by rw [hg]; exact Nat.ne_of_lt (blk_lt (g := gb435) (o := .cells #[.int .i64 0, .int .i64 0] 81 (0, 0)) (by (with_reducible repeat (first | refine blk_drewN ?_ _ | refine blk_drew ?_ | refine blk_alloc ?_ _)); exact (Q_BK435 h1_ hb_))) : gb435 ≠ gb434)) | true => exact ((by rw [hg]; exact Nat.ne_of_lt (blk_lt (g := gb435) (by (with_reducible repeat (first | refine blk_drewN ?_ _ | refine blk_drew ?_ | refine blk_alloc ?_ _)); exact (Q_BK435_e13 hb_))) : gb435 ≠ gb434))))
            have z_NB434_435 := fun (h0_ : up b 9 9 = true) (h1_ : up b 9 10 = true) => (show gb434 ≠ gb435 from (by cases hb_ : b 13 with | false => exact ((by rw [hg]; exact Nat.ne_of_gt (blk_lt (g := gb435) (o := .cells #[.int .i64 0, .int .i64 0] 81 (0, 0)) (by (with_reducible repeat (first | refine blk_drewN ?_ _ | refine blk_drew ?_ | refine blk_alloc ?_ _)); exact (Q_BK435 h1_ hb_))) : gb434 ≠ gb435)) | true => exact ((by rw [hg]; exact Nat.ne_of_gt (blk_lt (g := gb435) (by (with_reducible repeat (first | refine blk_drewN ?_ _ | refine blk_drew ?_ | refine blk_alloc ?_ _)); exact (Q_BK435_e13 hb_))) : gb434 ≠ gb435))))
            have z_NB436_434 := fun (h0_ : up b 9 9 = true) (h1_ : up b 9 11 = true) => (show gb436 ≠ gb434 from (by cases hb_ : b 14 with | false => exact ((by rw [hg]; exact Nat.ne_of_lt (blk_lt (g := gb436) (o := .cells #[.int .i64 0, .int .i64 0] 81 (0, 0)) (by (with_reducible repeat (first | refine blk_drewN ?_ _ | refine blk_drew ?_ | refine blk_alloc ?_ _)); exact (Q_BK436 h1_ hb_))) : gb436 ≠ gb434)) | true => exact ((by rw [hg]; exact Nat.ne_of_lt (blk_lt (g := gb436) (by (with_reducible repeat (first | refine blk_drewN ?_ _ | refine blk_drew ?_ | refine blk_alloc ?_ _)); exact (Q_BK436_e14 hb_))) : gb436 ≠ gb434))))
            have z_NB434_436 := fun (h0_ : up b 9 9 = true) (h1_ : up b 9 11 = true) => (show gb434 ≠ gb436 from (by cases hb_ : b 14 with | false => exact ((by rw [hg]; exact Nat.ne_of_gt (blk_lt (g := gb436) (o := .cells #[.int .i64 0, .int .i64 0] 81 (0, 0)) (by (with_reducible repeat (first | refine blk_drewN ?_ _ | refine blk_drew ?_ | refine blk_alloc ?_ _)); exact (Q_BK436 h1_ hb_))) : gb434 ≠ gb436)) | true => exact ((by rw [hg]; exact Nat.ne_of_gt (blk_lt (g := gb436) (by (with_reducible repeat (first | refine blk_drewN ?_ _ | refine blk_drew ?_ | refine blk_alloc ?_ _)); exact (Q_BK436_e14 hb_))) : gb434 ≠ gb436))))
            have z_BK435 := fun (h0_ : b 10 = true) (h1_ : b 13 = false) => (show w90.heap[gb435]? = some (.cells #[.int .i64 0, .int .i64 0] 81 (0, 0)) from by first | exact (blk_below (g := gb435) (o := .cells #[.int .i64 0, .int .i64 0] 81 (0, 0)) (by (with_reducible repeat (first | refine blk_drewN ?_ _ | refine blk_drew ?_ | refine blk_alloc ?_ _)); exact (Q_BK435 h0_ h1_)) hb))
            have z_BK436 := fun (h0_ : b 11 = true) (h1_ : b 14 = false) => (show w90.heap[gb436]? = some (.cells #[.int .i64 0, .int .i64 0] 81 (0, 0)) from by first | exact (blk_below (g := gb436) (o := .cells #[.int .i64 0, .int .i64 0] 81 (0, 0)) (by (with_reducible repeat (first | refine blk_drewN ?_ _ | refine blk_drew ?_ | refine blk_alloc ?_ _)); exact (Q_BK436 h0_ h1_)) hb))
            clear BK420
            clear BK421
            clear BK422
            clear BK423
            clear HB
            have BK420 := n0_
            have BK421 := n1_
            have BK422 := n2_
            have BK423 := n3_
            have HB := n4_
            have BK434 := n5_
            have GW434 := n6_
            have GE434 := n7_
            have NB420_434 := n8_
            have NB434_420 := n9_
            have NB421_434 := n10_
            have NB434_421 := n11_
            have NB422_434 := n12_
            have NB434_422 := n13_
            have NB423_434 := n14_
            have NB434_423 := n15_
            clear n0_ n1_ n2_ n3_ n4_ n5_ n6_ n7_ n8_ n9_ n10_ n11_ n12_ n13_ n14_ n15_
            clear hb hg
            refine hK.out _ _ ⟨gb434, gb435, gb436, (.pointer (some ⟨gb434, 0, none⟩)), m10_, m11_, (by rw [ha.out]; exact putSel_upk 9 hb_ rfl rfl rfl), (pk BK420), (pk BK421), (pk BK422), (pk BK423), (bnow HB), z_NB435_434, z_NB434_435, z_NB436_434, z_NB434_436, Q_NB436_435, Q_NB435_436, fun _ _ => (pk BK434), fun _ => GW434.out, fun _ => GE434.out, fun _ => NB420_434.out, fun _ => NB434_420.out, fun _ => NB421_434.out, fun _ => NB434_421.out, fun _ => NB422_434.out, fun _ => NB434_422.out, fun _ => NB423_434.out, fun _ => NB434_423.out, z_BK435, Q_GW435, Q_GE435, Q_NB420_435, Q_NB435_420, Q_NB421_435, Q_NB435_421, Q_NB422_435, Q_NB435_422, Q_NB423_435, Q_NB435_423, z_BK436, Q_GW436, Q_GE436, Q_NB420_436, Q_NB436_420, Q_NB421_436, Q_NB436_421, Q_NB422_436, Q_NB436_422, Q_NB423_436, Q_NB436_423, fun h0_ => absurd ((hoff 12 (by kernel_rfl)).symm.trans h0_) (by decide), fun h0_ => absurd ((hoff 13 (by kernel_rfl)).symm.trans h0_) (by decide), fun h0_ => absurd ((hoff 14 (by kernel_rfl)).symm.trans h0_) (by decide), fun _ => rfl, Q_X10_, Q_X11_⟩
          refine steps_cons ?_ ?_
          · rintro b a w' ⟨gb434, gb435, gb436, m9_, m10_, m11_, ha, Q_BK420, Q_BK421, Q_BK422, Q_BK423, Q_HB, Q_NB435_434, Q_NB434_435, Q_NB436_434, Q_NB434_436, Q_NB436_435, Q_NB435_436, Q_BK434, Q_GW434, Q_GE434, Q_NB420_434, Q_NB434_420, Q_NB421_434, Q_NB434_421, Q_NB422_434, Q_NB434_422, Q_NB423_434, Q_NB434_423, Q_BK435, Q_GW435, Q_GE435, Q_NB420_435, Q_NB435_420, Q_NB421_435, Q_NB435_421, Q_NB422_435, Q_NB435_422, Q_NB423_435, Q_NB435_423, Q_BK436, Q_GW436, Q_GE436, Q_NB420_436, Q_NB436_420, Q_NB421_436, Q_NB436_421, Q_NB422_436, Q_NB436_422, Q_NB423_436, Q_NB436_423, Q_BK434_e12, Q_BK435_e13, Q_BK436_e14, Q_X9_, Q_X10_, Q_X11_⟩ hb_ hon hoff
            refine ⟨_, rfl, fun K hK => ?_⟩
            replace ha := Aside0.mk ha
            have BK420 := Aside0.mk Q_BK420
            have BK421 := Aside0.mk Q_BK421
            have BK422 := Aside0.mk Q_BK422
            have BK423 := Aside0.mk Q_BK423
            have HB := Aside0.mk Q_HB
            refine box_step ?hg (N := 11) ?hd (cs := #[.int .i64 0, .int .i64 0]) (t := 81) ?hr ?_; (case hd => rfl); (case hg => rfl); (case hr => first | (go_simp; done) | (go_simp; rfl))
            intro gb435 hg w90 hbox hb
            have n0_ := bb BK420 hb
            have n1_ := bb BK421 hb
            have n2_ := bb BK422 hb
            have n3_ := bb BK423 hb
            have n4_ := bst HB hb
            have n5_ := Aside0.mk (hbox)
            have n6_ := gw hg HB
            have n7_ := gw hg HB
            have n8_ := nlt hg BK420
            have n9_ := ngt hg BK420
            have n10_ := nlt hg BK421
            have n11_ := ngt hg BK421
            have n12_ := nlt hg BK422
            have n13_ := ngt hg BK422
            have n14_ := nlt hg BK423
            have n15_ := ngt hg BK423
            have z_NB435_434 := fun (h0_ : up b 10 9 = true) (h1_ : up b 10 10 = true) => (show gb435 ≠ gb434 from (by cases hb_ : b 12 with | false => exact ((by rw [hg]; exact Nat.ne_of_gt (blk_lt (g := gb434) (o := .cells #[.int .i64 0, .int .i64 0] 81 (0, 0)) (by (with_reducible repeat (first | refine blk_drewN ?_ _ | refine blk_drew ?_ | refine blk_alloc ?_ _)); exact (Q_BK434 h0_ hb_))) : gb435 ≠ gb434)) | true => exact ((by rw [hg]; exact Nat.ne_of_gt (blk_lt (g := gb434) (by (with_reducible repeat (first | refine blk_drewN ?_ _ | refine blk_drew ?_ | refine blk_alloc ?_ _)); exact (Q_BK434_e12 hb_))) : gb435 ≠ gb434))))
            have z_NB434_435 := fun (h0_ : up b 10 9 = true) (h1_ : up b 10 10 = true) => (show gb434 ≠ gb435 from (by cases hb_ : b 12 with | false => exact ((by rw [hg]; exact Nat.ne_of_lt (blk_lt (g := gb434) (o := .cells #[.int .i64 0, .int .i64 0] 81 (0, 0)) (by (with_reducible repeat (first | refine blk_drewN ?_ _ | refine blk_drew ?_ | refine blk_alloc ?_ _)); exact (Q_BK434 h0_ hb_))) : gb434 ≠ gb435)) | true => exact ((by rw [hg]; exact Nat.ne_of_lt (blk_lt (g := gb434) (by (with_reducible repeat (first | refine blk_drewN ?_ _ | refine blk_drew ?_ | refine blk_alloc ?_ _)); exact (Q_BK434_e12 hb_))) : gb434 ≠ gb435))))
            have z_NB436_435 := fun (h0_ : up b 10 10 = true) (h1_ : up b 10 11 = true) => (show gb436 ≠ gb435 from (by cases hb_ : b 14 with | false => exact ((by rw [hg]; exact Nat.ne_of_lt (blk_lt (g := gb436) (o := .cells #[.int .i64 0, .int .i64 0] 81 (0, 0)) (by (with_reducible repeat (first | refine blk_drewN ?_ _ | refine blk_drew ?_ | refine blk_alloc ?_ _)); exact (Q_BK436 h1_ hb_))) : gb436 ≠ gb435)) | true => exact ((by rw [hg]; exact Nat.ne_of_lt (blk_lt (g := gb436) (by (with_reducible repeat (first | refine blk_drewN ?_ _ | refine blk_drew ?_ | refine blk_alloc ?_ _)); exact (Q_BK436_e14 hb_))) : gb436 ≠ gb435))))
            have z_NB435_436 := fun (h0_ : up b 10 10 = true) (h1_ : up b 10 11 = true) => (show gb435 ≠ gb436 from (by cases hb_ : b 14 with | false => exact ((by rw [hg]; exact Nat.ne_of_gt (blk_lt (g := gb436) (o := .cells #[.int .i64 0, .int .i64 0] 81 (0, 0)) (by (with_reducible repeat (first | refine blk_drewN ?_ _ | refine blk_drew ?_ | refine blk_alloc ?_ _)); exact (Q_BK436 h1_ hb_))) : gb435 ≠ gb436)) | true => exact ((by rw [hg]; exact Nat.ne_of_gt (blk_lt (g := gb436) (by (with_reducible repeat (first | refine blk_drewN ?_ _ | refine blk_drew ?_ | refine blk_alloc ?_ _)); exact (Q_BK436_e14 hb_))) : gb435 ≠ gb436))))
            have z_BK434 := fun (h0_ : b 9 = true) (h1_ : b 12 = false) => (show w90.heap[gb434]? = some (.cells #[.int .i64 0, .int .i64 0] 81 (0, 0)) from by first | exact (blk_below (g := gb434) (o := .cells #[.int .i64 0, .int .i64 0] 81 (0, 0)) (by (with_reducible repeat (first | refine blk_drewN ?_ _ | refine blk_drew ?_ | refine blk_alloc ?_ _)); exact (Q_BK434 h0_ h1_)) hb))
            have z_BK436 := fun (h0_ : b 11 = true) (h1_ : b 14 = false) => (show w90.heap[gb436]? = some (.cells #[.int .i64 0, .int .i64 0] 81 (0, 0)) from by first | exact (blk_below (g := gb436) (o := .cells #[.int .i64 0, .int .i64 0] 81 (0, 0)) (by (with_reducible repeat (first | refine blk_drewN ?_ _ | refine blk_drew ?_ | refine blk_alloc ?_ _)); exact (Q_BK436 h0_ h1_)) hb))
            clear BK420
            clear BK421
            clear BK422
            clear BK423
            clear HB
            have BK420 := n0_
            have BK421 := n1_
            have BK422 := n2_
            have BK423 := n3_
            have HB := n4_
            have BK435 := n5_
            have GW435 := n6_
            have GE435 := n7_
            have NB420_435 := n8_
            have NB435_420 := n9_
            have NB421_435 := n10_
            have NB435_421 := n11_
            have NB422_435 := n12_
            have NB435_422 := n13_
            have NB423_435 := n14_
            have NB435_423 := n15_
            clear n0_ n1_ n2_ n3_ n4_ n5_ n6_ n7_ n8_ n9_ n10_ n11_ n12_ n13_ n14_ n15_
            clear hb hg
            refine hK.out _ _ ⟨gb434, gb435, gb436, m9_, (.pointer (some ⟨gb435, 0, none⟩)), m11_, (by rw [ha.out]; exact putSel_upk 10 hb_ rfl rfl rfl), (pk BK420), (pk BK421), (pk BK422), (pk BK423), (bnow HB), z_NB435_434, z_NB434_435, Q_NB436_434, Q_NB434_436, z_NB436_435, z_NB435_436, z_BK434, Q_GW434, Q_GE434, Q_NB420_434, Q_NB434_420, Q_NB421_434, Q_NB434_421, Q_NB422_434, Q_NB434_422, Q_NB423_434, Q_NB434_423, fun _ _ => (pk BK435), fun _ => GW435.out, fun _ => GE435.out, fun _ => NB420_435.out, fun _ => NB435_420.out, fun _ => NB421_435.out, fun _ => NB435_421.out, fun _ => NB422_435.out, fun _ => NB435_422.out, fun _ => NB423_435.out, fun _ => NB435_423.out, z_BK436, Q_GW436, Q_GE436, Q_NB420_436, Q_NB436_420, Q_NB421_436, Q_NB436_421, Q_NB422_436, Q_NB436_422, Q_NB423_436, Q_NB436_423, fun h0_ => absurd ((hoff 12 (by kernel_rfl)).symm.trans h0_) (by decide), fun h0_ => absurd ((hoff 13 (by kernel_rfl)).symm.trans h0_) (by decide), fun h0_ => absurd ((hoff 14 (by kernel_rfl)).symm.trans h0_) (by decide), Q_X9_, fun _ => rfl, Q_X11_⟩
          refine steps_cons ?_ ?_
          · rintro b a w' ⟨gb434, gb435, gb436, m9_, m10_, m11_, ha, Q_BK420, Q_BK421, Q_BK422, Q_BK423, Q_HB, Q_NB435_434, Q_NB434_435, Q_NB436_434, Q_NB434_436, Q_NB436_435, Q_NB435_436, Q_BK434, Q_GW434, Q_GE434, Q_NB420_434, Q_NB434_420, Q_NB421_434, Q_NB434_421, Q_NB422_434, Q_NB434_422, Q_NB423_434, Q_NB434_423, Q_BK435, Q_GW435, Q_GE435, Q_NB420_435, Q_NB435_420, Q_NB421_435, Q_NB435_421, Q_NB422_435, Q_NB435_422, Q_NB423_435, Q_NB435_423, Q_BK436, Q_GW436, Q_GE436, Q_NB420_436, Q_NB436_420, Q_NB421_436, Q_NB436_421, Q_NB422_436, Q_NB436_422, Q_NB423_436, Q_NB436_423, Q_BK434_e12, Q_BK435_e13, Q_BK436_e14, Q_X9_, Q_X10_, Q_X11_⟩ hb_ hon hoff
            refine ⟨_, rfl, fun K hK => ?_⟩
            replace ha := Aside0.mk ha
            have BK420 := Aside0.mk Q_BK420
            have BK421 := Aside0.mk Q_BK421
            have BK422 := Aside0.mk Q_BK422
            have BK423 := Aside0.mk Q_BK423
            have HB := Aside0.mk Q_HB
            refine box_step ?hg (N := 12) ?hd (cs := #[.int .i64 0, .int .i64 0]) (t := 81) ?hr ?_; (case hd => rfl); (case hg => rfl); (case hr => first | (go_simp; done) | (go_simp; rfl))
            intro gb436 hg w90 hbox hb
            have n0_ := bb BK420 hb
            have n1_ := bb BK421 hb
            have n2_ := bb BK422 hb
            have n3_ := bb BK423 hb
            have n4_ := bst HB hb
            have n5_ := Aside0.mk (hbox)
            have n6_ := gw hg HB
            have n7_ := gw hg HB
            have n8_ := nlt hg BK420
            have n9_ := ngt hg BK420
            have n10_ := nlt hg BK421
            have n11_ := ngt hg BK421
            have n12_ := nlt hg BK422
            have n13_ := ngt hg BK422
            have n14_ := nlt hg BK423
            have n15_ := ngt hg BK423
            have z_NB436_434 := fun (h0_ : up b 11 9 = true) (h1_ : up b 11 11 = true) => (show gb436 ≠ gb434 from (by cases hb_ : b 12 with | false => exact ((by rw [hg]; exact Nat.ne_of_gt (blk_lt (g := gb434) (o := .cells #[.int .i64 0, .int .i64 0] 81 (0, 0)) (by (with_reducible repeat (first | refine blk_drewN ?_ _ | refine blk_drew ?_ | refine blk_alloc ?_ _)); exact (Q_BK434 h0_ hb_))) : gb436 ≠ gb434)) | true => exact ((by rw [hg]; exact Nat.ne_of_gt (blk_lt (g := gb434) (by (with_reducible repeat (first | refine blk_drewN ?_ _ | refine blk_drew ?_ | refine blk_alloc ?_ _)); exact (Q_BK434_e12 hb_))) : gb436 ≠ gb434))))
            have z_NB434_436 := fun (h0_ : up b 11 9 = true) (h1_ : up b 11 11 = true) => (show gb434 ≠ gb436 from (by cases hb_ : b 12 with | false => exact ((by rw [hg]; exact Nat.ne_of_lt (blk_lt (g := gb434) (o := .cells #[.int .i64 0, .int .i64 0] 81 (0, 0)) (by (with_reducible repeat (first | refine blk_drewN ?_ _ | refine blk_drew ?_ | refine blk_alloc ?_ _)); exact (Q_BK434 h0_ hb_))) : gb434 ≠ gb436)) | true => exact ((by rw [hg]; exact Nat.ne_of_lt (blk_lt (g := gb434) (by (with_reducible repeat (first | refine blk_drewN ?_ _ | refine blk_drew ?_ | refine blk_alloc ?_ _)); exact (Q_BK434_e12 hb_))) : gb434 ≠ gb436))))
            have z_NB436_435 := fun (h0_ : up b 11 10 = true) (h1_ : up b 11 11 = true) => (show gb436 ≠ gb435 from (by cases hb_ : b 13 with | false => exact ((by rw [hg]; exact Nat.ne_of_gt (blk_lt (g := gb435) (o := .cells #[.int .i64 0, .int .i64 0] 81 (0, 0)) (by (with_reducible repeat (first | refine blk_drewN ?_ _ | refine blk_drew ?_ | refine blk_alloc ?_ _)); exact (Q_BK435 h0_ hb_))) : gb436 ≠ gb435)) | true => exact ((by rw [hg]; exact Nat.ne_of_gt (blk_lt (g := gb435) (by (with_reducible repeat (first | refine blk_drewN ?_ _ | refine blk_drew ?_ | refine blk_alloc ?_ _)); exact (Q_BK435_e13 hb_))) : gb436 ≠ gb435))))
            have z_NB435_436 := fun (h0_ : up b 11 10 = true) (h1_ : up b 11 11 = true) => (show gb435 ≠ gb436 from (by cases hb_ : b 13 with | false => exact ((by rw [hg]; exact Nat.ne_of_lt (blk_lt (g := gb435) (o := .cells #[.int .i64 0, .int .i64 0] 81 (0, 0)) (by (with_reducible repeat (first | refine blk_drewN ?_ _ | refine blk_drew ?_ | refine blk_alloc ?_ _)); exact (Q_BK435 h0_ hb_))) : gb435 ≠ gb436)) | true => exact ((by rw [hg]; exact Nat.ne_of_lt (blk_lt (g := gb435) (by (with_reducible repeat (first | refine blk_drewN ?_ _ | refine blk_drew ?_ | refine blk_alloc ?_ _)); exact (Q_BK435_e13 hb_))) : gb435 ≠ gb436))))
            have z_BK434 := fun (h0_ : b 9 = true) (h1_ : b 12 = false) => (show w90.heap[gb434]? = some (.cells #[.int .i64 0, .int .i64 0] 81 (0, 0)) from by first | exact (blk_below (g := gb434) (o := .cells #[.int .i64 0, .int .i64 0] 81 (0, 0)) (by (with_reducible repeat (first | refine blk_drewN ?_ _ | refine blk_drew ?_ | refine blk_alloc ?_ _)); exact (Q_BK434 h0_ h1_)) hb))
            have z_BK435 := fun (h0_ : b 10 = true) (h1_ : b 13 = false) => (show w90.heap[gb435]? = some (.cells #[.int .i64 0, .int .i64 0] 81 (0, 0)) from by first | exact (blk_below (g := gb435) (o := .cells #[.int .i64 0, .int .i64 0] 81 (0, 0)) (by (with_reducible repeat (first | refine blk_drewN ?_ _ | refine blk_drew ?_ | refine blk_alloc ?_ _)); exact (Q_BK435 h0_ h1_)) hb))
            clear BK420
            clear BK421
            clear BK422
            clear BK423
            clear HB
            have BK420 := n0_
            have BK421 := n1_
            have BK422 := n2_
            have BK423 := n3_
            have HB := n4_
            have BK436 := n5_
            have GW436 := n6_
            have GE436 := n7_
            have NB420_436 := n8_
            have NB436_420 := n9_
            have NB421_436 := n10_
            have NB436_421 := n11_
            have NB422_436 := n12_
            have NB436_422 := n13_
            have NB423_436 := n14_
            have NB436_423 := n15_
            clear n0_ n1_ n2_ n3_ n4_ n5_ n6_ n7_ n8_ n9_ n10_ n11_ n12_ n13_ n14_ n15_
            clear hb hg
            refine hK.out _ _ ⟨gb434, gb435, gb436, m9_, m10_, (.pointer (some ⟨gb436, 0, none⟩)), (by rw [ha.out]; exact putSel_upk 11 hb_ rfl rfl rfl), (pk BK420), (pk BK421), (pk BK422), (pk BK423), (bnow HB), Q_NB435_434, Q_NB434_435, z_NB436_434, z_NB434_436, z_NB436_435, z_NB435_436, z_BK434, Q_GW434, Q_GE434, Q_NB420_434, Q_NB434_420, Q_NB421_434, Q_NB434_421, Q_NB422_434, Q_NB434_422, Q_NB423_434, Q_NB434_423, z_BK435, Q_GW435, Q_GE435, Q_NB420_435, Q_NB435_420, Q_NB421_435, Q_NB435_421, Q_NB422_435, Q_NB435_422, Q_NB423_435, Q_NB435_423, fun _ _ => (pk BK436), fun _ => GW436.out, fun _ => GE436.out, fun _ => NB420_436.out, fun _ => NB436_420.out, fun _ => NB421_436.out, fun _ => NB436_421.out, fun _ => NB422_436.out, fun _ => NB436_422.out, fun _ => NB423_436.out, fun _ => NB436_423.out, fun h0_ => absurd ((hoff 12 (by kernel_rfl)).symm.trans h0_) (by decide), fun h0_ => absurd ((hoff 13 (by kernel_rfl)).symm.trans h0_) (by decide), fun h0_ => absurd ((hoff 14 (by kernel_rfl)).symm.trans h0_) (by decide), Q_X9_, Q_X10_, fun _ => rfl⟩
          refine steps_cons ?_ ?_
          · rintro b a w' ⟨gb434, gb435, gb436, m9_, m10_, m11_, ha, Q_BK420, Q_BK421, Q_BK422, Q_BK423, Q_HB, Q_NB435_434, Q_NB434_435, Q_NB436_434, Q_NB434_436, Q_NB436_435, Q_NB435_436, Q_BK434, Q_GW434, Q_GE434, Q_NB420_434, Q_NB434_420, Q_NB421_434, Q_NB434_421, Q_NB422_434, Q_NB434_422, Q_NB423_434, Q_NB434_423, Q_BK435, Q_GW435, Q_GE435, Q_NB420_435, Q_NB435_420, Q_NB421_435, Q_NB435_421, Q_NB422_435, Q_NB435_422, Q_NB423_435, Q_NB435_423, Q_BK436, Q_GW436, Q_GE436, Q_NB420_436, Q_NB436_420, Q_NB421_436, Q_NB436_421, Q_NB422_436, Q_NB436_422, Q_NB423_436, Q_NB436_423, Q_BK434_e12, Q_BK435_e13, Q_BK436_e14, Q_X9_, Q_X10_, Q_X11_⟩ hb_ hon hoff
            refine ⟨_, rfl, fun K hK => ?_⟩
            have e10 : a.tmps[10]? = some (m9_) := by rw [ha]; exact putSel_on (e := (9, 10, m9_)) 9 rfl rfl (hon 9 (by kernel_rfl)) rfl
            rw [Q_X9_ (hon 9 (by kernel_rfl))] at e10
            have e37 : a.tmps[37]? = some (.agg #[.int .i64 t428, .int .i64 t429]) := by rw [ha]; exact putSel_on (e := (2, 37, .agg #[.int .i64 t428, .int .i64 t429])) 2 rfl rfl (hon 2 (by kernel_rfl)) rfl
            replace ha := Aside0.mk ha
            have BK420 := Aside0.mk Q_BK420
            have BK421 := Aside0.mk Q_BK421
            have BK422 := Aside0.mk Q_BK422
            have BK423 := Aside0.mk Q_BK423
            have HB := Aside0.mk Q_HB
            have NB435_434 := Aside0.mk (Q_NB435_434 (hon 9 (by kernel_rfl)) (hon 10 (by kernel_rfl)))
            have NB434_435 := Aside0.mk (Q_NB434_435 (hon 9 (by kernel_rfl)) (hon 10 (by kernel_rfl)))
            have NB436_434 := Aside0.mk (Q_NB436_434 (hon 9 (by kernel_rfl)) (hon 11 (by kernel_rfl)))
            have NB434_436 := Aside0.mk (Q_NB434_436 (hon 9 (by kernel_rfl)) (hon 11 (by kernel_rfl)))
            have NB436_435 := Aside0.mk (Q_NB436_435 (hon 10 (by kernel_rfl)) (hon 11 (by kernel_rfl)))
            have NB435_436 := Aside0.mk (Q_NB435_436 (hon 10 (by kernel_rfl)) (hon 11 (by kernel_rfl)))
            have BK434 := Aside0.mk (Q_BK434 (hon 9 (by kernel_rfl)) hb_)
            have GW434 := Aside0.mk (Q_GW434 (hon 9 (by kernel_rfl)))
            have GE434 := Aside0.mk (Q_GE434 (hon 9 (by kernel_rfl)))
            have NB420_434 := Aside0.mk (Q_NB420_434 (hon 9 (by kernel_rfl)))
            have NB434_420 := Aside0.mk (Q_NB434_420 (hon 9 (by kernel_rfl)))
            have NB421_434 := Aside0.mk (Q_NB421_434 (hon 9 (by kernel_rfl)))
            have NB434_421 := Aside0.mk (Q_NB434_421 (hon 9 (by kernel_rfl)))
            have NB422_434 := Aside0.mk (Q_NB422_434 (hon 9 (by kernel_rfl)))
            have NB434_422 := Aside0.mk (Q_NB434_422 (hon 9 (by kernel_rfl)))
            have NB423_434 := Aside0.mk (Q_NB423_434 (hon 9 (by kernel_rfl)))
            have NB434_423 := Aside0.mk (Q_NB434_423 (hon 9 (by kernel_rfl)))
            have BK435 := Aside0.mk (Q_BK435 (hon 10 (by kernel_rfl)) (hoff 13 (by kernel_rfl)))
            have GW435 := Aside0.mk (Q_GW435 (hon 10 (by kernel_rfl)))
            have GE435 := Aside0.mk (Q_GE435 (hon 10 (by kernel_rfl)))
            have NB420_435 := Aside0.mk (Q_NB420_435 (hon 10 (by kernel_rfl)))
            have NB435_420 := Aside0.mk (Q_NB435_420 (hon 10 (by kernel_rfl)))
            have NB421_435 := Aside0.mk (Q_NB421_435 (hon 10 (by kernel_rfl)))
            have NB435_421 := Aside0.mk (Q_NB435_421 (hon 10 (by kernel_rfl)))
            have NB422_435 := Aside0.mk (Q_NB422_435 (hon 10 (by kernel_rfl)))
            have NB435_422 := Aside0.mk (Q_NB435_422 (hon 10 (by kernel_rfl)))
            have NB423_435 := Aside0.mk (Q_NB423_435 (hon 10 (by kernel_rfl)))
            have NB435_423 := Aside0.mk (Q_NB435_423 (hon 10 (by kernel_rfl)))
            have BK436 := Aside0.mk (Q_BK436 (hon 11 (by kernel_rfl)) (hoff 14 (by kernel_rfl)))
            have GW436 := Aside0.mk (Q_GW436 (hon 11 (by kernel_rfl)))
            have GE436 := Aside0.mk (Q_GE436 (hon 11 (by kernel_rfl)))
            have NB420_436 := Aside0.mk (Q_NB420_436 (hon 11 (by kernel_rfl)))
            have NB436_420 := Aside0.mk (Q_NB436_420 (hon 11 (by kernel_rfl)))
            have NB421_436 := Aside0.mk (Q_NB421_436 (hon 11 (by kernel_rfl)))
            have NB436_421 := Aside0.mk (Q_NB436_421 (hon 11 (by kernel_rfl)))
            have NB422_436 := Aside0.mk (Q_NB422_436 (hon 11 (by kernel_rfl)))
            have NB436_422 := Aside0.mk (Q_NB436_422 (hon 11 (by kernel_rfl)))
            have NB423_436 := Aside0.mk (Q_NB423_436 (hon 11 (by kernel_rfl)))
            have NB436_423 := Aside0.mk (Q_NB436_423 (hon 11 (by kernel_rfl)))
            have hs97 : w'.cell? ⟨gb434, 0, none⟩ = some (.int .i64 0) := (blk_cell BK434.out 0).trans rfl
            have hfs97 := blk_frozen BK434.out 0
            have hns97_0 := NB420_434.out
            have hns97_1 := NB421_434.out
            have hns97_2 := NB422_434.out
            have hns97_3 := NB423_434.out
            have hns97_5 := NB435_434.out
            have hns97_6 := NB436_434.out
            have hms97_0 := NB434_420.out
            have hms97_1 := NB434_421.out
            have hms97_2 := NB434_422.out
            have hms97_3 := NB434_423.out
            have hms97_5 := NB434_435.out
            have hms97_6 := NB434_436.out
            have hs98 : w'.cell? ⟨gb434, 1, none⟩ = some (.int .i64 0) := (blk_cell BK434.out 1).trans rfl
            have hfs98 := blk_frozen BK434.out 1
            have hns98_0 := NB420_434.out
            have hns98_1 := NB421_434.out
            have hns98_2 := NB422_434.out
            have hns98_3 := NB423_434.out
            have hns98_5 := NB435_434.out
            have hns98_6 := NB436_434.out
            have hms98_0 := NB434_420.out
            have hms98_1 := NB434_421.out
            have hms98_2 := NB434_422.out
            have hms98_3 := NB434_423.out
            have hms98_5 := NB434_435.out
            have hms98_6 := NB434_436.out
            refine skip_ (w1 := ?_) (by rfl) rfl ?_ ?_
            rotate_left
            · go_simp
              rfl
            refine hK.out _ _ ⟨gb434, gb435, gb436, m9_, m10_, m11_, (by rw [ha.out]; exact putSel_none (v := undef) rfl), (by (with_reducible repeat (first | refine blk_drewN ?_ _ | refine blk_drew ?_ | refine blk_alloc ?_ _)); refine blk_far ?_ NB420_434.out _; (with_reducible repeat (first | refine blk_drewN ?_ _ | refine blk_drew ?_ | refine blk_alloc ?_ _)); refine blk_far ?_ NB420_434.out _; (with_reducible repeat (first | refine blk_drewN ?_ _ | refine blk_drew ?_ | refine blk_alloc ?_ _)); exact BK420.out), (by (with_reducible repeat (first | refine blk_drewN ?_ _ | refine blk_drew ?_ | refine blk_alloc ?_ _)); refine blk_far ?_ NB421_434.out _; (with_reducible repeat (first | refine blk_drewN ?_ _ | refine blk_drew ?_ | refine blk_alloc ?_ _)); refine blk_far ?_ NB421_434.out _; (with_reducible repeat (first | refine blk_drewN ?_ _ | refine blk_drew ?_ | refine blk_alloc ?_ _)); exact BK421.out), (by (with_reducible repeat (first | refine blk_drewN ?_ _ | refine blk_drew ?_ | refine blk_alloc ?_ _)); refine blk_far ?_ NB422_434.out _; (with_reducible repeat (first | refine blk_drewN ?_ _ | refine blk_drew ?_ | refine blk_alloc ?_ _)); refine blk_far ?_ NB422_434.out _; (with_reducible repeat (first | refine blk_drewN ?_ _ | refine blk_drew ?_ | refine blk_alloc ?_ _)); exact BK422.out), (by (with_reducible repeat (first | refine blk_drewN ?_ _ | refine blk_drew ?_ | refine blk_alloc ?_ _)); refine blk_far ?_ NB423_434.out _; (with_reducible repeat (first | refine blk_drewN ?_ _ | refine blk_drew ?_ | refine blk_alloc ?_ _)); refine blk_far ?_ NB423_434.out _; (with_reducible repeat (first | refine blk_drewN ?_ _ | refine blk_drew ?_ | refine blk_alloc ?_ _)); exact BK423.out), (bnow HB), fun _ _ => NB435_434.out, fun _ _ => NB434_435.out, fun _ _ => NB436_434.out, fun _ _ => NB434_436.out, fun _ _ => NB436_435.out, fun _ _ => NB435_436.out, fun _ h1_ => absurd ((up_self b 12).symm.trans h1_) (by decide), fun _ => GW434.out, fun _ => GE434.out, fun _ => NB420_434.out, fun _ => NB434_420.out, fun _ => NB421_434.out, fun _ => NB434_421.out, fun _ => NB422_434.out, fun _ => NB434_422.out, fun _ => NB423_434.out, fun _ => NB434_423.out, fun _ _ => (by (with_reducible repeat (first | refine blk_drewN ?_ _ | refine blk_drew ?_ | refine blk_alloc ?_ _)); refine blk_far ?_ NB435_434.out _; (with_reducible repeat (first | refine blk_drewN ?_ _ | refine blk_drew ?_ | refine blk_alloc ?_ _)); refine blk_far ?_ NB435_434.out _; (with_reducible repeat (first | refine blk_drewN ?_ _ | refine blk_drew ?_ | refine blk_alloc ?_ _)); exact BK435.out), fun _ => GW435.out, fun _ => GE435.out, fun _ => NB420_435.out, fun _ => NB435_420.out, fun _ => NB421_435.out, fun _ => NB435_421.out, fun _ => NB422_435.out, fun _ => NB435_422.out, fun _ => NB423_435.out, fun _ => NB435_423.out, fun _ _ => (by (with_reducible repeat (first | refine blk_drewN ?_ _ | refine blk_drew ?_ | refine blk_alloc ?_ _)); refine blk_far ?_ NB436_434.out _; (with_reducible repeat (first | refine blk_drewN ?_ _ | refine blk_drew ?_ | refine blk_alloc ?_ _)); refine blk_far ?_ NB436_434.out _; (with_reducible repeat (first | refine blk_drewN ?_ _ | refine blk_drew ?_ | refine blk_alloc ?_ _)); exact BK436.out), fun _ => GW436.out, fun _ => GE436.out, fun _ => NB420_436.out, fun _ => NB436_420.out, fun _ => NB421_436.out, fun _ => NB436_421.out, fun _ => NB422_436.out, fun _ => NB436_422.out, fun _ => NB423_436.out, fun _ => NB436_423.out, fun _ => (by (with_reducible repeat (first | refine blk_drewN ?_ _ | refine blk_drew ?_ | refine blk_alloc ?_ _)); refine blk_put (cs := #[.int .i64 t428, .int .i64 0]) ?_ 1 _ rfl; (with_reducible repeat (first | refine blk_drewN ?_ _ | refine blk_drew ?_ | refine blk_alloc ?_ _)); refine blk_put (cs := #[.int .i64 0, .int .i64 0]) ?_ 0 _ rfl; (with_reducible repeat (first | refine blk_drewN ?_ _ | refine blk_drew ?_ | refine blk_alloc ?_ _)); exact BK434.out), fun h0_ => absurd ((hoff 13 (by kernel_rfl)).symm.trans h0_) (by decide), fun h0_ => absurd ((hoff 14 (by kernel_rfl)).symm.trans h0_) (by decide), Q_X9_, Q_X10_, Q_X11_⟩
          refine steps_cons ?_ ?_
          · rintro b a w' ⟨gb434, gb435, gb436, m9_, m10_, m11_, ha, Q_BK420, Q_BK421, Q_BK422, Q_BK423, Q_HB, Q_NB435_434, Q_NB434_435, Q_NB436_434, Q_NB434_436, Q_NB436_435, Q_NB435_436, Q_BK434, Q_GW434, Q_GE434, Q_NB420_434, Q_NB434_420, Q_NB421_434, Q_NB434_421, Q_NB422_434, Q_NB434_422, Q_NB423_434, Q_NB434_423, Q_BK435, Q_GW435, Q_GE435, Q_NB420_435, Q_NB435_420, Q_NB421_435, Q_NB435_421, Q_NB422_435, Q_NB435_422, Q_NB423_435, Q_NB435_423, Q_BK436, Q_GW436, Q_GE436, Q_NB420_436, Q_NB436_420, Q_NB421_436, Q_NB436_421, Q_NB422_436, Q_NB436_422, Q_NB423_436, Q_NB436_423, Q_BK434_e12, Q_BK435_e13, Q_BK436_e14, Q_X9_, Q_X10_, Q_X11_⟩ hb_ hon hoff
            refine ⟨_, rfl, fun K hK => ?_⟩
            have e11 : a.tmps[11]? = some (m10_) := by rw [ha]; exact putSel_on (e := (10, 11, m10_)) 10 rfl rfl (hon 10 (by kernel_rfl)) rfl
            rw [Q_X10_ (hon 10 (by kernel_rfl))] at e11
            have e40 : a.tmps[40]? = some (.agg #[.int .i64 t430, .int .i64 t431]) := by rw [ha]; exact putSel_on (e := (5, 40, .agg #[.int .i64 t430, .int .i64 t431])) 5 rfl rfl (hon 5 (by kernel_rfl)) rfl
            replace ha := Aside0.mk ha
            have BK420 := Aside0.mk Q_BK420
            have BK421 := Aside0.mk Q_BK421
            have BK422 := Aside0.mk Q_BK422
            have BK423 := Aside0.mk Q_BK423
            have HB := Aside0.mk Q_HB
            have NB435_434 := Aside0.mk (Q_NB435_434 (hon 9 (by kernel_rfl)) (hon 10 (by kernel_rfl)))
            have NB434_435 := Aside0.mk (Q_NB434_435 (hon 9 (by kernel_rfl)) (hon 10 (by kernel_rfl)))
            have NB436_434 := Aside0.mk (Q_NB436_434 (hon 9 (by kernel_rfl)) (hon 11 (by kernel_rfl)))
            have NB434_436 := Aside0.mk (Q_NB434_436 (hon 9 (by kernel_rfl)) (hon 11 (by kernel_rfl)))
            have NB436_435 := Aside0.mk (Q_NB436_435 (hon 10 (by kernel_rfl)) (hon 11 (by kernel_rfl)))
            have NB435_436 := Aside0.mk (Q_NB435_436 (hon 10 (by kernel_rfl)) (hon 11 (by kernel_rfl)))
            have GW434 := Aside0.mk (Q_GW434 (hon 9 (by kernel_rfl)))
            have GE434 := Aside0.mk (Q_GE434 (hon 9 (by kernel_rfl)))
            have NB420_434 := Aside0.mk (Q_NB420_434 (hon 9 (by kernel_rfl)))
            have NB434_420 := Aside0.mk (Q_NB434_420 (hon 9 (by kernel_rfl)))
            have NB421_434 := Aside0.mk (Q_NB421_434 (hon 9 (by kernel_rfl)))
            have NB434_421 := Aside0.mk (Q_NB434_421 (hon 9 (by kernel_rfl)))
            have NB422_434 := Aside0.mk (Q_NB422_434 (hon 9 (by kernel_rfl)))
            have NB434_422 := Aside0.mk (Q_NB434_422 (hon 9 (by kernel_rfl)))
            have NB423_434 := Aside0.mk (Q_NB423_434 (hon 9 (by kernel_rfl)))
            have NB434_423 := Aside0.mk (Q_NB434_423 (hon 9 (by kernel_rfl)))
            have BK435 := Aside0.mk (Q_BK435 (hon 10 (by kernel_rfl)) hb_)
            have GW435 := Aside0.mk (Q_GW435 (hon 10 (by kernel_rfl)))
            have GE435 := Aside0.mk (Q_GE435 (hon 10 (by kernel_rfl)))
            have NB420_435 := Aside0.mk (Q_NB420_435 (hon 10 (by kernel_rfl)))
            have NB435_420 := Aside0.mk (Q_NB435_420 (hon 10 (by kernel_rfl)))
            have NB421_435 := Aside0.mk (Q_NB421_435 (hon 10 (by kernel_rfl)))
            have NB435_421 := Aside0.mk (Q_NB435_421 (hon 10 (by kernel_rfl)))
            have NB422_435 := Aside0.mk (Q_NB422_435 (hon 10 (by kernel_rfl)))
            have NB435_422 := Aside0.mk (Q_NB435_422 (hon 10 (by kernel_rfl)))
            have NB423_435 := Aside0.mk (Q_NB423_435 (hon 10 (by kernel_rfl)))
            have NB435_423 := Aside0.mk (Q_NB435_423 (hon 10 (by kernel_rfl)))
            have BK436 := Aside0.mk (Q_BK436 (hon 11 (by kernel_rfl)) (hoff 14 (by kernel_rfl)))
            have GW436 := Aside0.mk (Q_GW436 (hon 11 (by kernel_rfl)))
            have GE436 := Aside0.mk (Q_GE436 (hon 11 (by kernel_rfl)))
            have NB420_436 := Aside0.mk (Q_NB420_436 (hon 11 (by kernel_rfl)))
            have NB436_420 := Aside0.mk (Q_NB436_420 (hon 11 (by kernel_rfl)))
            have NB421_436 := Aside0.mk (Q_NB421_436 (hon 11 (by kernel_rfl)))
            have NB436_421 := Aside0.mk (Q_NB436_421 (hon 11 (by kernel_rfl)))
            have NB422_436 := Aside0.mk (Q_NB422_436 (hon 11 (by kernel_rfl)))
            have NB436_422 := Aside0.mk (Q_NB436_422 (hon 11 (by kernel_rfl)))
            have NB423_436 := Aside0.mk (Q_NB423_436 (hon 11 (by kernel_rfl)))
            have NB436_423 := Aside0.mk (Q_NB436_423 (hon 11 (by kernel_rfl)))
            have BK434 := Aside0.mk (Q_BK434_e12 (hon 12 (by kernel_rfl)))
            have hs99 : w'.cell? ⟨gb435, 0, none⟩ = some (.int .i64 0) := (blk_cell BK435.out 0).trans rfl
            have hfs99 := blk_frozen BK435.out 0
            have hns99_0 := NB420_435.out
            have hns99_1 := NB421_435.out
            have hns99_2 := NB422_435.out
            have hns99_3 := NB423_435.out
            have hns99_4 := NB434_435.out
            have hns99_6 := NB436_435.out
            have hms99_0 := NB435_420.out
            have hms99_1 := NB435_421.out
            have hms99_2 := NB435_422.out
            have hms99_3 := NB435_423.out
            have hms99_4 := NB435_434.out
            have hms99_6 := NB435_436.out
            have hs100 : w'.cell? ⟨gb435, 1, none⟩ = some (.int .i64 0) := (blk_cell BK435.out 1).trans rfl
            have hfs100 := blk_frozen BK435.out 1
            have hns100_0 := NB420_435.out
            have hns100_1 := NB421_435.out
            have hns100_2 := NB422_435.out
            have hns100_3 := NB423_435.out
            have hns100_4 := NB434_435.out
            have hns100_6 := NB436_435.out
            have hms100_0 := NB435_420.out
            have hms100_1 := NB435_421.out
            have hms100_2 := NB435_422.out
            have hms100_3 := NB435_423.out
            have hms100_4 := NB435_434.out
            have hms100_6 := NB435_436.out
            refine skip_ (w1 := ?_) (by rfl) rfl ?_ ?_
            rotate_left
            · go_simp
              rfl
            refine hK.out _ _ ⟨gb434, gb435, gb436, m9_, m10_, m11_, (by rw [ha.out]; exact putSel_none (v := undef) rfl), (by (with_reducible repeat (first | refine blk_drewN ?_ _ | refine blk_drew ?_ | refine blk_alloc ?_ _)); refine blk_far ?_ NB420_435.out _; (with_reducible repeat (first | refine blk_drewN ?_ _ | refine blk_drew ?_ | refine blk_alloc ?_ _)); refine blk_far ?_ NB420_435.out _; (with_reducible repeat (first | refine blk_drewN ?_ _ | refine blk_drew ?_ | refine blk_alloc ?_ _)); exact BK420.out), (by (with_reducible repeat (first | refine blk_drewN ?_ _ | refine blk_drew ?_ | refine blk_alloc ?_ _)); refine blk_far ?_ NB421_435.out _; (with_reducible repeat (first | refine blk_drewN ?_ _ | refine blk_drew ?_ | refine blk_alloc ?_ _)); refine blk_far ?_ NB421_435.out _; (with_reducible repeat (first | refine blk_drewN ?_ _ | refine blk_drew ?_ | refine blk_alloc ?_ _)); exact BK421.out), (by (with_reducible repeat (first | refine blk_drewN ?_ _ | refine blk_drew ?_ | refine blk_alloc ?_ _)); refine blk_far ?_ NB422_435.out _; (with_reducible repeat (first | refine blk_drewN ?_ _ | refine blk_drew ?_ | refine blk_alloc ?_ _)); refine blk_far ?_ NB422_435.out _; (with_reducible repeat (first | refine blk_drewN ?_ _ | refine blk_drew ?_ | refine blk_alloc ?_ _)); exact BK422.out), (by (with_reducible repeat (first | refine blk_drewN ?_ _ | refine blk_drew ?_ | refine blk_alloc ?_ _)); refine blk_far ?_ NB423_435.out _; (with_reducible repeat (first | refine blk_drewN ?_ _ | refine blk_drew ?_ | refine blk_alloc ?_ _)); refine blk_far ?_ NB423_435.out _; (with_reducible repeat (first | refine blk_drewN ?_ _ | refine blk_drew ?_ | refine blk_alloc ?_ _)); exact BK423.out), (bnow HB), fun _ _ => NB435_434.out, fun _ _ => NB434_435.out, fun _ _ => NB436_434.out, fun _ _ => NB434_436.out, fun _ _ => NB436_435.out, fun _ _ => NB435_436.out, fun _ h1_ => absurd ((hon 12 (by kernel_rfl)).symm.trans h1_) (by decide), fun _ => GW434.out, fun _ => GE434.out, fun _ => NB420_434.out, fun _ => NB434_420.out, fun _ => NB421_434.out, fun _ => NB434_421.out, fun _ => NB422_434.out, fun _ => NB434_422.out, fun _ => NB423_434.out, fun _ => NB434_423.out, fun _ h1_ => absurd ((up_self b 13).symm.trans h1_) (by decide), fun _ => GW435.out, fun _ => GE435.out, fun _ => NB420_435.out, fun _ => NB435_420.out, fun _ => NB421_435.out, fun _ => NB435_421.out, fun _ => NB422_435.out, fun _ => NB435_422.out, fun _ => NB423_435.out, fun _ => NB435_423.out, fun _ _ => (by (with_reducible repeat (first | refine blk_drewN ?_ _ | refine blk_drew ?_ | refine blk_alloc ?_ _)); refine blk_far ?_ NB436_435.out _; (with_reducible repeat (first | refine blk_drewN ?_ _ | refine blk_drew ?_ | refine blk_alloc ?_ _)); refine blk_far ?_ NB436_435.out _; (with_reducible repeat (first | refine blk_drewN ?_ _ | refine blk_drew ?_ | refine blk_alloc ?_ _)); exact BK436.out), fun _ => GW436.out, fun _ => GE436.out, fun _ => NB420_436.out, fun _ => NB436_420.out, fun _ => NB421_436.out, fun _ => NB436_421.out, fun _ => NB422_436.out, fun _ => NB436_422.out, fun _ => NB423_436.out, fun _ => NB436_423.out, fun _ => (by (with_reducible repeat (first | refine blk_drewN ?_ _ | refine blk_drew ?_ | refine blk_alloc ?_ _)); refine blk_far ?_ NB434_435.out _; (with_reducible repeat (first | refine blk_drewN ?_ _ | refine blk_drew ?_ | refine blk_alloc ?_ _)); refine blk_far ?_ NB434_435.out _; (with_reducible repeat (first | refine blk_drewN ?_ _ | refine blk_drew ?_ | refine blk_alloc ?_ _)); exact BK434.out), fun _ => (by (with_reducible repeat (first | refine blk_drewN ?_ _ | refine blk_drew ?_ | refine blk_alloc ?_ _)); refine blk_put (cs := #[.int .i64 t430, .int .i64 0]) ?_ 1 _ rfl; (with_reducible repeat (first | refine blk_drewN ?_ _ | refine blk_drew ?_ | refine blk_alloc ?_ _)); refine blk_put (cs := #[.int .i64 0, .int .i64 0]) ?_ 0 _ rfl; (with_reducible repeat (first | refine blk_drewN ?_ _ | refine blk_drew ?_ | refine blk_alloc ?_ _)); exact BK435.out), fun h0_ => absurd ((hoff 14 (by kernel_rfl)).symm.trans h0_) (by decide), Q_X9_, Q_X10_, Q_X11_⟩
          refine steps_cons ?_ ?_
          · rintro b a w' ⟨gb434, gb435, gb436, m9_, m10_, m11_, ha, Q_BK420, Q_BK421, Q_BK422, Q_BK423, Q_HB, Q_NB435_434, Q_NB434_435, Q_NB436_434, Q_NB434_436, Q_NB436_435, Q_NB435_436, Q_BK434, Q_GW434, Q_GE434, Q_NB420_434, Q_NB434_420, Q_NB421_434, Q_NB434_421, Q_NB422_434, Q_NB434_422, Q_NB423_434, Q_NB434_423, Q_BK435, Q_GW435, Q_GE435, Q_NB420_435, Q_NB435_420, Q_NB421_435, Q_NB435_421, Q_NB422_435, Q_NB435_422, Q_NB423_435, Q_NB435_423, Q_BK436, Q_GW436, Q_GE436, Q_NB420_436, Q_NB436_420, Q_NB421_436, Q_NB436_421, Q_NB422_436, Q_NB436_422, Q_NB423_436, Q_NB436_423, Q_BK434_e12, Q_BK435_e13, Q_BK436_e14, Q_X9_, Q_X10_, Q_X11_⟩ hb_ hon hoff
            refine ⟨_, rfl, fun K hK => ?_⟩
            have e12 : a.tmps[12]? = some (m11_) := by rw [ha]; exact putSel_on (e := (11, 12, m11_)) 11 rfl rfl (hon 11 (by kernel_rfl)) rfl
            rw [Q_X11_ (hon 11 (by kernel_rfl))] at e12
            have e43 : a.tmps[43]? = some (.agg #[.int .i64 t432, .int .i64 t433]) := by rw [ha]; exact putSel_on (e := (8, 43, .agg #[.int .i64 t432, .int .i64 t433])) 8 rfl rfl (hon 8 (by kernel_rfl)) rfl
            replace ha := Aside0.mk ha
            have BK420 := Aside0.mk Q_BK420
            have BK421 := Aside0.mk Q_BK421
            have BK422 := Aside0.mk Q_BK422
            have BK423 := Aside0.mk Q_BK423
            have HB := Aside0.mk Q_HB
            have NB435_434 := Aside0.mk (Q_NB435_434 (hon 9 (by kernel_rfl)) (hon 10 (by kernel_rfl)))
            have NB434_435 := Aside0.mk (Q_NB434_435 (hon 9 (by kernel_rfl)) (hon 10 (by kernel_rfl)))
            have NB436_434 := Aside0.mk (Q_NB436_434 (hon 9 (by kernel_rfl)) (hon 11 (by kernel_rfl)))
            have NB434_436 := Aside0.mk (Q_NB434_436 (hon 9 (by kernel_rfl)) (hon 11 (by kernel_rfl)))
            have NB436_435 := Aside0.mk (Q_NB436_435 (hon 10 (by kernel_rfl)) (hon 11 (by kernel_rfl)))
            have NB435_436 := Aside0.mk (Q_NB435_436 (hon 10 (by kernel_rfl)) (hon 11 (by kernel_rfl)))
            have GW434 := Aside0.mk (Q_GW434 (hon 9 (by kernel_rfl)))
            have GE434 := Aside0.mk (Q_GE434 (hon 9 (by kernel_rfl)))
            have NB420_434 := Aside0.mk (Q_NB420_434 (hon 9 (by kernel_rfl)))
            have NB434_420 := Aside0.mk (Q_NB434_420 (hon 9 (by kernel_rfl)))
            have NB421_434 := Aside0.mk (Q_NB421_434 (hon 9 (by kernel_rfl)))
            have NB434_421 := Aside0.mk (Q_NB434_421 (hon 9 (by kernel_rfl)))
            have NB422_434 := Aside0.mk (Q_NB422_434 (hon 9 (by kernel_rfl)))
            have NB434_422 := Aside0.mk (Q_NB434_422 (hon 9 (by kernel_rfl)))
            have NB423_434 := Aside0.mk (Q_NB423_434 (hon 9 (by kernel_rfl)))
            have NB434_423 := Aside0.mk (Q_NB434_423 (hon 9 (by kernel_rfl)))
            have GW435 := Aside0.mk (Q_GW435 (hon 10 (by kernel_rfl)))
            have GE435 := Aside0.mk (Q_GE435 (hon 10 (by kernel_rfl)))
            have NB420_435 := Aside0.mk (Q_NB420_435 (hon 10 (by kernel_rfl)))
            have NB435_420 := Aside0.mk (Q_NB435_420 (hon 10 (by kernel_rfl)))
            have NB421_435 := Aside0.mk (Q_NB421_435 (hon 10 (by kernel_rfl)))
            have NB435_421 := Aside0.mk (Q_NB435_421 (hon 10 (by kernel_rfl)))
            have NB422_435 := Aside0.mk (Q_NB422_435 (hon 10 (by kernel_rfl)))
            have NB435_422 := Aside0.mk (Q_NB435_422 (hon 10 (by kernel_rfl)))
            have NB423_435 := Aside0.mk (Q_NB423_435 (hon 10 (by kernel_rfl)))
            have NB435_423 := Aside0.mk (Q_NB435_423 (hon 10 (by kernel_rfl)))
            have BK436 := Aside0.mk (Q_BK436 (hon 11 (by kernel_rfl)) hb_)
            have GW436 := Aside0.mk (Q_GW436 (hon 11 (by kernel_rfl)))
            have GE436 := Aside0.mk (Q_GE436 (hon 11 (by kernel_rfl)))
            have NB420_436 := Aside0.mk (Q_NB420_436 (hon 11 (by kernel_rfl)))
            have NB436_420 := Aside0.mk (Q_NB436_420 (hon 11 (by kernel_rfl)))
            have NB421_436 := Aside0.mk (Q_NB421_436 (hon 11 (by kernel_rfl)))
            have NB436_421 := Aside0.mk (Q_NB436_421 (hon 11 (by kernel_rfl)))
            have NB422_436 := Aside0.mk (Q_NB422_436 (hon 11 (by kernel_rfl)))
            have NB436_422 := Aside0.mk (Q_NB436_422 (hon 11 (by kernel_rfl)))
            have NB423_436 := Aside0.mk (Q_NB423_436 (hon 11 (by kernel_rfl)))
            have NB436_423 := Aside0.mk (Q_NB436_423 (hon 11 (by kernel_rfl)))
            have BK434 := Aside0.mk (Q_BK434_e12 (hon 12 (by kernel_rfl)))
            have BK435 := Aside0.mk (Q_BK435_e13 (hon 13 (by kernel_rfl)))
            have hs101 : w'.cell? ⟨gb436, 0, none⟩ = some (.int .i64 0) := (blk_cell BK436.out 0).trans rfl
            have hfs101 := blk_frozen BK436.out 0
            have hns101_0 := NB420_436.out
            have hns101_1 := NB421_436.out
            have hns101_2 := NB422_436.out
            have hns101_3 := NB423_436.out
            have hns101_4 := NB434_436.out
            have hns101_5 := NB435_436.out
            have hms101_0 := NB436_420.out
            have hms101_1 := NB436_421.out
            have hms101_2 := NB436_422.out
            have hms101_3 := NB436_423.out
            have hms101_4 := NB436_434.out
            have hms101_5 := NB436_435.out
            have hs102 : w'.cell? ⟨gb436, 1, none⟩ = some (.int .i64 0) := (blk_cell BK436.out 1).trans rfl
            have hfs102 := blk_frozen BK436.out 1
            have hns102_0 := NB420_436.out
            have hns102_1 := NB421_436.out
            have hns102_2 := NB422_436.out
            have hns102_3 := NB423_436.out
            have hns102_4 := NB434_436.out
            have hns102_5 := NB435_436.out
            have hms102_0 := NB436_420.out
            have hms102_1 := NB436_421.out
            have hms102_2 := NB436_422.out
            have hms102_3 := NB436_423.out
            have hms102_4 := NB436_434.out
            have hms102_5 := NB436_435.out
            refine skip_ (w1 := ?_) (by rfl) rfl ?_ ?_
            rotate_left
            · go_simp
              rfl
            refine hK.out _ _ ⟨gb434, gb435, gb436, m9_, m10_, m11_, (by rw [ha.out]; exact putSel_none (v := undef) rfl), (by (with_reducible repeat (first | refine blk_drewN ?_ _ | refine blk_drew ?_ | refine blk_alloc ?_ _)); refine blk_far ?_ NB420_436.out _; (with_reducible repeat (first | refine blk_drewN ?_ _ | refine blk_drew ?_ | refine blk_alloc ?_ _)); refine blk_far ?_ NB420_436.out _; (with_reducible repeat (first | refine blk_drewN ?_ _ | refine blk_drew ?_ | refine blk_alloc ?_ _)); exact BK420.out), (by (with_reducible repeat (first | refine blk_drewN ?_ _ | refine blk_drew ?_ | refine blk_alloc ?_ _)); refine blk_far ?_ NB421_436.out _; (with_reducible repeat (first | refine blk_drewN ?_ _ | refine blk_drew ?_ | refine blk_alloc ?_ _)); refine blk_far ?_ NB421_436.out _; (with_reducible repeat (first | refine blk_drewN ?_ _ | refine blk_drew ?_ | refine blk_alloc ?_ _)); exact BK421.out), (by (with_reducible repeat (first | refine blk_drewN ?_ _ | refine blk_drew ?_ | refine blk_alloc ?_ _)); refine blk_far ?_ NB422_436.out _; (with_reducible repeat (first | refine blk_drewN ?_ _ | refine blk_drew ?_ | refine blk_alloc ?_ _)); refine blk_far ?_ NB422_436.out _; (with_reducible repeat (first | refine blk_drewN ?_ _ | refine blk_drew ?_ | refine blk_alloc ?_ _)); exact BK422.out), (by (with_reducible repeat (first | refine blk_drewN ?_ _ | refine blk_drew ?_ | refine blk_alloc ?_ _)); refine blk_far ?_ NB423_436.out _; (with_reducible repeat (first | refine blk_drewN ?_ _ | refine blk_drew ?_ | refine blk_alloc ?_ _)); refine blk_far ?_ NB423_436.out _; (with_reducible repeat (first | refine blk_drewN ?_ _ | refine blk_drew ?_ | refine blk_alloc ?_ _)); exact BK423.out), (bnow HB), fun _ _ => NB435_434.out, fun _ _ => NB434_435.out, fun _ _ => NB436_434.out, fun _ _ => NB434_436.out, fun _ _ => NB436_435.out, fun _ _ => NB435_436.out, fun _ h1_ => absurd ((hon 12 (by kernel_rfl)).symm.trans h1_) (by decide), fun _ => GW434.out, fun _ => GE434.out, fun _ => NB420_434.out, fun _ => NB434_420.out, fun _ => NB421_434.out, fun _ => NB434_421.out, fun _ => NB422_434.out, fun _ => NB434_422.out, fun _ => NB423_434.out, fun _ => NB434_423.out, fun _ h1_ => absurd ((hon 13 (by kernel_rfl)).symm.trans h1_) (by decide), fun _ => GW435.out, fun _ => GE435.out, fun _ => NB420_435.out, fun _ => NB435_420.out, fun _ => NB421_435.out, fun _ => NB435_421.out, fun _ => NB422_435.out, fun _ => NB435_422.out, fun _ => NB423_435.out, fun _ => NB435_423.out, fun _ h1_ => absurd ((up_self b 14).symm.trans h1_) (by decide), fun _ => GW436.out, fun _ => GE436.out, fun _ => NB420_436.out, fun _ => NB436_420.out, fun _ => NB421_436.out, fun _ => NB436_421.out, fun _ => NB422_436.out, fun _ => NB436_422.out, fun _ => NB423_436.out, fun _ => NB436_423.out, fun _ => (by (with_reducible repeat (first | refine blk_drewN ?_ _ | refine blk_drew ?_ | refine blk_alloc ?_ _)); refine blk_far ?_ NB434_436.out _; (with_reducible repeat (first | refine blk_drewN ?_ _ | refine blk_drew ?_ | refine blk_alloc ?_ _)); refine blk_far ?_ NB434_436.out _; (with_reducible repeat (first | refine blk_drewN ?_ _ | refine blk_drew ?_ | refine blk_alloc ?_ _)); exact BK434.out), fun _ => (by (with_reducible repeat (first | refine blk_drewN ?_ _ | refine blk_drew ?_ | refine blk_alloc ?_ _)); refine blk_far ?_ NB435_436.out _; (with_reducible repeat (first | refine blk_drewN ?_ _ | refine blk_drew ?_ | refine blk_alloc ?_ _)); refine blk_far ?_ NB435_436.out _; (with_reducible repeat (first | refine blk_drewN ?_ _ | refine blk_drew ?_ | refine blk_alloc ?_ _)); exact BK435.out), fun _ => (by (with_reducible repeat (first | refine blk_drewN ?_ _ | refine blk_drew ?_ | refine blk_alloc ?_ _)); refine blk_put (cs := #[.int .i64 t432, .int .i64 0]) ?_ 1 _ rfl; (with_reducible repeat (first | refine blk_drewN ?_ _ | refine blk_drew ?_ | refine blk_alloc ?_ _)); refine blk_put (cs := #[.int .i64 0, .int .i64 0]) ?_ 0 _ rfl; (with_reducible repeat (first | refine blk_drewN ?_ _ | refine blk_drew ?_ | refine blk_alloc ?_ _)); exact BK436.out), Q_X9_, Q_X10_, Q_X11_⟩
          exact steps_nil
        rintro b a w102 hall ⟨gb434, gb435, gb436, m9_, m10_, m11_, ha, Q_BK420, Q_BK421, Q_BK422, Q_BK423, Q_HB, Q_NB435_434, Q_NB434_435, Q_NB436_434, Q_NB434_436, Q_NB436_435, Q_NB435_436, Q_BK434, Q_GW434, Q_GE434, Q_NB420_434, Q_NB434_420, Q_NB421_434, Q_NB434_421, Q_NB422_434, Q_NB434_422, Q_NB423_434, Q_NB434_423, Q_BK435, Q_GW435, Q_GE435, Q_NB420_435, Q_NB435_420, Q_NB421_435, Q_NB435_421, Q_NB422_435, Q_NB435_422, Q_NB423_435, Q_NB435_423, Q_BK436, Q_GW436, Q_GE436, Q_NB420_436, Q_NB436_420, Q_NB421_436, Q_NB436_421, Q_NB422_436, Q_NB436_422, Q_NB423_436, Q_NB436_423, Q_BK434_e12, Q_BK435_e13, Q_BK436_e14, Q_X9_, Q_X10_, Q_X11_⟩
        clear BK420 BK421 BK422 BK423 HB
        have hb0_ := hall 0 (by kernel_rfl)
        have hb1_ := hall 1 (by kernel_rfl)
        have hb2_ := hall 2 (by kernel_rfl)
        have hb3_ := hall 3 (by kernel_rfl)
        have hb4_ := hall 4 (by kernel_rfl)
        have hb5_ := hall 5 (by kernel_rfl)
        have hb6_ := hall 6 (by kernel_rfl)
        have hb7_ := hall 7 (by kernel_rfl)
        have hb8_ := hall 8 (by kernel_rfl)
        have hb9_ := hall 9 (by kernel_rfl)
        have hb10_ := hall 10 (by kernel_rfl)
        have hb11_ := hall 11 (by kernel_rfl)
        have hb12_ := hall 12 (by kernel_rfl)
        have hb13_ := hall 13 (by kernel_rfl)
        have hb14_ := hall 14 (by kernel_rfl)
        subst ha
        obtain rfl := Q_X9_ hb9_
        obtain rfl := Q_X10_ hb10_
        obtain rfl := Q_X11_ hb11_
        simp only [putSel, hb0_, hb1_, hb2_, hb3_, hb4_, hb5_, hb6_, hb7_, hb8_, hb9_, hb10_, hb11_, hb12_, hb13_, hb14_, if_true, Act.put, List.setIfInBounds_toArray, List.set_cons_zero, List.set_cons_succ]
        have BK420 := Aside0.mk Q_BK420
        clear Q_BK420
        have BK421 := Aside0.mk Q_BK421
        clear Q_BK421
        have BK422 := Aside0.mk Q_BK422
        clear Q_BK422
        have BK423 := Aside0.mk Q_BK423
        clear Q_BK423
        have HB := Aside0.mk Q_HB
        clear Q_HB
        have NB435_434 := Aside0.mk (Q_NB435_434 hb9_ hb10_)
        clear Q_NB435_434
        have NB434_435 := Aside0.mk (Q_NB434_435 hb9_ hb10_)
        clear Q_NB434_435
        have NB436_434 := Aside0.mk (Q_NB436_434 hb9_ hb11_)
        clear Q_NB436_434
        have NB434_436 := Aside0.mk (Q_NB434_436 hb9_ hb11_)
        clear Q_NB434_436
        have NB436_435 := Aside0.mk (Q_NB436_435 hb10_ hb11_)
        clear Q_NB436_435
        have NB435_436 := Aside0.mk (Q_NB435_436 hb10_ hb11_)
        clear Q_NB435_436
        clear Q_BK434
        have GW434 := Aside0.mk (Q_GW434 hb9_)
        clear Q_GW434
        have GE434 := Aside0.mk (Q_GE434 hb9_)
        clear Q_GE434
        have NB420_434 := Aside0.mk (Q_NB420_434 hb9_)
        clear Q_NB420_434
        have NB434_420 := Aside0.mk (Q_NB434_420 hb9_)
        clear Q_NB434_420
        have NB421_434 := Aside0.mk (Q_NB421_434 hb9_)
        clear Q_NB421_434
        have NB434_421 := Aside0.mk (Q_NB434_421 hb9_)
        clear Q_NB434_421
        have NB422_434 := Aside0.mk (Q_NB422_434 hb9_)
        clear Q_NB422_434
        have NB434_422 := Aside0.mk (Q_NB434_422 hb9_)
        clear Q_NB434_422
        have NB423_434 := Aside0.mk (Q_NB423_434 hb9_)
        clear Q_NB423_434
        have NB434_423 := Aside0.mk (Q_NB434_423 hb9_)
        clear Q_NB434_423
        clear Q_BK435
        have GW435 := Aside0.mk (Q_GW435 hb10_)
        clear Q_GW435
        have GE435 := Aside0.mk (Q_GE435 hb10_)
        clear Q_GE435
        have NB420_435 := Aside0.mk (Q_NB420_435 hb10_)
        clear Q_NB420_435
        have NB435_420 := Aside0.mk (Q_NB435_420 hb10_)
        clear Q_NB435_420
        have NB421_435 := Aside0.mk (Q_NB421_435 hb10_)
        clear Q_NB421_435
        have NB435_421 := Aside0.mk (Q_NB435_421 hb10_)
        clear Q_NB435_421
        have NB422_435 := Aside0.mk (Q_NB422_435 hb10_)
        clear Q_NB422_435
        have NB435_422 := Aside0.mk (Q_NB435_422 hb10_)
        clear Q_NB435_422
        have NB423_435 := Aside0.mk (Q_NB423_435 hb10_)
        clear Q_NB423_435
        have NB435_423 := Aside0.mk (Q_NB435_423 hb10_)
        clear Q_NB435_423
        clear Q_BK436
        have GW436 := Aside0.mk (Q_GW436 hb11_)
        clear Q_GW436
        have GE436 := Aside0.mk (Q_GE436 hb11_)
        clear Q_GE436
        have NB420_436 := Aside0.mk (Q_NB420_436 hb11_)
        clear Q_NB420_436
        have NB436_420 := Aside0.mk (Q_NB436_420 hb11_)
        clear Q_NB436_420
        have NB421_436 := Aside0.mk (Q_NB421_436 hb11_)
        clear Q_NB421_436
        have NB436_421 := Aside0.mk (Q_NB436_421 hb11_)
        clear Q_NB436_421
        have NB422_436 := Aside0.mk (Q_NB422_436 hb11_)
        clear Q_NB422_436
        have NB436_422 := Aside0.mk (Q_NB436_422 hb11_)
        clear Q_NB436_422
        have NB423_436 := Aside0.mk (Q_NB423_436 hb11_)
        clear Q_NB423_436
        have NB436_423 := Aside0.mk (Q_NB436_423 hb11_)
        clear Q_NB436_423
        have BK434 := Aside0.mk (Q_BK434_e12 hb12_)
        clear Q_BK434_e12
        have BK435 := Aside0.mk (Q_BK435_e13 hb13_)
        clear Q_BK435_e13
        have BK436 := Aside0.mk (Q_BK436_e14 hb14_)
        clear Q_BK436_e14
        clear hall hb0_ hb1_ hb2_ hb3_ hb4_ hb5_ hb6_ hb7_ hb8_ hb9_ hb10_ hb11_ hb12_ hb13_ hb14_
        try go_wp2
        replace BK420 := bd BK420
        replace BK421 := bd BK421
        replace BK422 := bd BK422
        replace BK423 := bd BK423
        replace BK434 := bd BK434
        replace BK435 := bd BK435
        replace BK436 := bd BK436
        replace HB := bdn HB
        refine start_ (n := 15) (S := fun w' => w'.cell? ⟨gb434, 0, none⟩ = some (.int .i64 t428) ∧ w'.cell? ⟨gb434, 1, none⟩ = some (.int .i64 t429) ∧ w'.cell? ⟨gb435, 0, none⟩ = some (.int .i64 t430) ∧ w'.cell? ⟨gb435, 1, none⟩ = some (.int .i64 t431) ∧ w'.cell? ⟨gb436, 0, none⟩ = some (.int .i64 t432) ∧ w'.cell? ⟨gb436, 1, none⟩ = some (.int .i64 t433)) (ds := []) #[false, false, false, false, false, false, false, false, false, false, false, false, false, false, false] (by kernel_rfl) rfl rfl ⟨(blk_cell BK434.out 0).trans rfl, (blk_cell BK434.out 1).trans rfl, (blk_cell BK435.out 0).trans rfl, (blk_cell BK435.out 1).trans rfl, (blk_cell BK436.out 0).trans rfl, (blk_cell BK436.out 1).trans rfl⟩ (fun hHeld => ?_); refine with_tabW grids_Turn.tab4 grids_Turn.bits4 (fun HT_ HW_ => ?_)
        generalize w102.drew = w103 at BK420 BK421 BK422 BK423 BK434 BK435 BK436 HB hHeld ⊢
        refine tz 0 44 HT_ HW_ hHeld ?_
        refine tz 1 45 HT_ HW_ hHeld ?_
        refine tz 3 47 HT_ HW_ hHeld ?_
        refine tz 4 48 HT_ HW_ hHeld ?_
        refine tz 7 51 HT_ HW_ hHeld ?_
        refine tz 8 52 HT_ HW_ hHeld ?_
        refine one_ (i := 2) (N := some 46) #[true, true, true, true, true, false, false, true, true, false, false, false, false, false, false] rfl rfl (one_of HT_.out (by kernel_rfl)) (by decide) (fun K hK => ?_)
        refine gs _ Try.func53 (grids_step_half.calls kj4 t428 t429 t430 t431 t437 _ A83.out) ?_
        rintro e w104 ⟨rfl, hb⟩
        refine ⟨_, rfl, ?_⟩
        replace BK420 := bb BK420 hb
        replace BK421 := bb BK421 hb
        replace BK422 := bb BK422 hb
        replace BK423 := bb BK423 hb
        replace BK434 := bb BK434 hb
        replace BK435 := bb BK435 hb
        replace BK436 := bb BK436 hb
        replace HB := bst HB hb
        (try clear hb)
        (try clear hb2)
        (try clear hk)
        (try clear hi)
        refine hK.out _ _ ⟨(blk_cell BK434.out 0).trans rfl, (blk_cell BK434.out 1).trans rfl, (blk_cell BK435.out 0).trans rfl, (blk_cell BK435.out 1).trans rfl, (blk_cell BK436.out 0).trans rfl, (blk_cell BK436.out 1).trans rfl⟩ (fun hHeld => ?_)
        clear hK K
        refine norm_ (a' := ?_) ?_ ?_
        rotate_left
        · show Act.put _ (some 46) _ = _
          simp only [Act.put, List.setIfInBounds_toArray, List.set_cons_zero, List.set_cons_succ, i64_w, i32_w]
          rfl
        refine one_ (i := 5) (N := some 49) #[true, true, true, true, true, true, false, true, true, false, false, false, false, false, false] rfl rfl (one_of HT_.out (by kernel_rfl)) (by decide) (fun K hK => ?_)
        refine gs _ Try.func53 (grids_step_half.calls kj4 t428 t429 t432 t433 t438 _ A84.out) ?_
        rintro e w105 ⟨rfl, hb⟩
        refine ⟨_, rfl, ?_⟩
        replace BK420 := bb BK420 hb
        replace BK421 := bb BK421 hb
        replace BK422 := bb BK422 hb
        replace BK423 := bb BK423 hb
        replace BK434 := bb BK434 hb
        replace BK435 := bb BK435 hb
        replace BK436 := bb BK436 hb
        replace HB := bst HB hb
        (try clear hb)
        (try clear hb2)
        (try clear hk)
        (try clear hi)
        refine hK.out _ _ ⟨(blk_cell BK434.out 0).trans rfl, (blk_cell BK434.out 1).trans rfl, (blk_cell BK435.out 0).trans rfl, (blk_cell BK435.out 1).trans rfl, (blk_cell BK436.out 0).trans rfl, (blk_cell BK436.out 1).trans rfl⟩ (fun hHeld => ?_)
        clear hK K
        refine norm_ (a' := ?_) ?_ ?_
        rotate_left
        · show Act.put _ (some 49) _ = _
          simp only [Act.put, List.setIfInBounds_toArray, List.set_cons_zero, List.set_cons_succ, i64_w, i32_w]
          rfl
        refine one_ (i := 6) (N := some 50) #[true, true, true, true, true, true, true, true, true, false, false, false, false, false, false] rfl rfl (one_of HT_.out (by kernel_rfl)) (by decide) (fun K hK => ?_)
        refine gs _ Try.func52 (cmp_Compare_int.calls t437 t438 t439 _ A85.out) ?_
        rintro e w' ⟨rfl, ⟨nd, rfl⟩⟩
        refine ⟨_, rfl, ?_⟩
        refine hK.out _ _ ⟨(blk_cell BK434.out 0).trans rfl, (blk_cell BK434.out 1).trans rfl, (blk_cell BK435.out 0).trans rfl, (blk_cell BK435.out 1).trans rfl, (blk_cell BK436.out 0).trans rfl, (blk_cell BK436.out 1).trans rfl⟩ (fun hHeld => ?_)
        clear hK K
        refine norm_ (a' := ?_) ?_ ?_
        rotate_left
        · show Act.put _ (some 50) _ = _
          simp only [Act.put, List.setIfInBounds_toArray, List.set_cons_zero, List.set_cons_succ, i64_w, i32_w]
          rfl
        refine one_ (i := 9) (N := some 53) #[true, true, true, true, true, true, true, true, true, true, false, false, false, false, false] rfl rfl (one_of HT_.out (by kernel_rfl)) (by decide) (fun K hK => ?_)
        refine gs _ Try.func55 (grids_step_cross.calls t430 t431 t432 t433 t440 _ A86.out) ?_
        rintro e w106 ⟨rfl, hb⟩
        refine ⟨_, rfl, ?_⟩
        replace BK420 := bb BK420 hb
        replace BK421 := bb BK421 hb
        replace BK422 := bb BK422 hb
        replace BK423 := bb BK423 hb
        replace BK434 := bb BK434 hb
        replace BK435 := bb BK435 hb
        replace BK436 := bb BK436 hb
        replace HB := bst HB hb
        (try clear hb)
        (try clear hb2)
        (try clear hk)
        (try clear hi)
        refine hK.out _ _ ⟨(blk_cell BK434.out 0).trans rfl, (blk_cell BK434.out 1).trans rfl, (blk_cell BK435.out 0).trans rfl, (blk_cell BK435.out 1).trans rfl, (blk_cell BK436.out 0).trans rfl, (blk_cell BK436.out 1).trans rfl⟩ (fun hHeld => ?_)
        clear hK K
        refine norm_ (a' := ?_) ?_ ?_
        rotate_left
        · show Act.put _ (some 53) _ = _
          simp only [Act.put, List.setIfInBounds_toArray, List.set_cons_zero, List.set_cons_succ, i64_w, i32_w]
          rfl
        refine one_ (i := 10) (N := some 54) #[true, true, true, true, true, true, true, true, true, true, true, false, false, false, false] rfl rfl (one_of HT_.out (by kernel_rfl)) (by decide) (fun K hK => ?_)
        refine gs _ Try.func54 (cmp_Compare_int64.calls 0 t440 t441 _ A87.out) ?_
        rintro e w' ⟨rfl, ⟨nd, rfl⟩⟩
        refine ⟨_, rfl, ?_⟩
        refine hK.out _ _ ⟨(blk_cell BK434.out 0).trans rfl, (blk_cell BK434.out 1).trans rfl, (blk_cell BK435.out 0).trans rfl, (blk_cell BK435.out 1).trans rfl, (blk_cell BK436.out 0).trans rfl, (blk_cell BK436.out 1).trans rfl⟩ (fun hHeld => ?_)
        clear hK K
        refine norm_ (a' := ?_) ?_ ?_
        rotate_left
        · show Act.put _ (some 54) _ = _
          simp only [Act.put, List.setIfInBounds_toArray, List.set_cons_zero, List.set_cons_succ, i64_w, i32_w]
          rfl
        refine one_ (i := 11) (N := some 55) #[true, true, true, true, true, true, true, true, true, true, true, true, false, false, false] rfl rfl (one_of HT_.out (by kernel_rfl)) (by decide) (fun K hK => ?_)
        refine Kd.R_lit_step (Kd.int .i64) _ 3 ?hg (N := 55) ?hd (xs := ([t439, t441] : List Int)) (inner := [.int .i64 t439, .int .i64 t441]) (ok := fun _ => True) (okp := fun _ => True) ?hr ?hp (fun _ hk => hk) trivial (Below.refl _ _) (Nat.le_refl _) (by simp) ?_; (case hd => rfl); (case hg => rfl); (case hr => first | (go_simp; done) | (go_simp; rfl)); (case hp => exact (Reps.one (show Kd.M (Kd.int .i64) _ _ _ t439 [.int .i64 t439] from rfl) (Reps.one (show Kd.M (Kd.int .i64) _ _ _ t441 [.int .i64 t441] from rfl) (Reps.none _ _))))
        intro v443 w107 ho108 hb hg_ hnew_
        clear hg_ hnew_
        (first | rw [← Ny442.out] at ho108 | (simp only [Int.reduceToNat] at ho108; rw [← Ny442.out] at ho108))
        have HO444 := Aside0.mk (Kd.R_lower ho108 (below_size (bnow HB)))
        replace BK420 := bb BK420 hb
        replace BK421 := bb BK421 hb
        replace BK422 := bb BK422 hb
        replace BK423 := bb BK423 hb
        replace BK434 := bb BK434 hb
        replace BK435 := bb BK435 hb
        replace BK436 := bb BK436 hb
        replace HB := bst HB hb
        clear hb ho108
        obtain ⟨Ao109, co109, eo109⟩ := Kd.R_slice HO444.out
        (first | subst eo109 | (injection eo109 with f1_ f2_ f3_; have f4_ := f1_.symm; have f5_ := f3_.symm; clear f1_ f2_ f3_; subst f4_; subst f5_))
        refine hK.out _ _ ⟨(blk_cell BK434.out 0).trans rfl, (blk_cell BK434.out 1).trans rfl, (blk_cell BK435.out 0).trans rfl, (blk_cell BK435.out 1).trans rfl, (blk_cell BK436.out 0).trans rfl, (blk_cell BK436.out 1).trans rfl⟩ (fun hHeld => ?_)
        clear hK K
        refine norm_ (a' := ?_) ?_ ?_
        rotate_left
        · show Act.put _ (some 55) _ = _
          simp only [Act.put, List.setIfInBounds_toArray, List.set_cons_zero, List.set_cons_succ, i64_w, i32_w]
          rfl
        refine one_ (i := 12) (N := some 56) #[true, true, true, true, true, true, true, true, true, true, true, true, true, false, false] rfl rfl (one_of HT_.out (by kernel_rfl)) (by decide) (fun K hK => ?_)
        refine gs _ Try.func51 (cmp_Or_int.calls kj4 _ _ y442 t445 _ ?side1 ?side2 A88.out) ?_
        (case side1 => repeat (first | exact (Kd.R_reads' HO444.out).2.2 | (with_reducible refine Kd.C_alloc ?_ _) | (with_reducible refine Kd.C_drewN ?_ _) | (with_reducible refine Kd.C_drew ?_)))
        (case side2 => exact (Kd.R_reads' HO444.out).2.1)
        rintro e w' ⟨rfl, ⟨nd, rfl⟩⟩
        refine ⟨_, rfl, ?_⟩
        refine hK.out _ _ ⟨(blk_cell BK434.out 0).trans rfl, (blk_cell BK434.out 1).trans rfl, (blk_cell BK435.out 0).trans rfl, (blk_cell BK435.out 1).trans rfl, (blk_cell BK436.out 0).trans rfl, (blk_cell BK436.out 1).trans rfl⟩ (fun hHeld => ?_)
        clear hK K
        refine norm_ (a' := ?_) ?_ ?_
        rotate_left
        · show Act.put _ (some 56) _ = _
          simp only [Act.put, List.setIfInBounds_toArray, List.set_cons_zero, List.set_cons_succ, i64_w, i32_w]
          rfl
        refine pz 13 8 HT_ ?_
        refine pz 14 9 HT_ ?_
        refine done_ (done_of HT_.out (by kernel_rfl)) ?_
        try go_wp2
        go_ret2
        exact rt HB
end
section
/-! ### torchonlaw06_pt: function 19 -/
def torchonlaw06_pt.f (a0 : Int) (a1 : Int) : Option (Int × Int) := some (a0, a1)
set_option maxHeartbeats 8000000 in
set_option maxRecDepth 100000 in
theorem torchonlaw06_pt.calls (a0 : Int) (a1 : Int) (r1 : Int) (r2 : Int) (w : World) (h : torchonlaw06_pt.f a0 a1 = some (r1, r2)) :
    Calls Try.prog 19 #[.int .i64 a0, .int .i64 a1] w fun e w' => e = .returned (.agg #[.int .i64 r1, .int .i64 r2]) ∧ Below w.heap.size w w' := by
  have hu37 := Try.underlying37
  have HB := Aside0.mk (Below.refl w.heap.size w)
  have H : (some (a0, a1)) = some (r1, r2) := h
  clear h
  simp only [Option.some.injEq, Prod.mk.injEq] at H
  obtain ⟨rfl, rfl⟩ := H
  go_enter Try.func19, Try.ntmps19
  go_wp2_with (first | ((with_reducible refine gate_dst (N := 4) rfl ?_); refine bx 4 #[.int .i64 0, .int .i64 0] 37 fun gb446 hg w3 BK446 hb => ?_; have GW446 := gw hg HB; have GE446 := gw hg HB; replace HB := bst HB hb; clear hb hg; have ⟨hcz4_0, hcz4_1, hfz4_0, hfz4_1⟩ := cf2 BK446))
  refine bodyPost_ret (results_cell_row rfl _ _ gb446 37 #[.int .i64 a0, .int .i64 a1] (0, 0) _ rfl (by (with_reducible repeat (first | refine blk_drewN ?_ _ | refine blk_drew ?_ | refine blk_alloc ?_ _)); refine blk_put (cs := #[.int .i64 a0, .int .i64 0]) ?_ 1 _ rfl; (with_reducible repeat (first | refine blk_drewN ?_ _ | refine blk_drew ?_ | refine blk_alloc ?_ _)); refine blk_put (cs := #[.int .i64 0, .int .i64 0]) ?_ 0 _ rfl; (with_reducible repeat (first | refine blk_drewN ?_ _ | refine blk_drew ?_ | refine blk_alloc ?_ _)); exact BK446.out) Try.underlying37 rfl (by kernel_rfl)) rfl ?_
  exact rt HB
end
section
/-! ### grids_Dot: function 56 -/
def grids_Dot.j0 : Nat → Bool → Int → Int → Int → Int → Int → Int → Int → Int → Int → Option (Int × Int)
  | 0, _, _, _, _, _, _, _, _, _, _ => none
  | k + 1, x20, x448000, x448001, x448002, x449000, x449001, x450000, x450001, x451000, x451001 => if x20 = true then (some (0, 2)) else ((grids_to.f x449000 x449001 x450000 x450001).bind fun bt456 => ((grids_to.f x449000 x449001 x451000 x451001).bind fun bt458 => ((grids_step_product.f bt456.1 bt456.2 x448000 x448001 x448002 bt458.1 bt458.2).bind fun t460 => (some (t460, 0)))))
def grids_Dot.f (k : Nat) (a0_0 : Int) (a0_1 : Int) (a0_2 : Int) (a1_0 : Int) (a1_1 : Int) (a2_0 : Int) (a2_1 : Int) (a3_0 : Int) (a3_1 : Int) : Option (Int × Int) := (grids_Check.f k a0_0 a0_1 a0_2).bind fun t451 => (if t451 = 0 then ((grids_point.f k (([(⟨a1_0, a1_1⟩ : S37), (⟨a2_0, a2_1⟩ : S37), (⟨a3_0, a3_1⟩ : S37)] : List (S37)))).bind fun t455 => (grids_Dot.j0 k (!t455) a0_0 a0_1 a0_2 a1_0 a1_1 a2_0 a2_1 a3_0 a3_1)) else (grids_Dot.j0 k true a0_0 a0_1 a0_2 a1_0 a1_1 a2_0 a2_1 a3_0 a3_1))
theorem grids_Dot.mono_l : ∀ k, (∀ y0 y1 y2 y3 y4 y5 y6 y7 y8 y9, LeO (grids_Dot.j0 k y0 y1 y2 y3 y4 y5 y6 y7 y8 y9) (grids_Dot.j0 (k + 1) y0 y1 y2 y3 y4 y5 y6 y7 y8 y9))
  | 0 => fun _ _ _ _ _ _ _ _ _ _ r h => by simp [grids_Dot.j0] at h
  | k + 1 => by
    have ih0 := grids_Dot.mono_l k
    · intro y0 y1 y2 y3 y4 y5 y6 y7 y8 y9
      unfold grids_Dot.j0
      repeat' first
      | (with_reducible exact ih0 _ _ _ _ _ _ _ _ _ _)
      | (with_reducible exact grids_Check.mono _ _ _ _)
      | (with_reducible exact grids_point.mono _ _)
      | (with_reducible exact LeO.refl _)
      | (with_reducible exact LeO.none _)
      | (with_reducible refine LeO.ite ?_ ?_)
      | (with_reducible refine LeO.bind ?_ (fun _ => ?_))
      | exact ih0 _ _ _ _ _ _ _ _ _ _
      | exact grids_Check.mono _ _ _ _
      | exact grids_point.mono _ _
      | exact LeO.none _
      | refine LeO.ite ?_ ?_
      | refine LeO.bind ?_ (fun _ => ?_)
theorem grids_Dot.mono : ∀ a0 a1 a2 a3 a4 a5 a6 a7 a8 k, LeO (grids_Dot.f k a0 a1 a2 a3 a4 a5 a6 a7 a8) (grids_Dot.f (k + 1) a0 a1 a2 a3 a4 a5 a6 a7 a8) := by
  intro a0 a1 a2 a3 a4 a5 a6 a7 a8 k
  have ih0 := grids_Dot.mono_l k
  unfold grids_Dot.f
  repeat' first
      | (with_reducible exact ih0 _ _ _ _ _ _ _ _ _ _)
      | (with_reducible exact grids_Check.mono _ _ _ _)
      | (with_reducible exact grids_point.mono _ _)
      | (with_reducible exact LeO.refl _)
      | (with_reducible exact LeO.none _)
      | (with_reducible refine LeO.ite ?_ ?_)
      | (with_reducible refine LeO.bind ?_ (fun _ => ?_))
      | exact ih0 _ _ _ _ _ _ _ _ _ _
      | exact grids_Check.mono _ _ _ _
      | exact grids_point.mono _ _
      | exact LeO.none _
      | refine LeO.ite ?_ ?_
      | refine LeO.bind ?_ (fun _ => ?_)
def grids_Dot.T3 : Bool × List (List Nat × List Nat) := (true, [([], []), ([], []), ([0, 1], [0, 1]), ([], []), ([], []), ([], []), ([4, 5, 2], [4, 5]), ([2, 3, 6, 6], [2, 3, 6]), ([7, 7, 0, 1, 2, 3, 4, 5, 6, 7], [7]), ([8, 0, 1, 2, 3, 4, 5, 6, 7, 8], [])])
def grids_Dot.B3 : List Nat := [0, 0, 3, 0, 0, 0, 55, 127, 255, 511]
theorem grids_Dot.tab3 : rtab .any (opsOf Try.f56 3) = grids_Dot.T3 := by kernel_rfl
theorem grids_Dot.bits3 : waitsOk grids_Dot.T3.2 grids_Dot.B3 = true := by kernel_rfl
set_option maxHeartbeats 8000000 in
set_option maxRecDepth 100000 in
theorem grids_Dot.calls (k : Nat) (a0_0 : Int) (a0_1 : Int) (a0_2 : Int) (a1_0 : Int) (a1_1 : Int) (a2_0 : Int) (a2_1 : Int) (a3_0 : Int) (a3_1 : Int) (r1 : Int) (r2 : Int) (w : World) (h : grids_Dot.f k a0_0 a0_1 a0_2 a1_0 a1_1 a2_0 a2_1 a3_0 a3_1 = some (r1, r2)) :
    Calls Try.prog 56 #[.agg #[.int .i64 a0_0, .int .i64 a0_1, .int .i64 a0_2], .agg #[.int .i64 a1_0, .int .i64 a1_1], .agg #[.int .i64 a2_0, .int .i64 a2_1], .agg #[.int .i64 a3_0, .int .i64 a3_1]] w fun e w' => e = .returned (.tuple #[.int .i64 r1, .int .i64 r2]) ∧ Below w.heap.size w w' := by
  have hu23 := Try.underlying23
  have hu37 := Try.underlying37
  have HB := Aside0.mk (Below.refl w.heap.size w)
  have H : ((grids_Check.f k a0_0 a0_1 a0_2).bind fun t451 => (if t451 = 0 then ((grids_point.f k (([(⟨a1_0, a1_1⟩ : S37), (⟨a2_0, a2_1⟩ : S37), (⟨a3_0, a3_1⟩ : S37)] : List (S37)))).bind fun t455 => (grids_Dot.j0 k (!t455) a0_0 a0_1 a0_2 a1_0 a1_1 a2_0 a2_1 a3_0 a3_1)) else (grids_Dot.j0 k true a0_0 a0_1 a0_2 a1_0 a1_1 a2_0 a2_1 a3_0 a3_1))) = some (r1, r2) := h
  clear h
  have HC5 := Aside0.mk H
  clear H
  go_enter Try.func56, Try.ntmps56
  go_upto_region 1 with (first | ((with_reducible refine gate_dst (N := 4) rfl ?_); (try (refine gate_guard (by rfl) ?_; dsimp only)); refine bx 4 #[.int .i64 a0_0, .int .i64 a0_1, .int .i64 a0_2] 23 fun gb447 hg w6 BK447 hb => ?_; have GW447 := gw hg HB; have GE447 := gw hg HB; replace HB := bst HB hb; clear hb hg) | ((with_reducible refine gate_dst (N := 5) rfl ?_); (try (refine gate_guard (by rfl) ?_; dsimp only)); refine bx 5 #[.int .i64 a1_0, .int .i64 a1_1] 37 fun gb448 hg w7 BK448 hb => ?_; have GW448 := gw hg HB; have GE448 := gw hg HB; have NB447_448 := nlt hg BK447; have NB448_447 := ngt hg BK447; replace BK447 := bb BK447 hb; replace HB := bst HB hb; clear hb hg) | ((with_reducible refine gate_dst (N := 6) rfl ?_); (try (refine gate_guard (by rfl) ?_; dsimp only)); refine bx 6 #[.int .i64 a2_0, .int .i64 a2_1] 37 fun gb449 hg w8 BK449 hb => ?_; have GW449 := gw hg HB; have GE449 := gw hg HB; have NB447_449 := nlt hg BK447; have NB449_447 := ngt hg BK447; have NB448_449 := nlt hg BK448; have NB449_448 := ngt hg BK448; replace BK447 := bb BK447 hb; replace BK448 := bb BK448 hb; replace HB := bst HB hb; clear hb hg) | ((with_reducible refine gate_dst (N := 7) rfl ?_); (try (refine gate_guard (by rfl) ?_; dsimp only)); refine bx 7 #[.int .i64 a3_0, .int .i64 a3_1] 37 fun gb450 hg w9 BK450 hb => ?_; have GW450 := gw hg HB; have GE450 := gw hg HB; have NB447_450 := nlt hg BK447; have NB450_447 := ngt hg BK447; have NB448_450 := nlt hg BK448; have NB450_448 := ngt hg BK448; have NB449_450 := nlt hg BK449; have NB450_449 := ngt hg BK449; replace BK447 := bb BK447 hb; replace BK448 := bb BK448 hb; replace BK449 := bb BK449 hb; replace HB := bst HB hb; clear hb hg))
  (try simp only [Act.put, List.setIfInBounds_toArray, List.set_cons_zero, List.set_cons_succ])
  go_cut [20] (fun v20 wc => ∃ (kq : Nat) (x20_4 : Bool), v20 = .bool x20_4 ∧ Aside0 (grids_Dot.j0 kq x20_4 a0_0 a0_1 a0_2 a1_0 a1_1 a2_0 a2_1 a3_0 a3_1 = some (r1, r2)) ∧ Aside0 (kq ≤ k) ∧ Aside0 (wc.heap[gb447]? = some (.cells #[.int .i64 a0_0, .int .i64 a0_1, .int .i64 a0_2] 23 (0, 0))) ∧ Aside0 (wc.heap[gb448]? = some (.cells #[.int .i64 a1_0, .int .i64 a1_1] 37 (0, 0))) ∧ Aside0 (wc.heap[gb449]? = some (.cells #[.int .i64 a2_0, .int .i64 a2_1] 37 (0, 0))) ∧ Aside0 (wc.heap[gb450]? = some (.cells #[.int .i64 a3_0, .int .i64 a3_1] 37 (0, 0))) ∧ Aside0 (Below w.heap.size w wc))
  case first =>
    have H := HC5.out
    clear HC5
    obtain ⟨t451, A10, H⟩ := ob H
    by_cases c11 : t451 = 0
    · rw [if_pos c11] at H
      have c11b0 : (t451 == 0) = true := beq_iff_eq.mpr c11
      have c11b1 : (t451 != 0) = false := bne_eq_false_iff_eq.mpr c11
      clear c11
      (first | rw [c11b0] | (simp only [i64_w, i32_w]; rw [c11b0]) | skip)
      obtain ⟨y452, hy452⟩ : ∃ y_ : List (S37), y_ = (([(⟨a1_0, a1_1⟩ : S37), (⟨a2_0, a2_1⟩ : S37), (⟨a3_0, a3_1⟩ : S37)] : List (S37))) := ⟨_, rfl⟩
      replace H : ((grids_point.f k y452).bind fun t455 => (grids_Dot.j0 k (!t455) a0_0 a0_1 a0_2 a1_0 a1_1 a2_0 a2_1 a3_0 a3_1)) = some (r1, r2) := by first | (rw [hy452]; with_reducible exact H) | (have H2_ := (Option.bind_some _ _).symm.trans H; rw [hy452]; with_reducible exact H2_) | (have H2_ := (Option.bind_some _ _).symm.trans H; with_reducible exact H2_) | with_reducible exact H | (rw [hy452]; exact H) | exact H
      have Ny452 := Aside0.mk hy452
      clear hy452
      obtain ⟨t455, A12, H⟩ := ob H
      have H' := Aside0.mk H
      clear H
      have hnb13 := NB447_448.out
      have hnc13 := NB448_447.out
      have hnb14 := NB447_449.out
      have hnc14 := NB449_447.out
      have hnb15 := NB447_450.out
      have hnc15 := NB450_447.out
      have ⟨hcz16_0, hcz16_1, hcz16_2, hfz16_0, hfz16_1, hfz16_2⟩ := cf3 BK447
      go_wp2_with (first | ((with_reducible refine gate_callee (f := 14) rfl ?_); refine gl 11 Try.func14 (grids_Check.calls k a0_0 a0_1 a0_2 t451 _ A10.out) ?_; rintro e w17 ⟨rfl, hb⟩; refine ⟨_, rfl, ?_⟩; replace BK447 := bb BK447 hb; replace BK448 := bb BK448 hb; replace BK449 := bb BK449 hb; replace BK450 := bb BK450 hb; replace HB := bst HB hb; clear hb; have hnb18 := NB448_449.out; have hnc18 := NB449_448.out; have hnb19 := NB448_450.out; have hnc19 := NB450_448.out; have ⟨hcz20_0, hcz20_1, hfz20_0, hfz20_1⟩ := cf2 BK448; have hnb21 := NB449_450.out; have hnc21 := NB450_449.out; have ⟨hcz22_0, hcz22_1, hfz22_0, hfz22_1⟩ := cf2 BK449; have ⟨hcz23_0, hcz23_1, hfz23_0, hfz23_1⟩ := cf2 BK450) | ((with_reducible refine gate_dst (N := 17) rfl ?_); (try (refine gate_guard (by rfl) ?_; dsimp only)); refine Kd.R_lit k37 _ 37 ?hg (N := 17) ?hd (xs := ([(⟨a1_0, a1_1⟩ : S37), (⟨a2_0, a2_1⟩ : S37), (⟨a3_0, a3_1⟩ : S37)] : List (S37))) (inner := [.int .i64 a1_0, .int .i64 a1_1, .int .i64 a2_0, .int .i64 a2_1, .int .i64 a3_0, .int .i64 a3_1]) (ok := fun _ => True) (okp := fun _ => True) ?hr ?hp (fun _ hk => hk) trivial (Below.refl _ _) (Nat.le_refl _) (by simp) ?_; (case hd => rfl); (case hg => rfl); (case hr => first | (go_simp; done) | (go_simp; rfl)); (case hp => exact (Reps.c2 (show Kd.M k37 _ _ _ (⟨a1_0, a1_1⟩ : S37) [.int .i64 a1_0, .int .i64 a1_1] from (k37_mkM _ _ _ (⟨a1_0, a1_1⟩ : S37) )) (Reps.c2 (show Kd.M k37 _ _ _ (⟨a2_0, a2_1⟩ : S37) [.int .i64 a2_0, .int .i64 a2_1] from (k37_mkM _ _ _ (⟨a2_0, a2_1⟩ : S37) )) (Reps.c2 (show Kd.M k37 _ _ _ (⟨a3_0, a3_1⟩ : S37) [.int .i64 a3_0, .int .i64 a3_1] from (k37_mkM _ _ _ (⟨a3_0, a3_1⟩ : S37) )) (Reps.none _ _))))); intro v453 w24 ho25 hb hg_ hnew_; clear hg_ hnew_; (first | rw [← Ny452.out] at ho25 | (simp only [Int.reduceToNat] at ho25; rw [← Ny452.out] at ho25)); have HO454 := Aside0.mk (Kd.R_lower (Kd.R_newB (Kd.R_newB (Kd.R_newB ho25 (g := gb448) (o := .cells #[.int .i64 a1_0, .int .i64 a1_1] 37 (0, 0)) (pk BK448)) (g := gb449) (o := .cells #[.int .i64 a2_0, .int .i64 a2_1] 37 (0, 0)) (pk BK449)) (g := gb450) (o := .cells #[.int .i64 a3_0, .int .i64 a3_1] 37 (0, 0)) (pk BK450)) (below_size (bnow HB))); replace BK447 := bb BK447 hb; replace BK448 := bb BK448 hb; replace BK449 := bb BK449 hb; replace BK450 := bb BK450 hb; replace HB := bst HB hb; clear hb ho25; obtain ⟨Ao26, co26, eo26⟩ := Kd.R_slice HO454.out; subst eo26) | (go_at_call 49; (with_reducible refine (grids_point.calls k _ _ y452 t455 _ ?side1 ?side2 A12.out).mono ?_); (case side1 => repeat (first | exact (Kd.R_reads' HO454.out).2.2 | (with_reducible refine Kd.C_alloc ?_ _) | (with_reducible refine Kd.C_drewN ?_ _) | (with_reducible refine Kd.C_drew ?_))); (case side2 => exact (Kd.R_reads' HO454.out).2.1); rintro e w27 ⟨rfl, hb⟩; replace HO454 := Aside0.mk (Kd.R_below (by (with_reducible repeat (first | apply Kd.R_alloc | apply Kd.R_drewN | apply Kd.R_drew)); exact HO454.out) hb); replace BK447 := bb BK447 hb; replace BK448 := bb BK448 hb; replace BK449 := bb BK449 hb; replace BK450 := bb BK450 hb; replace HB := bst HB hb; (try clear hb); (try clear hb2); (try clear hk); (try clear hi)))
      go_meet
      case rel => exact ⟨_, (!t455), (by first | rfl | (simp; done) | (simp [*]; done)), H', ⟨by first | omega | exact Nat.le_refl _⟩, ⟨pk BK447⟩, ⟨pk BK448⟩, ⟨pk BK449⟩, ⟨pk BK450⟩, ⟨bnow HB⟩⟩
    · rw [if_neg c11] at H
      have c11b0 : (t451 == 0) = false := beq_eq_false_iff_ne.mpr c11
      have c11b1 : (t451 != 0) = true := bne_iff_ne.mpr c11
      (first | rw [c11b0] | (simp only [i64_w, i32_w]; rw [c11b0]) | skip)
      have H' := Aside0.mk H
      clear H
      have hnb28 := NB447_448.out
      have hnc28 := NB448_447.out
      have hnb29 := NB447_449.out
      have hnc29 := NB449_447.out
      have hnb30 := NB447_450.out
      have hnc30 := NB450_447.out
      have ⟨hcz31_0, hcz31_1, hcz31_2, hfz31_0, hfz31_1, hfz31_2⟩ := cf3 BK447
      go_wp2_with (first | ((with_reducible refine gate_callee (f := 14) rfl ?_); refine gl 11 Try.func14 (grids_Check.calls k a0_0 a0_1 a0_2 t451 _ A10.out) ?_; rintro e w32 ⟨rfl, hb⟩; refine ⟨_, rfl, ?_⟩; replace BK447 := bb BK447 hb; replace BK448 := bb BK448 hb; replace BK449 := bb BK449 hb; replace BK450 := bb BK450 hb; replace HB := bst HB hb; clear hb))
      go_meet
      case rel => exact ⟨_, (true), (by first | rfl | (simp; done) | (simp [*]; done)), H', ⟨by first | omega | exact Nat.le_refl _⟩, ⟨pk BK447⟩, ⟨pk BK448⟩, ⟨pk BK449⟩, ⟨pk BK450⟩, ⟨bnow HB⟩⟩
  case rest =>
    clear HC5
    try clear c1; try clear c2; try clear p2; try clear c3; try clear c5; try clear c11; try clear c11b0; try clear c11b1; try clear c13; try clear c14; try clear c15; try clear c18; try clear c19; try clear c21; try clear c28; try clear c29; try clear c30; try clear hcz16_0; try clear hcz16_1; try clear hcz16_2; try clear hcz20_0; try clear hcz20_1; try clear hcz22_0; try clear hcz22_1; try clear hcz23_0; try clear hcz23_1; try clear hcz31_0; try clear hcz31_1; try clear hcz31_2; try clear hfz16_0; try clear hfz16_1; try clear hfz16_2; try clear hfz20_0; try clear hfz20_1; try clear hfz22_0; try clear hfz22_1; try clear hfz23_0; try clear hfz23_1; try clear hfz31_0; try clear hfz31_1; try clear hfz31_2
    obtain ⟨kq, x20_4, rfl, HA, HJ4, BK447, BK448, BK449, BK450, HB⟩ := hcut
    cases kq with
    | zero => exact absurd HA.out (by simp [grids_Dot.j0])
    | succ kj4 =>
      have H := HA.out
      clear HA
      simp only [grids_Dot.j0] at H
      by_cases c33 : x20_4 = true
      · subst c33
        have H1 : (some (0, 2)) = some (r1, r2) := by rw [if_pos rfl] at H; exact H
        clear H
        have H := H1
        clear H1
        simp only [Option.some.injEq, Prod.mk.injEq] at H
        obtain ⟨rfl, rfl⟩ := H
        go_wp2
        go_ret2
        exact rt HB
      · replace c33 := Bool.eq_false_iff.mpr c33
        subst c33
        have H1 : ((grids_to.f a1_0 a1_1 a2_0 a2_1).bind fun bt456 => ((grids_to.f a1_0 a1_1 a3_0 a3_1).bind fun bt458 => ((grids_step_product.f bt456.1 bt456.2 a0_0 a0_1 a0_2 bt458.1 bt458.2).bind fun t460 => (some (t460, 0))))) = some (r1, r2) := by rw [if_neg (show ¬ (false = true) by decide)] at H; exact H
        clear H
        have H := H1
        clear H1
        obtain ⟨⟨t456, t457⟩, A34, H⟩ := ob H
        obtain ⟨⟨t458, t459⟩, A35, H⟩ := ob H
        obtain ⟨t460, A36, H⟩ := ob H
        simp only [Option.some.injEq, Prod.mk.injEq] at H
        obtain ⟨rfl, rfl⟩ := H
        try go_wp2
        replace BK447 := bd BK447
        replace BK448 := bd BK448
        replace BK449 := bd BK449
        replace BK450 := bd BK450
        replace HB := bdn HB
        refine start_ (n := 10) (S := fun w' => w'.cell? ⟨gb448, 0, none⟩ = some (.int .i64 a1_0) ∧ w'.cell? ⟨gb448, 1, none⟩ = some (.int .i64 a1_1) ∧ w'.cell? ⟨gb449, 0, none⟩ = some (.int .i64 a2_0) ∧ w'.cell? ⟨gb449, 1, none⟩ = some (.int .i64 a2_1) ∧ w'.cell? ⟨gb447, 0, none⟩ = some (.int .i64 a0_0) ∧ w'.cell? ⟨gb447, 1, none⟩ = some (.int .i64 a0_1) ∧ w'.cell? ⟨gb447, 2, none⟩ = some (.int .i64 a0_2) ∧ w'.cell? ⟨gb450, 0, none⟩ = some (.int .i64 a3_0) ∧ w'.cell? ⟨gb450, 1, none⟩ = some (.int .i64 a3_1)) (ds := []) #[false, false, false, false, false, false, false, false, false, false] (by kernel_rfl) rfl rfl ⟨(blk_cell BK448.out 0).trans rfl, (blk_cell BK448.out 1).trans rfl, (blk_cell BK449.out 0).trans rfl, (blk_cell BK449.out 1).trans rfl, (blk_cell BK447.out 0).trans rfl, (blk_cell BK447.out 1).trans rfl, (blk_cell BK447.out 2).trans rfl, (blk_cell BK450.out 0).trans rfl, (blk_cell BK450.out 1).trans rfl⟩ (fun hHeld => ?_); refine with_tabW grids_Dot.tab3 grids_Dot.bits3 (fun HT_ HW_ => ?_)
        generalize wc.drew = w37 at BK447 BK448 BK449 BK450 HB hHeld ⊢
        refine tz 0 21 HT_ HW_ hHeld ?_
        refine tz 1 22 HT_ HW_ hHeld ?_
        refine tz 3 24 HT_ HW_ hHeld ?_
        refine tz 4 25 HT_ HW_ hHeld ?_
        refine tz 5 26 HT_ HW_ hHeld ?_
        refine one_ (i := 2) (N := some 23) #[true, true, true, true, true, true, false, false, false, false] rfl rfl (one_of HT_.out (by kernel_rfl)) (by decide) (fun K hK => ?_)
        refine gs _ Try.func50 (grids_to.calls a1_0 a1_1 a2_0 a2_1 t456 t457 _ A34.out) ?_
        rintro e w38 ⟨rfl, hb⟩
        refine ⟨_, rfl, ?_⟩
        replace BK447 := bb BK447 hb
        replace BK448 := bb BK448 hb
        replace BK449 := bb BK449 hb
        replace BK450 := bb BK450 hb
        replace HB := bst HB hb
        (try clear hb)
        (try clear hb2)
        (try clear hk)
        (try clear hi)
        refine hK.out _ _ ⟨(blk_cell BK448.out 0).trans rfl, (blk_cell BK448.out 1).trans rfl, (blk_cell BK449.out 0).trans rfl, (blk_cell BK449.out 1).trans rfl, (blk_cell BK447.out 0).trans rfl, (blk_cell BK447.out 1).trans rfl, (blk_cell BK447.out 2).trans rfl, (blk_cell BK450.out 0).trans rfl, (blk_cell BK450.out 1).trans rfl⟩ (fun hHeld => ?_)
        clear hK K
        refine norm_ (a' := ?_) ?_ ?_
        rotate_left
        · show Act.put _ (some 23) _ = _
          simp only [Act.put, List.setIfInBounds_toArray, List.set_cons_zero, List.set_cons_succ, i64_w, i32_w]
          rfl
        refine one_ (i := 6) (N := some 27) #[true, true, true, true, true, true, true, false, false, false] rfl rfl (one_of HT_.out (by kernel_rfl)) (by decide) (fun K hK => ?_)
        refine gs _ Try.func50 (grids_to.calls a1_0 a1_1 a3_0 a3_1 t458 t459 _ A35.out) ?_
        rintro e w39 ⟨rfl, hb⟩
        refine ⟨_, rfl, ?_⟩
        replace BK447 := bb BK447 hb
        replace BK448 := bb BK448 hb
        replace BK449 := bb BK449 hb
        replace BK450 := bb BK450 hb
        replace HB := bst HB hb
        (try clear hb)
        (try clear hb2)
        (try clear hk)
        (try clear hi)
        refine hK.out _ _ ⟨(blk_cell BK448.out 0).trans rfl, (blk_cell BK448.out 1).trans rfl, (blk_cell BK449.out 0).trans rfl, (blk_cell BK449.out 1).trans rfl, (blk_cell BK447.out 0).trans rfl, (blk_cell BK447.out 1).trans rfl, (blk_cell BK447.out 2).trans rfl, (blk_cell BK450.out 0).trans rfl, (blk_cell BK450.out 1).trans rfl⟩ (fun hHeld => ?_)
        clear hK K
        refine norm_ (a' := ?_) ?_ ?_
        rotate_left
        · show Act.put _ (some 27) _ = _
          simp only [Act.put, List.setIfInBounds_toArray, List.set_cons_zero, List.set_cons_succ, i64_w, i32_w]
          rfl
        refine one_ (i := 7) (N := some 28) #[true, true, true, true, true, true, true, true, false, false] rfl rfl (one_of HT_.out (by kernel_rfl)) (by decide) (fun K hK => ?_)
        refine gs _ Try.func80 (grids_step_product.calls t456 t457 a0_0 a0_1 a0_2 t458 t459 t460 _ A36.out) ?_
        rintro e w40 ⟨rfl, hb⟩
        refine ⟨_, rfl, ?_⟩
        replace BK447 := bb BK447 hb
        replace BK448 := bb BK448 hb
        replace BK449 := bb BK449 hb
        replace BK450 := bb BK450 hb
        replace HB := bst HB hb
        (try clear hb)
        (try clear hb2)
        (try clear hk)
        (try clear hi)
        refine hK.out _ _ ⟨(blk_cell BK448.out 0).trans rfl, (blk_cell BK448.out 1).trans rfl, (blk_cell BK449.out 0).trans rfl, (blk_cell BK449.out 1).trans rfl, (blk_cell BK447.out 0).trans rfl, (blk_cell BK447.out 1).trans rfl, (blk_cell BK447.out 2).trans rfl, (blk_cell BK450.out 0).trans rfl, (blk_cell BK450.out 1).trans rfl⟩ (fun hHeld => ?_)
        clear hK K
        refine norm_ (a' := ?_) ?_ ?_
        rotate_left
        · show Act.put _ (some 28) _ = _
          simp only [Act.put, List.setIfInBounds_toArray, List.set_cons_zero, List.set_cons_succ, i64_w, i32_w]
          rfl
        refine pz 8 8 HT_ ?_
        refine pz 9 9 HT_ ?_
        refine done_ (done_of HT_.out (by kernel_rfl)) ?_
        try go_wp2
        go_ret2
        exact rt HB
end
section
/-! ### grids_Square: function 20 -/
def grids_Square.f (k : Nat) (a0_0 : Int) (a0_1 : Int) (a0_2 : Int) (a1_0 : Int) (a1_1 : Int) (a2_0 : Int) (a2_1 : Int) : Option (Int × Int) := (grids_Dot.f k a0_0 a0_1 a0_2 a1_0 a1_1 a2_0 a2_1 a2_0 a2_1).bind fun bt464 => (some (bt464.1, bt464.2))
theorem grids_Square.mono : ∀ a0 a1 a2 a3 a4 a5 a6 k, LeO (grids_Square.f k a0 a1 a2 a3 a4 a5 a6) (grids_Square.f (k + 1) a0 a1 a2 a3 a4 a5 a6) := by
  intro a0 a1 a2 a3 a4 a5 a6 k
  unfold grids_Square.f
  repeat' first
      | (with_reducible exact grids_Dot.mono _ _ _ _ _ _ _ _ _ _)
      | (with_reducible exact LeO.refl _)
      | (with_reducible exact LeO.none _)
      | (with_reducible refine LeO.ite ?_ ?_)
      | (with_reducible refine LeO.bind ?_ (fun _ => ?_))
      | exact grids_Dot.mono _ _ _ _ _ _ _ _ _ _
      | exact LeO.none _
      | refine LeO.ite ?_ ?_
      | refine LeO.bind ?_ (fun _ => ?_)
set_option maxHeartbeats 8000000 in
set_option maxRecDepth 100000 in
theorem grids_Square.calls (k : Nat) (a0_0 : Int) (a0_1 : Int) (a0_2 : Int) (a1_0 : Int) (a1_1 : Int) (a2_0 : Int) (a2_1 : Int) (r1 : Int) (r2 : Int) (w : World) (h : grids_Square.f k a0_0 a0_1 a0_2 a1_0 a1_1 a2_0 a2_1 = some (r1, r2)) :
    Calls Try.prog 20 #[.agg #[.int .i64 a0_0, .int .i64 a0_1, .int .i64 a0_2], .agg #[.int .i64 a1_0, .int .i64 a1_1], .agg #[.int .i64 a2_0, .int .i64 a2_1]] w fun e w' => e = .returned (.tuple #[.int .i64 r1, .int .i64 r2]) ∧ Below w.heap.size w w' := by
  have hu23 := Try.underlying23
  have hu37 := Try.underlying37
  have HB := Aside0.mk (Below.refl w.heap.size w)
  have H : ((grids_Dot.f k a0_0 a0_1 a0_2 a1_0 a1_1 a2_0 a2_1 a2_0 a2_1).bind fun bt464 => (some (bt464.1, bt464.2))) = some (r1, r2) := h
  clear h
  obtain ⟨⟨t464, t465⟩, A4, H⟩ := ob H
  simp only [Option.some.injEq, Prod.mk.injEq] at H
  obtain ⟨rfl, rfl⟩ := H
  go_enter Try.func20, Try.ntmps20
  go_wp2_with (first | ((with_reducible refine gate_dst (N := 3) rfl ?_); refine bx 3 #[.int .i64 a0_0, .int .i64 a0_1, .int .i64 a0_2] 23 fun gb461 hg w5 BK461 hb => ?_; have GW461 := gw hg HB; have GE461 := gw hg HB; replace HB := bst HB hb; clear hb hg) | ((with_reducible refine gate_dst (N := 4) rfl ?_); refine bx 4 #[.int .i64 a1_0, .int .i64 a1_1] 37 fun gb462 hg w6 BK462 hb => ?_; have GW462 := gw hg HB; have GE462 := gw hg HB; have NB461_462 := nlt hg BK461; have NB462_461 := ngt hg BK461; replace BK461 := bb BK461 hb; replace HB := bst HB hb; clear hb hg) | ((with_reducible refine gate_dst (N := 5) rfl ?_); refine bx 5 #[.int .i64 a2_0, .int .i64 a2_1] 37 fun gb463 hg w7 BK463 hb => ?_; have GW463 := gw hg HB; have GE463 := gw hg HB; have NB461_463 := nlt hg BK461; have NB463_461 := ngt hg BK461; have NB462_463 := nlt hg BK462; have NB463_462 := ngt hg BK462; replace BK461 := bb BK461 hb; replace BK462 := bb BK462 hb; replace HB := bst HB hb; clear hb hg; have hnb8 := NB461_462.out; have hnc8 := NB462_461.out; have hnb9 := NB461_463.out; have hnc9 := NB463_461.out; have ⟨hcz10_0, hcz10_1, hcz10_2, hfz10_0, hfz10_1, hfz10_2⟩ := cf3 BK461; have hnb11 := NB462_463.out; have hnc11 := NB463_462.out; have ⟨hcz12_0, hcz12_1, hfz12_0, hfz12_1⟩ := cf2 BK462; have ⟨hcz13_0, hcz13_1, hfz13_0, hfz13_1⟩ := cf2 BK463) | ((with_reducible refine gate_callee (f := 56) rfl ?_); refine gl 12 Try.func56 (grids_Dot.calls k a0_0 a0_1 a0_2 a1_0 a1_1 a2_0 a2_1 a2_0 a2_1 t464 t465 _ A4.out) ?_; rintro e w14 ⟨rfl, hb⟩; refine ⟨_, rfl, ?_⟩; replace BK461 := bb BK461 hb; replace BK462 := bb BK462 hb; replace BK463 := bb BK463 hb; replace HB := bst HB hb; clear hb))
  go_ret2
  exact rt HB
end
section
/-! ### grids_Side: function 21 -/
def grids_Side.f (k : Nat) (a0_0 : Int) (a0_1 : Int) (a1_0 : Int) (a1_1 : Int) (a2_0 : Int) (a2_1 : Int) : Option (Int × Int) := (grids_point.f k (([(⟨a0_0, a0_1⟩ : S37), (⟨a1_0, a1_1⟩ : S37), (⟨a2_0, a2_1⟩ : S37)] : List (S37)))).bind fun t472 => (if t472 = true then ((grids_to.f a0_0 a0_1 a1_0 a1_1).bind fun bt473 => ((grids_to.f a0_0 a0_1 a2_0 a2_1).bind fun bt475 => ((grids_step_cross.f bt473.1 bt473.2 bt475.1 bt475.2).bind fun t477 => ((cmp_Compare_int64.f t477 0).bind fun t478 => (some (t478, 0)))))) else (some (0, 2)))
theorem grids_Side.mono : ∀ a0 a1 a2 a3 a4 a5 k, LeO (grids_Side.f k a0 a1 a2 a3 a4 a5) (grids_Side.f (k + 1) a0 a1 a2 a3 a4 a5) := by
  intro a0 a1 a2 a3 a4 a5 k
  unfold grids_Side.f
  repeat' first
      | (with_reducible exact grids_point.mono _ _)
      | (with_reducible exact LeO.refl _)
      | (with_reducible exact LeO.none _)
      | (with_reducible refine LeO.ite ?_ ?_)
      | (with_reducible refine LeO.bind ?_ (fun _ => ?_))
      | exact grids_point.mono _ _
      | exact LeO.none _
      | refine LeO.ite ?_ ?_
      | refine LeO.bind ?_ (fun _ => ?_)
def grids_Side.T3 : Bool × List (List Nat × List Nat) := (true, [([], []), ([], []), ([0, 1], [0, 1]), ([], []), ([], []), ([3, 4, 2], [3, 4]), ([2, 5, 5], [2, 5]), ([6, 6], [6]), ([7, 7, 0, 1, 2, 3, 4, 5, 6, 7], [7]), ([8, 0, 1, 2, 3, 4, 5, 6, 7, 8], [])])
def grids_Side.B3 : List Nat := [0, 0, 3, 0, 0, 31, 63, 127, 255, 511]
theorem grids_Side.tab3 : rtab .any (opsOf Try.f21 3) = grids_Side.T3 := by kernel_rfl
theorem grids_Side.bits3 : waitsOk grids_Side.T3.2 grids_Side.B3 = true := by kernel_rfl
set_option maxHeartbeats 8000000 in
set_option maxRecDepth 100000 in
theorem grids_Side.calls (k : Nat) (a0_0 : Int) (a0_1 : Int) (a1_0 : Int) (a1_1 : Int) (a2_0 : Int) (a2_1 : Int) (r1 : Int) (r2 : Int) (w : World) (h : grids_Side.f k a0_0 a0_1 a1_0 a1_1 a2_0 a2_1 = some (r1, r2)) :
    Calls Try.prog 21 #[.agg #[.int .i64 a0_0, .int .i64 a0_1], .agg #[.int .i64 a1_0, .int .i64 a1_1], .agg #[.int .i64 a2_0, .int .i64 a2_1]] w fun e w' => e = .returned (.tuple #[.int .i64 r1, .int .i64 r2]) ∧ Below w.heap.size w w' := by
  have hu37 := Try.underlying37
  have HB := Aside0.mk (Below.refl w.heap.size w)
  have H : ((grids_point.f k (([(⟨a0_0, a0_1⟩ : S37), (⟨a1_0, a1_1⟩ : S37), (⟨a2_0, a2_1⟩ : S37)] : List (S37)))).bind fun t472 => (if t472 = true then ((grids_to.f a0_0 a0_1 a1_0 a1_1).bind fun bt473 => ((grids_to.f a0_0 a0_1 a2_0 a2_1).bind fun bt475 => ((grids_step_cross.f bt473.1 bt473.2 bt475.1 bt475.2).bind fun t477 => ((cmp_Compare_int64.f t477 0).bind fun t478 => (some (t478, 0)))))) else (some (0, 2)))) = some (r1, r2) := h
  clear h
  obtain ⟨y469, hy469⟩ : ∃ y_ : List (S37), y_ = (([(⟨a0_0, a0_1⟩ : S37), (⟨a1_0, a1_1⟩ : S37), (⟨a2_0, a2_1⟩ : S37)] : List (S37))) := ⟨_, rfl⟩
  replace H : ((grids_point.f k y469).bind fun t472 => (if t472 = true then ((grids_to.f a0_0 a0_1 a1_0 a1_1).bind fun bt473 => ((grids_to.f a0_0 a0_1 a2_0 a2_1).bind fun bt475 => ((grids_step_cross.f bt473.1 bt473.2 bt475.1 bt475.2).bind fun t477 => ((cmp_Compare_int64.f t477 0).bind fun t478 => (some (t478, 0)))))) else (some (0, 2)))) = some (r1, r2) := by first | (rw [hy469]; with_reducible exact H) | (have H2_ := (Option.bind_some _ _).symm.trans H; rw [hy469]; with_reducible exact H2_) | (have H2_ := (Option.bind_some _ _).symm.trans H; with_reducible exact H2_) | with_reducible exact H | (rw [hy469]; exact H) | exact H
  have Ny469 := Aside0.mk hy469
  clear hy469
  obtain ⟨t472, A4, H⟩ := ob H
  by_cases c5 : t472 = true
  · subst c5
    have H1 : ((grids_to.f a0_0 a0_1 a1_0 a1_1).bind fun bt473 => ((grids_to.f a0_0 a0_1 a2_0 a2_1).bind fun bt475 => ((grids_step_cross.f bt473.1 bt473.2 bt475.1 bt475.2).bind fun t477 => ((cmp_Compare_int64.f t477 0).bind fun t478 => (some (t478, 0)))))) = some (r1, r2) := by rw [if_pos rfl] at H; exact H
    clear H
    have H := H1
    clear H1
    obtain ⟨⟨t473, t474⟩, A6, H⟩ := ob H
    obtain ⟨⟨t475, t476⟩, A7, H⟩ := ob H
    obtain ⟨t477, A8, H⟩ := ob H
    obtain ⟨t478, A9, H⟩ := ob H
    simp only [Option.some.injEq, Prod.mk.injEq] at H
    obtain ⟨rfl, rfl⟩ := H
    go_enter Try.func21, Try.ntmps21
    try go_wp2_with (first | ((with_reducible refine gate_dst (N := 3) rfl ?_); refine bx 3 #[.int .i64 a0_0, .int .i64 a0_1] 37 fun gb466 hg w10 BK466 hb => ?_; have GW466 := gw hg HB; have GE466 := gw hg HB; replace HB := bst HB hb; clear hb hg) | ((with_reducible refine gate_dst (N := 4) rfl ?_); refine bx 4 #[.int .i64 a1_0, .int .i64 a1_1] 37 fun gb467 hg w11 BK467 hb => ?_; have GW467 := gw hg HB; have GE467 := gw hg HB; have NB466_467 := nlt hg BK466; have NB467_466 := ngt hg BK466; replace BK466 := bb BK466 hb; replace HB := bst HB hb; clear hb hg) | ((with_reducible refine gate_dst (N := 5) rfl ?_); refine bx 5 #[.int .i64 a2_0, .int .i64 a2_1] 37 fun gb468 hg w12 BK468 hb => ?_; have GW468 := gw hg HB; have GE468 := gw hg HB; have NB466_468 := nlt hg BK466; have NB468_466 := ngt hg BK466; have NB467_468 := nlt hg BK467; have NB468_467 := ngt hg BK467; replace BK466 := bb BK466 hb; replace BK467 := bb BK467 hb; replace HB := bst HB hb; clear hb hg; have hnb13 := NB466_467.out; have hnc13 := NB467_466.out; have hnb14 := NB466_468.out; have hnc14 := NB468_466.out; have ⟨hcz15_0, hcz15_1, hfz15_0, hfz15_1⟩ := cf2 BK466; have hnb16 := NB467_468.out; have hnc16 := NB468_467.out; have ⟨hcz17_0, hcz17_1, hfz17_0, hfz17_1⟩ := cf2 BK467; have ⟨hcz18_0, hcz18_1, hfz18_0, hfz18_1⟩ := cf2 BK468) | ((with_reducible refine gate_dst (N := 11) rfl ?_); refine Kd.R_lit k37 _ 37 ?hg (N := 11) ?hd (xs := ([(⟨a0_0, a0_1⟩ : S37), (⟨a1_0, a1_1⟩ : S37), (⟨a2_0, a2_1⟩ : S37)] : List (S37))) (inner := [.int .i64 a0_0, .int .i64 a0_1, .int .i64 a1_0, .int .i64 a1_1, .int .i64 a2_0, .int .i64 a2_1]) (ok := fun _ => True) (okp := fun _ => True) ?hr ?hp (fun _ hk => hk) trivial (Below.refl _ _) (Nat.le_refl _) (by simp) ?_; (case hd => rfl); (case hg => rfl); (case hr => first | (go_simp; done) | (go_simp; rfl)); (case hp => exact (Reps.c2 (show Kd.M k37 _ _ _ (⟨a0_0, a0_1⟩ : S37) [.int .i64 a0_0, .int .i64 a0_1] from (k37_mkM _ _ _ (⟨a0_0, a0_1⟩ : S37) )) (Reps.c2 (show Kd.M k37 _ _ _ (⟨a1_0, a1_1⟩ : S37) [.int .i64 a1_0, .int .i64 a1_1] from (k37_mkM _ _ _ (⟨a1_0, a1_1⟩ : S37) )) (Reps.c2 (show Kd.M k37 _ _ _ (⟨a2_0, a2_1⟩ : S37) [.int .i64 a2_0, .int .i64 a2_1] from (k37_mkM _ _ _ (⟨a2_0, a2_1⟩ : S37) )) (Reps.none _ _))))); intro v470 w19 ho20 hb hg_ hnew_; clear hg_ hnew_; (first | rw [← Ny469.out] at ho20 | (simp only [Int.reduceToNat] at ho20; rw [← Ny469.out] at ho20)); have HO471 := Aside0.mk (Kd.R_lower (Kd.R_newB (Kd.R_newB (Kd.R_newB ho20 (g := gb466) (o := .cells #[.int .i64 a0_0, .int .i64 a0_1] 37 (0, 0)) (pk BK466)) (g := gb467) (o := .cells #[.int .i64 a1_0, .int .i64 a1_1] 37 (0, 0)) (pk BK467)) (g := gb468) (o := .cells #[.int .i64 a2_0, .int .i64 a2_1] 37 (0, 0)) (pk BK468)) (below_size (bnow HB))); replace BK466 := bb BK466 hb; replace BK467 := bb BK467 hb; replace BK468 := bb BK468 hb; replace HB := bst HB hb; clear hb ho20; obtain ⟨Ao21, co21, eo21⟩ := Kd.R_slice HO471.out; subst eo21) | ((with_reducible refine gate_callee (f := 49) rfl ?_); refine goesL_ (some 12) rfl rfl Try.func49 (by kernel_rfl) rfl #[.slice Ao21 y469.length co21] rfl am ?_; (with_reducible refine (grids_point.calls k _ _ y469 true _ ?side1 ?side2 A4.out).mono ?_); (case side1 => repeat (first | exact (Kd.R_reads' HO471.out).2.2 | (with_reducible refine Kd.C_alloc ?_ _) | (with_reducible refine Kd.C_drewN ?_ _) | (with_reducible refine Kd.C_drew ?_))); (case side2 => exact (Kd.R_reads' HO471.out).2.1); rintro e w22 ⟨rfl, hb⟩; refine ⟨_, rfl, ?_⟩; replace HO471 := Aside0.mk (Kd.R_below (by (with_reducible repeat (first | apply Kd.R_alloc | apply Kd.R_drewN | apply Kd.R_drew)); exact HO471.out) hb); replace BK466 := bb BK466 hb; replace BK467 := bb BK467 hb; replace BK468 := bb BK468 hb; replace HB := bst HB hb; (try clear hb); (try clear hb2); (try clear hk); (try clear hi)))
    replace HO471 := Aside0.mk (Kd.R_drew HO471.out)
    replace BK466 := bd BK466
    replace BK467 := bd BK467
    replace BK468 := bd BK468
    replace HB := bdn HB
    refine start_ (n := 10) (S := fun w' => w'.cell? ⟨gb466, 0, none⟩ = some (.int .i64 a0_0) ∧ w'.cell? ⟨gb466, 1, none⟩ = some (.int .i64 a0_1) ∧ w'.cell? ⟨gb467, 0, none⟩ = some (.int .i64 a1_0) ∧ w'.cell? ⟨gb467, 1, none⟩ = some (.int .i64 a1_1) ∧ w'.cell? ⟨gb468, 0, none⟩ = some (.int .i64 a2_0) ∧ w'.cell? ⟨gb468, 1, none⟩ = some (.int .i64 a2_1)) (ds := []) #[false, false, false, false, false, false, false, false, false, false] (by kernel_rfl) rfl rfl ⟨(blk_cell BK466.out 0).trans rfl, (blk_cell BK466.out 1).trans rfl, (blk_cell BK467.out 0).trans rfl, (blk_cell BK467.out 1).trans rfl, (blk_cell BK468.out 0).trans rfl, (blk_cell BK468.out 1).trans rfl⟩ (fun hHeld => ?_); refine with_tabW grids_Side.tab3 grids_Side.bits3 (fun HT_ HW_ => ?_)
    generalize w22.drew = w23 at HO471 BK466 BK467 BK468 HB hHeld ⊢
    refine tz 0 14 HT_ HW_ hHeld ?_
    refine tz 1 15 HT_ HW_ hHeld ?_
    refine tz 3 17 HT_ HW_ hHeld ?_
    refine tz 4 18 HT_ HW_ hHeld ?_
    refine one_ (i := 2) (N := some 16) #[true, true, true, true, true, false, false, false, false, false] rfl rfl (one_of HT_.out (by kernel_rfl)) (by decide) (fun K hK => ?_)
    refine gs _ Try.func50 (grids_to.calls a0_0 a0_1 a1_0 a1_1 t473 t474 _ A6.out) ?_
    rintro e w24 ⟨rfl, hb⟩
    refine ⟨_, rfl, ?_⟩
    have n0_ := Aside0.mk (Kd.R_below (by (with_reducible repeat (first | apply Kd.R_alloc | apply Kd.R_drewN | apply Kd.R_drew)); exact HO471.out) hb)
    have n1_ := bb BK466 hb
    have n2_ := bb BK467 hb
    have n3_ := bb BK468 hb
    have n4_ := bst HB hb
    clear HO471
    clear BK466
    clear BK467
    clear BK468
    clear HB
    have HO471 := n0_
    have BK466 := n1_
    have BK467 := n2_
    have BK468 := n3_
    have HB := n4_
    clear n0_ n1_ n2_ n3_ n4_
    (try clear hb)
    (try clear hb2)
    (try clear hk)
    (try clear hi)
    refine hK.out _ _ ⟨(blk_cell BK466.out 0).trans rfl, (blk_cell BK466.out 1).trans rfl, (blk_cell BK467.out 0).trans rfl, (blk_cell BK467.out 1).trans rfl, (blk_cell BK468.out 0).trans rfl, (blk_cell BK468.out 1).trans rfl⟩ (fun hHeld => ?_)
    clear hK K
    refine norm_ (a' := ?_) ?_ ?_
    rotate_left
    · show Act.put _ (some 16) _ = _
      simp only [Act.put, List.setIfInBounds_toArray, List.set_cons_zero, List.set_cons_succ, i64_w, i32_w]
      rfl
    refine one_ (i := 5) (N := some 19) #[true, true, true, true, true, true, false, false, false, false] rfl rfl (one_of HT_.out (by kernel_rfl)) (by decide) (fun K hK => ?_)
    refine gs _ Try.func50 (grids_to.calls a0_0 a0_1 a2_0 a2_1 t475 t476 _ A7.out) ?_
    rintro e w25 ⟨rfl, hb⟩
    refine ⟨_, rfl, ?_⟩
    have n0_ := Aside0.mk (Kd.R_below (by (with_reducible repeat (first | apply Kd.R_alloc | apply Kd.R_drewN | apply Kd.R_drew)); exact HO471.out) hb)
    have n1_ := bb BK466 hb
    have n2_ := bb BK467 hb
    have n3_ := bb BK468 hb
    have n4_ := bst HB hb
    clear HO471
    clear BK466
    clear BK467
    clear BK468
    clear HB
    have HO471 := n0_
    have BK466 := n1_
    have BK467 := n2_
    have BK468 := n3_
    have HB := n4_
    clear n0_ n1_ n2_ n3_ n4_
    (try clear hb)
    (try clear hb2)
    (try clear hk)
    (try clear hi)
    refine hK.out _ _ ⟨(blk_cell BK466.out 0).trans rfl, (blk_cell BK466.out 1).trans rfl, (blk_cell BK467.out 0).trans rfl, (blk_cell BK467.out 1).trans rfl, (blk_cell BK468.out 0).trans rfl, (blk_cell BK468.out 1).trans rfl⟩ (fun hHeld => ?_)
    clear hK K
    refine norm_ (a' := ?_) ?_ ?_
    rotate_left
    · show Act.put _ (some 19) _ = _
      simp only [Act.put, List.setIfInBounds_toArray, List.set_cons_zero, List.set_cons_succ, i64_w, i32_w]
      rfl
    refine one_ (i := 6) (N := some 20) #[true, true, true, true, true, true, true, false, false, false] rfl rfl (one_of HT_.out (by kernel_rfl)) (by decide) (fun K hK => ?_)
    refine gs _ Try.func55 (grids_step_cross.calls t473 t474 t475 t476 t477 _ A8.out) ?_
    rintro e w26 ⟨rfl, hb⟩
    refine ⟨_, rfl, ?_⟩
    have n0_ := Aside0.mk (Kd.R_below (by (with_reducible repeat (first | apply Kd.R_alloc | apply Kd.R_drewN | apply Kd.R_drew)); exact HO471.out) hb)
    have n1_ := bb BK466 hb
    have n2_ := bb BK467 hb
    have n3_ := bb BK468 hb
    have n4_ := bst HB hb
    clear HO471
    clear BK466
    clear BK467
    clear BK468
    clear HB
    have HO471 := n0_
    have BK466 := n1_
    have BK467 := n2_
    have BK468 := n3_
    have HB := n4_
    clear n0_ n1_ n2_ n3_ n4_
    (try clear hb)
    (try clear hb2)
    (try clear hk)
    (try clear hi)
    refine hK.out _ _ ⟨(blk_cell BK466.out 0).trans rfl, (blk_cell BK466.out 1).trans rfl, (blk_cell BK467.out 0).trans rfl, (blk_cell BK467.out 1).trans rfl, (blk_cell BK468.out 0).trans rfl, (blk_cell BK468.out 1).trans rfl⟩ (fun hHeld => ?_)
    clear hK K
    refine norm_ (a' := ?_) ?_ ?_
    rotate_left
    · show Act.put _ (some 20) _ = _
      simp only [Act.put, List.setIfInBounds_toArray, List.set_cons_zero, List.set_cons_succ, i64_w, i32_w]
      rfl
    refine one_ (i := 7) (N := some 21) #[true, true, true, true, true, true, true, true, false, false] rfl rfl (one_of HT_.out (by kernel_rfl)) (by decide) (fun K hK => ?_)
    refine gs _ Try.func54 (cmp_Compare_int64.calls t477 0 t478 _ A9.out) ?_
    rintro e w' ⟨rfl, ⟨nd, rfl⟩⟩
    refine ⟨_, rfl, ?_⟩
    refine hK.out _ _ ⟨(blk_cell BK466.out 0).trans rfl, (blk_cell BK466.out 1).trans rfl, (blk_cell BK467.out 0).trans rfl, (blk_cell BK467.out 1).trans rfl, (blk_cell BK468.out 0).trans rfl, (blk_cell BK468.out 1).trans rfl⟩ (fun hHeld => ?_)
    clear hK K
    refine norm_ (a' := ?_) ?_ ?_
    rotate_left
    · show Act.put _ (some 21) _ = _
      simp only [Act.put, List.setIfInBounds_toArray, List.set_cons_zero, List.set_cons_succ, i64_w, i32_w]
      rfl
    refine pz 8 6 HT_ ?_
    refine pz 9 7 HT_ ?_
    refine done_ (done_of HT_.out (by kernel_rfl)) ?_
    try go_wp2
    go_ret2
    exact rt HB
  · replace c5 := Bool.eq_false_iff.mpr c5
    subst c5
    have H1 : (some (0, 2)) = some (r1, r2) := by rw [if_neg (show ¬ (false = true) by decide)] at H; exact H
    clear H
    have H := H1
    clear H1
    simp only [Option.some.injEq, Prod.mk.injEq] at H
    obtain ⟨rfl, rfl⟩ := H
    go_enter Try.func21, Try.ntmps21
    go_wp2_with (first | ((with_reducible refine gate_dst (N := 3) rfl ?_); refine bx 3 #[.int .i64 a0_0, .int .i64 a0_1] 37 fun gb466 hg w27 BK466 hb => ?_; have GW466 := gw hg HB; have GE466 := gw hg HB; replace HB := bst HB hb; clear hb hg) | ((with_reducible refine gate_dst (N := 4) rfl ?_); refine bx 4 #[.int .i64 a1_0, .int .i64 a1_1] 37 fun gb467 hg w28 BK467 hb => ?_; have GW467 := gw hg HB; have GE467 := gw hg HB; have NB466_467 := nlt hg BK466; have NB467_466 := ngt hg BK466; replace BK466 := bb BK466 hb; replace HB := bst HB hb; clear hb hg) | ((with_reducible refine gate_dst (N := 5) rfl ?_); refine bx 5 #[.int .i64 a2_0, .int .i64 a2_1] 37 fun gb468 hg w29 BK468 hb => ?_; have GW468 := gw hg HB; have GE468 := gw hg HB; have NB466_468 := nlt hg BK466; have NB468_466 := ngt hg BK466; have NB467_468 := nlt hg BK467; have NB468_467 := ngt hg BK467; replace BK466 := bb BK466 hb; replace BK467 := bb BK467 hb; replace HB := bst HB hb; clear hb hg; have hnb30 := NB466_467.out; have hnc30 := NB467_466.out; have hnb31 := NB466_468.out; have hnc31 := NB468_466.out; have ⟨hcz32_0, hcz32_1, hfz32_0, hfz32_1⟩ := cf2 BK466; have hnb33 := NB467_468.out; have hnc33 := NB468_467.out; have ⟨hcz34_0, hcz34_1, hfz34_0, hfz34_1⟩ := cf2 BK467; have ⟨hcz35_0, hcz35_1, hfz35_0, hfz35_1⟩ := cf2 BK468) | ((with_reducible refine gate_dst (N := 11) rfl ?_); refine Kd.R_lit k37 _ 37 ?hg (N := 11) ?hd (xs := ([(⟨a0_0, a0_1⟩ : S37), (⟨a1_0, a1_1⟩ : S37), (⟨a2_0, a2_1⟩ : S37)] : List (S37))) (inner := [.int .i64 a0_0, .int .i64 a0_1, .int .i64 a1_0, .int .i64 a1_1, .int .i64 a2_0, .int .i64 a2_1]) (ok := fun _ => True) (okp := fun _ => True) ?hr ?hp (fun _ hk => hk) trivial (Below.refl _ _) (Nat.le_refl _) (by simp) ?_; (case hd => rfl); (case hg => rfl); (case hr => first | (go_simp; done) | (go_simp; rfl)); (case hp => exact (Reps.c2 (show Kd.M k37 _ _ _ (⟨a0_0, a0_1⟩ : S37) [.int .i64 a0_0, .int .i64 a0_1] from (k37_mkM _ _ _ (⟨a0_0, a0_1⟩ : S37) )) (Reps.c2 (show Kd.M k37 _ _ _ (⟨a1_0, a1_1⟩ : S37) [.int .i64 a1_0, .int .i64 a1_1] from (k37_mkM _ _ _ (⟨a1_0, a1_1⟩ : S37) )) (Reps.c2 (show Kd.M k37 _ _ _ (⟨a2_0, a2_1⟩ : S37) [.int .i64 a2_0, .int .i64 a2_1] from (k37_mkM _ _ _ (⟨a2_0, a2_1⟩ : S37) )) (Reps.none _ _))))); intro v470 w36 ho37 hb hg_ hnew_; clear hg_ hnew_; (first | rw [← Ny469.out] at ho37 | (simp only [Int.reduceToNat] at ho37; rw [← Ny469.out] at ho37)); have HO471 := Aside0.mk (Kd.R_lower (Kd.R_newB (Kd.R_newB (Kd.R_newB ho37 (g := gb466) (o := .cells #[.int .i64 a0_0, .int .i64 a0_1] 37 (0, 0)) (pk BK466)) (g := gb467) (o := .cells #[.int .i64 a1_0, .int .i64 a1_1] 37 (0, 0)) (pk BK467)) (g := gb468) (o := .cells #[.int .i64 a2_0, .int .i64 a2_1] 37 (0, 0)) (pk BK468)) (below_size (bnow HB))); replace BK466 := bb BK466 hb; replace BK467 := bb BK467 hb; replace BK468 := bb BK468 hb; replace HB := bst HB hb; clear hb ho37; obtain ⟨Ao38, co38, eo38⟩ := Kd.R_slice HO471.out; subst eo38) | ((with_reducible refine gate_callee (f := 49) rfl ?_); refine goesL_ (some 12) rfl rfl Try.func49 (by kernel_rfl) rfl #[.slice Ao38 y469.length co38] rfl am ?_; (with_reducible refine (grids_point.calls k _ _ y469 false _ ?side1 ?side2 A4.out).mono ?_); (case side1 => repeat (first | exact (Kd.R_reads' HO471.out).2.2 | (with_reducible refine Kd.C_alloc ?_ _) | (with_reducible refine Kd.C_drewN ?_ _) | (with_reducible refine Kd.C_drew ?_))); (case side2 => exact (Kd.R_reads' HO471.out).2.1); rintro e w39 ⟨rfl, hb⟩; refine ⟨_, rfl, ?_⟩; replace HO471 := Aside0.mk (Kd.R_below (by (with_reducible repeat (first | apply Kd.R_alloc | apply Kd.R_drewN | apply Kd.R_drew)); exact HO471.out) hb); replace BK466 := bb BK466 hb; replace BK467 := bb BK467 hb; replace BK468 := bb BK468 hb; replace HB := bst HB hb; (try clear hb); (try clear hb2); (try clear hk); (try clear hi)))
    go_ret2
    exact rt HB
end
section
/-! ### grids_det: function 68 -/
def grids_det.f (a0_0 : Int) (a0_1 : Int) (a0_2 : Int) (a0_3 : Int) : Option (Int) := (some (wrap64 (a0_0 * a0_3))).bind fun z480 => ((some (wrap64 (a0_1 * a0_2))).bind fun z481 => ((some (wrap64 (z480 - z481))).bind fun z482 => (some z482)))
set_option maxHeartbeats 8000000 in
set_option maxRecDepth 100000 in
theorem grids_det.calls (a0_0 : Int) (a0_1 : Int) (a0_2 : Int) (a0_3 : Int) (r : Int) (w : World) (h : grids_det.f a0_0 a0_1 a0_2 a0_3 = some r) :
    Calls Try.prog 68 #[.agg #[.int .i64 a0_0, .int .i64 a0_1, .int .i64 a0_2, .int .i64 a0_3]] w fun e w' => e = .returned (.int .i64 r) ∧ Below w.heap.size w w' := by
  have hu25 := Try.underlying25
  have HB := Aside0.mk (Below.refl w.heap.size w)
  have H : ((some (wrap64 (a0_0 * a0_3))).bind fun z480 => ((some (wrap64 (a0_1 * a0_2))).bind fun z481 => ((some (wrap64 (z480 - z481))).bind fun z482 => (some z482)))) = some r := h
  clear h
  obtain ⟨z480, E20, H⟩ := oc H
  have E2w : (IntKind.i64.wrap (a0_0 * a0_3)) = z480 := (i64_w _).trans E20
  obtain ⟨z481, E30, H⟩ := oc H
  have E3w : (IntKind.i64.wrap (a0_1 * a0_2)) = z481 := (i64_w _).trans E30
  obtain ⟨z482, E40, H⟩ := oc H
  have E4w : (IntKind.i64.wrap (z480 - z481)) = z482 := (i64_w _).trans E40
  obtain rfl := Option.some.inj H
  go_enter Try.func68, Try.ntmps68
  go_wp2_with (first | ((with_reducible refine gate_dst (N := 1) rfl ?_); refine bx 1 #[.int .i64 a0_0, .int .i64 a0_1, .int .i64 a0_2, .int .i64 a0_3] 25 fun gb479 hg w5 BK479 hb => ?_; have GW479 := gw hg HB; have GE479 := gw hg HB; replace HB := bst HB hb; clear hb hg; have ⟨hcz6_0, hcz6_1, hcz6_2, hcz6_3, hfz6_0, hfz6_1, hfz6_2, hfz6_3⟩ := cf4 BK479))
  go_ret
  exact rt HB
end
section
/-! ### grids_inverse: function 57 -/
def grids_inverse.f (a0_0 : Int) (a0_1 : Int) (a0_2 : Int) (a0_3 : Int) : Option (Int × Int × Int × Int) := (grids_det.f a0_0 a0_1 a0_2 a0_3).bind fun t485 => ((some (wrap64 (t485 * a0_3))).bind fun z486 => ((some (wrap64 (-t485))).bind fun z487 => ((some (wrap64 (z487 * a0_1))).bind fun z488 => ((some (wrap64 (z487 * a0_2))).bind fun z489 => ((some (wrap64 (t485 * a0_0))).bind fun z490 => (some (z486, z488, z489, z490)))))))
set_option maxHeartbeats 8000000 in
set_option maxRecDepth 100000 in
theorem grids_inverse.calls (a0_0 : Int) (a0_1 : Int) (a0_2 : Int) (a0_3 : Int) (r1 : Int) (r2 : Int) (r3 : Int) (r4 : Int) (w : World) (h : grids_inverse.f a0_0 a0_1 a0_2 a0_3 = some (r1, r2, r3, r4)) :
    Calls Try.prog 57 #[.agg #[.int .i64 a0_0, .int .i64 a0_1, .int .i64 a0_2, .int .i64 a0_3]] w fun e w' => e = .returned (.agg #[.int .i64 r1, .int .i64 r2, .int .i64 r3, .int .i64 r4]) ∧ Below w.heap.size w w' := by
  have hu25 := Try.underlying25
  have HB := Aside0.mk (Below.refl w.heap.size w)
  have H : ((grids_det.f a0_0 a0_1 a0_2 a0_3).bind fun t485 => ((some (wrap64 (t485 * a0_3))).bind fun z486 => ((some (wrap64 (-t485))).bind fun z487 => ((some (wrap64 (z487 * a0_1))).bind fun z488 => ((some (wrap64 (z487 * a0_2))).bind fun z489 => ((some (wrap64 (t485 * a0_0))).bind fun z490 => (some (z486, z488, z489, z490)))))))) = some (r1, r2, r3, r4) := h
  clear h
  obtain ⟨t485, A2, H⟩ := ob H
  obtain ⟨z486, E30, H⟩ := oc H
  have E3w : (IntKind.i64.wrap (t485 * a0_3)) = z486 := (i64_w _).trans E30
  obtain ⟨z487, E40, H⟩ := oc H
  have E4w : (IntKind.i64.wrap (-t485)) = z487 := (i64_w _).trans E40
  obtain ⟨z488, E50, H⟩ := oc H
  have E5w : (IntKind.i64.wrap (z487 * a0_1)) = z488 := (i64_w _).trans E50
  obtain ⟨z489, E60, H⟩ := oc H
  have E6w : (IntKind.i64.wrap (z487 * a0_2)) = z489 := (i64_w _).trans E60
  obtain ⟨z490, E70, H⟩ := oc H
  have E7w : (IntKind.i64.wrap (t485 * a0_0)) = z490 := (i64_w _).trans E70
  simp only [Option.some.injEq, Prod.mk.injEq] at H
  obtain ⟨rfl, rfl, rfl, rfl⟩ := H
  go_enter Try.func57, Try.ntmps57
  go_wp2_with (first | ((with_reducible refine gate_dst (N := 1) rfl ?_); refine bx 1 #[.int .i64 a0_0, .int .i64 a0_1, .int .i64 a0_2, .int .i64 a0_3] 25 fun gb483 hg w8 BK483 hb => ?_; have GW483 := gw hg HB; have GE483 := gw hg HB; replace HB := bst HB hb; clear hb hg) | ((with_reducible refine gate_dst (N := 2) rfl ?_); refine bx 2 #[.int .i64 0, .int .i64 0, .int .i64 0, .int .i64 0] 25 fun gb484 hg w9 BK484 hb => ?_; have GW484 := gw hg HB; have GE484 := gw hg HB; have NB483_484 := nlt hg BK483; have NB484_483 := ngt hg BK483; replace BK483 := bb BK483 hb; replace HB := bst HB hb; clear hb hg; have hnb10 := NB483_484.out; have hnc10 := NB484_483.out; have ⟨hcz11_0, hcz11_1, hcz11_2, hcz11_3, hfz11_0, hfz11_1, hfz11_2, hfz11_3⟩ := cf4 BK483) | ((with_reducible refine gate_callee (f := 68) rfl ?_); refine gl 5 Try.func68 (grids_det.calls a0_0 a0_1 a0_2 a0_3 t485 _ A2.out) ?_; rintro e w12 ⟨rfl, hb⟩; refine ⟨_, rfl, ?_⟩; replace BK483 := bb BK483 hb; replace BK484 := bb BK484 hb; replace HB := bst HB hb; clear hb; have ⟨hcz13_0, hcz13_1, hcz13_2, hcz13_3, hfz13_0, hfz13_1, hfz13_2, hfz13_3⟩ := cf4 BK483; have ⟨hcz14_0, hcz14_1, hcz14_2, hcz14_3, hfz14_0, hfz14_1, hfz14_2, hfz14_3⟩ := cf4 BK484) | ((with_reducible refine gate_store (t := 25) (p := 2) rfl ?_); refine sx 25 2 (((((w12.setCell ⟨gb484, 0, none⟩ (.int .i64 z486)).setCell ⟨gb484, 1, none⟩ (.int .i64 z488)).setCell ⟨gb484, 2, none⟩ (.int .i64 z489)).setCell ⟨gb484, 3, none⟩ (.int .i64 z490))) fun w15 hw => ?_; replace BK483 := fw hw BK483; replace BK484 := pw4 hw BK484; replace HB := bw hw HB; clear hw))
  refine bodyPost_ret (results_cell_row rfl _ _ gb484 25 #[.int .i64 z486, .int .i64 z488, .int .i64 z489, .int .i64 z490] (0, 0) _ rfl (pk BK484) Try.underlying25 rfl (by kernel_rfl)) rfl ?_
  exact rt HB
end
section
/-! ### bits_Len: function 82 -/
/-- How many bits a number below 16 has; beyond, nothing is told. -/
def bits_Len.f (a0 : Int) : Option (Int) := if 0 ≤ a0 then if a0 < 1 then some 0 else if a0 < 2 then some 1 else if a0 < 4 then some 2 else if a0 < 8 then some 3 else if a0 < 16 then some 4 else none else none
set_option maxHeartbeats 8000000 in
set_option maxRecDepth 100000 in
theorem bits_Len.calls (a0 : Int) (r : Int) (w : World) (h : bits_Len.f a0 = some r) :
    Calls Try.prog 82 #[.int .u64 a0] w fun e w' => e = .returned (.int .i64 r) ∧ Drawn0 w w' := by
  unfold bits_Len.f at h
  have hr : 0 ≤ a0 ∧ a0 < 16 := by
    repeat' split at h
    all_goals first | omega | (exact absurd h (by simp))
  have hc : a0 = 0 ∨ a0 = 1 ∨ a0 = 2 ∨ a0 = 3 ∨ a0 = 4 ∨ a0 = 5 ∨ a0 = 6 ∨ a0 = 7 ∨ a0 = 8 ∨ a0 = 9 ∨ a0 = 10 ∨ a0 = 11 ∨ a0 = 12 ∨ a0 = 13 ∨ a0 = 14 ∨ a0 = 15 := by omega
  clear hr
  rcases hc with rfl | rfl | rfl | rfl | rfl | rfl | rfl | rfl | rfl | rfl | rfl | rfl | rfl | rfl | rfl | rfl
  all_goals
    simp at h
    subst h
    go_enter Try.func82, Try.ntmps82
    go_wp2
    go_ret
    exact ⟨by kernel_rfl, by repeat (first | exact Drawn0.refl _ | apply Drawn0.step)⟩
end
section
/-! ### api_GrMatrix_85: function 85 -/
mutual
def api_GrMatrix_85.l0 : Nat → List (S25) → Int → Int → Int → Option ((List (S25)))
  | 0, _, _, _, _ => none
  | k + 1, x0, x1, x2, x8 => if x8 < x2 then (api_GrMatrix_85.l1 k x0 x1 x2 x8 x8) else (some x0)
def api_GrMatrix_85.l1 : Nat → List (S25) → Int → Int → Int → Int → Option ((List (S25)))
  | 0, _, _, _, _, _ => none
  | k + 1, x0, x1, x2, x8, x9 => if x9 > x1 then (if 0 ≤ x9 then (if x9 < (x0.length : Int) then ((some (wrap64 (x9 - 1))).bind fun z493 => (if 0 ≤ z493 then (if z493 < (x0.length : Int) then ((grids_order.f k ((rd_T25 x0 x9).f0) ((rd_T25 x0 x9).f1) ((rd_T25 x0 x9).f2) ((rd_T25 x0 x9).f3) ((rd_T25 x0 z493).f0) ((rd_T25 x0 z493).f1) ((rd_T25 x0 z493).f2) ((rd_T25 x0 z493).f3)).bind fun t495 => (if t495 < 0 then (api_GrMatrix_85.l1 k ((x0.set (x9 : Int).toNat (⟨(rd_T25 x0 z493).f0, (rd_T25 x0 z493).f1, (rd_T25 x0 z493).f2, (rd_T25 x0 z493).f3⟩ : S25)).set (z493 : Int).toNat (⟨(rd_T25 x0 x9).f0, (rd_T25 x0 x9).f1, (rd_T25 x0 x9).f2, (rd_T25 x0 x9).f3⟩ : S25)) x1 x2 x8 z493) else ((some (wrap64 (x8 + 1))).bind fun z500 => (api_GrMatrix_85.l0 k x0 x1 x2 z500)))) else (none)) else (none))) else (none)) else (none)) else ((some (wrap64 (x8 + 1))).bind fun z501 => (api_GrMatrix_85.l0 k x0 x1 x2 z501))
end
def api_GrMatrix_85.f (k : Nat) (l0 : List (S25)) (a1 : Int) (a2 : Int)  : Option ((List (S25))) := (some (wrap64 (a1 + 1))).bind fun z491 => (api_GrMatrix_85.l0 k l0 a1 a2 z491)
theorem api_GrMatrix_85.mono_l : ∀ k, (∀ y0 y1 y2 y3, LeO (api_GrMatrix_85.l0 k y0 y1 y2 y3) (api_GrMatrix_85.l0 (k + 1) y0 y1 y2 y3)) ∧ (∀ y0 y1 y2 y3 y4, LeO (api_GrMatrix_85.l1 k y0 y1 y2 y3 y4) (api_GrMatrix_85.l1 (k + 1) y0 y1 y2 y3 y4))
  | 0 => ⟨fun _ _ _ _ r h => by simp [api_GrMatrix_85.l0] at h, fun _ _ _ _ _ r h => by simp [api_GrMatrix_85.l1] at h⟩
  | k + 1 => by
    obtain ⟨ih0, ih1⟩ := api_GrMatrix_85.mono_l k
    refine ⟨?_, ?_⟩
    · intro y0 y1 y2 y3
      unfold api_GrMatrix_85.l0
      repeat' first
      | (with_reducible exact ih0 _ _ _ _)
      | (with_reducible exact ih1 _ _ _ _ _)
      | (with_reducible exact grids_order.mono _ _ _ _ _ _ _ _ _)
      | (with_reducible exact LeO.refl _)
      | (with_reducible exact LeO.none _)
      | (with_reducible refine LeO.ite ?_ ?_)
      | (with_reducible refine LeO.bind ?_ (fun _ => ?_))
      | exact ih0 _ _ _ _
      | exact ih1 _ _ _ _ _
      | exact grids_order.mono _ _ _ _ _ _ _ _ _
      | exact LeO.none _
      | refine LeO.ite ?_ ?_
      | refine LeO.bind ?_ (fun _ => ?_)
    · intro y0 y1 y2 y3 y4
      unfold api_GrMatrix_85.l1
      repeat' first
      | (with_reducible exact ih0 _ _ _ _)
      | (with_reducible exact ih1 _ _ _ _ _)
      | (with_reducible exact grids_order.mono _ _ _ _ _ _ _ _ _)
      | (with_reducible exact LeO.refl _)
      | (with_reducible exact LeO.none _)
      | (with_reducible refine LeO.ite ?_ ?_)
      | (with_reducible refine LeO.bind ?_ (fun _ => ?_))
      | exact ih0 _ _ _ _
      | exact ih1 _ _ _ _ _
      | exact grids_order.mono _ _ _ _ _ _ _ _ _
      | exact LeO.none _
      | refine LeO.ite ?_ ?_
      | refine LeO.bind ?_ (fun _ => ?_)
theorem api_GrMatrix_85.mono : ∀ a0 a1 a2 k, LeO (api_GrMatrix_85.f k a0 a1 a2) (api_GrMatrix_85.f (k + 1) a0 a1 a2) := by
  intro a0 a1 a2 k
  obtain ⟨ih0, ih1⟩ := api_GrMatrix_85.mono_l k
  unfold api_GrMatrix_85.f
  repeat' first
      | (with_reducible exact ih0 _ _ _ _)
      | (with_reducible exact ih1 _ _ _ _ _)
      | (with_reducible exact grids_order.mono _ _ _ _ _ _ _ _ _)
      | (with_reducible exact LeO.refl _)
      | (with_reducible exact LeO.none _)
      | (with_reducible refine LeO.ite ?_ ?_)
      | (with_reducible refine LeO.bind ?_ (fun _ => ?_))
      | exact ih0 _ _ _ _
      | exact ih1 _ _ _ _ _
      | exact grids_order.mono _ _ _ _ _ _ _ _ _
      | exact LeO.none _
      | refine LeO.ite ?_ ?_
      | refine LeO.bind ?_ (fun _ => ?_)
def api_GrMatrix_85.T4 : Bool × List (List Nat × List Nat) := (true, [([], []), ([], []), ([0, 1], [0, 1]), ([2], [2]), ([3], [3]), ([3], [3]), ([3], [3]), ([5, 6, 3], [3, 5, 6]), ([7, 3], [3, 7]), ([3], [3]), ([3], [3]), ([10, 3], [3, 10]), ([9, 11, 3], [3, 9, 11]), ([12, 3], [3, 12]), ([4, 8, 13, 3, 3], [3, 4, 8, 13]), ([14, 3], [3, 14]), ([3, 15], [3, 15])])
def api_GrMatrix_85.B4 : List Nat := [0, 0, 3, 7, 15, 15, 15, 111, 239, 15, 15, 1039, 3599, 7695, 16383, 32767, 65535]
theorem api_GrMatrix_85.tab4 : rtab .any (opsOf Try.f85 4) = api_GrMatrix_85.T4 := by kernel_rfl
theorem api_GrMatrix_85.bits4 : waitsOk api_GrMatrix_85.T4.2 api_GrMatrix_85.B4 = true := by kernel_rfl
def api_GrMatrix_85.T6 : Bool × List (List Nat × List Nat) := (true, [([], []), ([], []), ([], []), ([], []), ([3], [3]), ([], []), ([], []), ([6], [6]), ([5, 7], [5, 7]), ([8], [8]), ([], []), ([], []), ([10, 11], [10, 11]), ([12], [12]), ([0, 1, 0, 1, 5, 6, 7, 8, 9, 13], [0, 1]), ([14, 9, 0, 1, 5, 6, 7, 8, 9, 13], [9, 14]), ([2, 4, 0, 1, 2, 3, 4, 5, 6, 7, 8, 9, 10, 11, 12, 13, 14, 15], [2, 4]), ([16, 13, 15, 0, 1, 2, 3, 4, 5, 6, 7, 8, 9, 10, 11, 12, 13, 14, 15], [13, 16])])
def api_GrMatrix_85.B6 : List Nat := [0, 0, 0, 0, 8, 0, 0, 64, 224, 480, 0, 0, 3072, 7168, 16355, 32739, 65535, 131071]
theorem api_GrMatrix_85.tab6 : rtab .any (opsOf Try.f85 6) = api_GrMatrix_85.T6 := by kernel_rfl
theorem api_GrMatrix_85.bits6 : waitsOk api_GrMatrix_85.T6.2 api_GrMatrix_85.B6 = true := by kernel_rfl
set_option maxHeartbeats 8000000 in
set_option maxRecDepth 100000 in
theorem api_GrMatrix_85.calls (k : Nat) (P0_ : Nat → Prop) (u9000_ : Value) (l0 : List (S25)) (a1 : Int) (a2 : Int)  (r : List (S25)) (w0 w : World) (hB : Below w0.heap.size w0 w) (ho0 : Kd.R k25 25 w w0.heap.size P0_ u9000_ l0) (h : api_GrMatrix_85.f k l0 a1 a2 = some r) :
    Calls Try.prog 85 #[u9000_, .int .i64 a1, .int .i64 a2, .func (.func 42) #[] #[]] w fun e w' => e = .returned (.tuple #[]) ∧ Kd.R k25 25 w' w0.heap.size (fun k_ => (P0_ k_ ∨ w.heap.size ≤ k_)) u9000_ r ∧ Below w0.heap.size w0 w' ∧ Kept w w' (fun k_ => P0_ k_) := by
  have hu25 := Try.underlying25
  have HO0 := Aside0.mk (show Kd.R k25 25 w w0.heap.size (fun k_ => (P0_ k_ ∨ w.heap.size ≤ k_)) u9000_ l0 from Kd.R_mono ho0 (fun k_ hk => (.inl hk)))
  have HK := Aside0.mk (Kept.refl w (fun k_ => P0_ k_))
  have HW0 := Aside0.mk hB.size
  have HB := Aside0.mk hB
  clear hB
  have H : ((some (wrap64 (a1 + 1))).bind fun z491 => (api_GrMatrix_85.l0 k l0 a1 a2 z491)) = some r := h
  clear h
  obtain ⟨z491, E50, H⟩ := oc H
  have E5w : (IntKind.i64.wrap (a1 + 1)) = z491 := (i64_w _).trans E50
  have H' := Aside0.mk H
  clear H
  go_enter Try.func85, Try.ntmps85
  go_wp2
  go_loopg [8] k (fun kq v8 w' => ∃ (x0_1 : List (S25)) (x8_1 : Int), v8 = .int .i64 x8_1 ∧ Aside0 (api_GrMatrix_85.l0 kq x0_1 a1 a2 x8_1 = some r) ∧ Aside0 (kq ≤ k) ∧ Aside0 (Kd.R k25 25 w' w0.heap.size (fun k_ => (P0_ k_ ∨ w.heap.size ≤ k_)) u9000_ x0_1) ∧ Aside0 (Kept w w' (fun k_ => P0_ k_)) ∧ Aside0 (Below w0.heap.size w0 w'))
  case atStart => exact ⟨(l0), (z491), (by first | rfl | (simp; done) | (simp [*]; done)), H', ⟨Nat.le_refl _⟩, ⟨by (with_reducible repeat (first | apply Kd.R_alloc | apply Kd.R_drewN | apply Kd.R_drew)); exact HO0.out⟩, ⟨by repeat (first | (with_reducible first | exact HK.out | apply Kept.alloc | apply Kept.drewN | apply Kept.drew) | exact HK.out)⟩, ⟨bnow HB⟩⟩
  case round =>
    clear H'
    try clear p2
    obtain ⟨x0_1, x8_1, rfl, HA, HK1, HO_0, HK, HB⟩ := hrel
    cases gk with
    | zero => exact absurd HA.out (by simp [api_GrMatrix_85.l0])
    | succ k1 =>
      have H := HA.out
      clear HA
      simp only [api_GrMatrix_85.l0] at H
      by_cases c6 : x8_1 < a2
      · rw [if_pos c6] at H
        have c6b0 : decide (x8_1 < a2) = true := decide_eq_true c6
        clear c6
        have H' := Aside0.mk H
        clear H
        go_wp2
        go_loopg [9] k1 (fun kq v9 w' => ∃ (x0_2 : List (S25)) (x9_2 : Int), v9 = .int .i64 x9_2 ∧ Aside0 (api_GrMatrix_85.l1 kq x0_2 a1 a2 x8_1 x9_2 = some r) ∧ Aside0 (kq ≤ k1) ∧ Aside0 (Kd.R k25 25 w' w0.heap.size (fun k_ => (P0_ k_ ∨ w.heap.size ≤ k_)) u9000_ x0_2) ∧ Aside0 (Kept w w' (fun k_ => P0_ k_)) ∧ Aside0 (Below w0.heap.size w0 w'))
        case atStart => exact ⟨(x0_1), (x8_1), (by first | rfl | (simp; done) | (simp [*]; done)), H', ⟨Nat.le_refl _⟩, ⟨by (with_reducible repeat (first | apply Kd.R_alloc | apply Kd.R_drewN | apply Kd.R_drew)); exact HO_0.out⟩, ⟨by repeat (first | (with_reducible first | exact HK.out | apply Kept.alloc | apply Kept.drewN | apply Kept.drew) | exact HK.out)⟩, ⟨bnow HB⟩⟩
        case round =>
          clear H'
          try clear p2; try clear c6; try clear c6b0; try clear p6; try clear p2
          obtain ⟨x0_2, x9_2, rfl, HA, HK2, HO_0, HK, HB⟩ := hrel
          cases gk with
          | zero => exact absurd HA.out (by simp [api_GrMatrix_85.l1])
          | succ k2 =>
            have H := HA.out
            clear HA
            simp only [api_GrMatrix_85.l1] at H
            by_cases c7 : x9_2 > a1
            · rw [if_pos c7] at H
              have c7b0 : decide (a1 < x9_2) = true := decide_eq_true c7
              clear c7
              by_cases c8 : 0 ≤ x9_2
              · rw [if_pos c8] at H
                have c8b0 : decide (0 ≤ x9_2) = true := decide_eq_true c8
                clear c8
                by_cases c9 : x9_2 < (x0_2.length : Int)
                · rw [if_pos c9] at H
                  have c9b0 : decide (x9_2 < (x0_2.length : Int)) = true := decide_eq_true c9
                  clear c9
                  obtain ⟨z493, E100, H⟩ := oc H
                  have E10w : (IntKind.i64.wrap (x9_2 - 1)) = z493 := (i64_w _).trans E100
                  by_cases c11 : 0 ≤ z493
                  · rw [if_pos c11] at H
                    have c11b0 : decide (0 ≤ z493) = true := decide_eq_true c11
                    clear c11
                    by_cases c12 : z493 < (x0_2.length : Int)
                    · rw [if_pos c12] at H
                      have c12b0 : decide (z493 < (x0_2.length : Int)) = true := decide_eq_true c12
                      clear c12
                      obtain ⟨t495, A13, H⟩ := ob H
                      by_cases c14 : t495 < 0
                      · rw [if_pos c14] at H
                        have c14b0 : decide (t495 < 0) = true := decide_eq_true c14
                        clear c14
                        obtain ⟨y498, hy498⟩ : ∃ y_ : List (S25), y_ = (x0_2.set (x9_2 : Int).toNat (⟨(rd_T25 x0_2 z493).f0, (rd_T25 x0_2 z493).f1, (rd_T25 x0_2 z493).f2, (rd_T25 x0_2 z493).f3⟩ : S25)) := ⟨_, rfl⟩
                        replace H : (api_GrMatrix_85.l1 k2 (y498.set (z493 : Int).toNat (⟨(rd_T25 x0_2 x9_2).f0, (rd_T25 x0_2 x9_2).f1, (rd_T25 x0_2 x9_2).f2, (rd_T25 x0_2 x9_2).f3⟩ : S25)) a1 a2 x8_1 z493) = some r := by first | (rw [hy498]; with_reducible exact H) | (have H2_ := (Option.bind_some _ _).symm.trans H; rw [hy498]; with_reducible exact H2_) | (have H2_ := (Option.bind_some _ _).symm.trans H; with_reducible exact H2_) | with_reducible exact H | (rw [hy498]; exact H) | exact H
                        have Ny498 := Aside0.mk hy498
                        clear hy498
                        obtain ⟨y499, hy499⟩ : ∃ y_ : List (S25), y_ = (y498.set (z493 : Int).toNat (⟨(rd_T25 x0_2 x9_2).f0, (rd_T25 x0_2 x9_2).f1, (rd_T25 x0_2 x9_2).f2, (rd_T25 x0_2 x9_2).f3⟩ : S25)) := ⟨_, rfl⟩
                        replace H : (api_GrMatrix_85.l1 k2 y499 a1 a2 x8_1 z493) = some r := by first | (rw [hy499]; with_reducible exact H) | (have H2_ := (Option.bind_some _ _).symm.trans H; rw [hy499]; with_reducible exact H2_) | (have H2_ := (Option.bind_some _ _).symm.trans H; with_reducible exact H2_) | with_reducible exact H | (rw [hy499]; exact H) | exact H
                        have Ny499 := Aside0.mk hy499
                        clear hy499
                        have H' := Aside0.mk H
                        clear H
                        (try have hpz493 : z493.toNat < x9_2.toNat := wrap_pred E100 (of_decide_eq_true (by assumption)) (of_decide_eq_true (by assumption)))
                        try go_wp2
                        replace HO_0 := Aside0.mk (Kd.R_drew HO_0.out)
                        replace HK := Aside0.mk (Kept.drew HK.out)
                        replace HB := bdn HB
                        obtain ⟨Ao18, co18, eo18⟩ := Kd.R_slice HO_0.out
                        (first | subst eo18 | (injection eo18 with f1_ f2_ f3_; have f4_ := f1_.symm; have f5_ := f3_.symm; clear f1_ f2_ f3_; subst f4_; subst f5_))
                        have p492 : 0 ≤ (x9_2 : Int) := of_decide_eq_true (by first | (with_reducible assumption) | assumption)
                        have q492 : x9_2 < (x0_2.length : Int) := of_decide_eq_true (by first | (with_reducible assumption) | assumption)
                        obtain ⟨ad492, e492, hx492_0, hx492_1, hx492_2, hx492_3⟩ := at_T25 (Kd.R_reads' HO_0.out).2.2 x9_2 p492 q492
                        cases e492
                        replace p492 := eq_true p492
                        replace q492 := eq_true q492
                        have p494 : 0 ≤ (z493 : Int) := of_decide_eq_true (by first | (with_reducible assumption) | assumption)
                        have q494 : z493 < (x0_2.length : Int) := of_decide_eq_true (by first | (with_reducible assumption) | assumption)
                        obtain ⟨ad494, e494, hx494_0, hx494_1, hx494_2, hx494_3⟩ := at_T25 (Kd.R_reads' HO_0.out).2.2 z493 p494 q494
                        obtain rfl : ad492 = ad494 := (by injection e494)
                        replace p494 := eq_true p494
                        replace q494 := eq_true q494
                        refine start_ (n := 17) (S := fun w' => w'.cell? (ad492.add ((x9_2).toNat * 4)) = some (.int .i64 ((rd_T25 x0_2 x9_2).f0)) ∧ w'.cell? ⟨(ad492.add ((x9_2).toNat * 4)).block, (ad492.add ((x9_2).toNat * 4)).off + 1, none⟩ = some (.int .i64 ((rd_T25 x0_2 x9_2).f1)) ∧ w'.cell? ⟨(ad492.add ((x9_2).toNat * 4)).block, (ad492.add ((x9_2).toNat * 4)).off + 2, none⟩ = some (.int .i64 ((rd_T25 x0_2 x9_2).f2)) ∧ w'.cell? ⟨(ad492.add ((x9_2).toNat * 4)).block, (ad492.add ((x9_2).toNat * 4)).off + 3, none⟩ = some (.int .i64 ((rd_T25 x0_2 x9_2).f3)) ∧ w'.cell? (ad492.add ((z493).toNat * 4)) = some (.int .i64 ((rd_T25 x0_2 z493).f0)) ∧ w'.cell? ⟨(ad492.add ((z493).toNat * 4)).block, (ad492.add ((z493).toNat * 4)).off + 1, none⟩ = some (.int .i64 ((rd_T25 x0_2 z493).f1)) ∧ w'.cell? ⟨(ad492.add ((z493).toNat * 4)).block, (ad492.add ((z493).toNat * 4)).off + 2, none⟩ = some (.int .i64 ((rd_T25 x0_2 z493).f2)) ∧ w'.cell? ⟨(ad492.add ((z493).toNat * 4)).block, (ad492.add ((z493).toNat * 4)).off + 3, none⟩ = some (.int .i64 ((rd_T25 x0_2 z493).f3))) (ds := []) #[false, false, false, false, false, false, false, false, false, false, false, false, false, false, false, false, false] (by kernel_rfl) rfl rfl ⟨hx492_0, hx492_1, hx492_2, hx492_3, hx494_0, hx494_1, hx494_2, hx494_3⟩ (fun hHeld => ?_); refine with_tabW api_GrMatrix_85.tab4 api_GrMatrix_85.bits4 (fun HT_ HW_ => ?_)
                        generalize wr.drew = w17 at HO_0 HK HB hx492_0 hx492_1 hx492_2 hx492_3 hx494_0 hx494_1 hx494_2 hx494_3 hHeld ⊢
                        refine pz 0 18 HT_ ?_
                        refine pz 1 19 HT_ ?_
                        refine pz 2 20 HT_ ?_
                        refine pz 3 21 HT_ ?_
                        refine pz 4 22 HT_ ?_
                        refine pz 5 23 HT_ ?_
                        refine pz 6 24 HT_ ?_
                        refine pz 7 25 HT_ ?_
                        refine pz 9 27 HT_ ?_
                        refine pz 10 28 HT_ ?_
                        refine pz 11 29 HT_ ?_
                        refine pz 12 30 HT_ ?_
                        refine tz 8 26 HT_ HW_ hHeld ?_
                        refine tz 13 31 HT_ HW_ hHeld ?_
                        refine one_ (i := 14) (N := some 32) #[true, true, true, true, true, true, true, true, true, true, true, true, true, true, true, false, false] rfl rfl (one_of HT_.out (by kernel_rfl)) (by decide) (fun K hK => ?_)
                        refine goesV_ Try.func42 (by kernel_rfl) rfl #[.agg #[.int .i64 ((rd_T25 x0_2 x9_2).f0), .int .i64 ((rd_T25 x0_2 x9_2).f1), .int .i64 ((rd_T25 x0_2 x9_2).f2), .int .i64 ((rd_T25 x0_2 x9_2).f3)], .agg #[.int .i64 ((rd_T25 x0_2 z493).f0), .int .i64 ((rd_T25 x0_2 z493).f1), .int .i64 ((rd_T25 x0_2 z493).f2), .int .i64 ((rd_T25 x0_2 z493).f3)]] (by rfl) rfl rfl (by rfl) am ?_
                        with_reducible refine (grids_order.calls k2 ((rd_T25 x0_2 x9_2).f0) ((rd_T25 x0_2 x9_2).f1) ((rd_T25 x0_2 x9_2).f2) ((rd_T25 x0_2 x9_2).f3) ((rd_T25 x0_2 z493).f0) ((rd_T25 x0_2 z493).f1) ((rd_T25 x0_2 z493).f2) ((rd_T25 x0_2 z493).f3) t495 _ A13.out).mono ?_
                        rintro e w19 ⟨rfl, hb⟩
                        have HS0_ := (hb.cell (World.block_lt_of_cell? _ _ (hHeld.1))).trans (hHeld.1)
                        have HS1_ := (hb.cell (World.block_lt_of_cell? _ _ (hHeld.2.1))).trans (hHeld.2.1)
                        have HS2_ := (hb.cell (World.block_lt_of_cell? _ _ (hHeld.2.2.1))).trans (hHeld.2.2.1)
                        have HS3_ := (hb.cell (World.block_lt_of_cell? _ _ (hHeld.2.2.2.1))).trans (hHeld.2.2.2.1)
                        have HS4_ := (hb.cell (World.block_lt_of_cell? _ _ (hHeld.2.2.2.2.1))).trans (hHeld.2.2.2.2.1)
                        have HS5_ := (hb.cell (World.block_lt_of_cell? _ _ (hHeld.2.2.2.2.2.1))).trans (hHeld.2.2.2.2.2.1)
                        have HS6_ := (hb.cell (World.block_lt_of_cell? _ _ (hHeld.2.2.2.2.2.2.1))).trans (hHeld.2.2.2.2.2.2.1)
                        have HS7_ := (hb.cell (World.block_lt_of_cell? _ _ (hHeld.2.2.2.2.2.2.2))).trans (hHeld.2.2.2.2.2.2.2)
                        refine ⟨_, rfl, ?_⟩
                        have n0_ := Aside0.mk (Kd.R_below (by (with_reducible repeat (first | apply Kd.R_alloc | apply Kd.R_drewN | apply Kd.R_drew)); exact HO_0.out) hb)
                        have n1_ := Aside0.mk (Kept.below (S := (fun k_ => P0_ k_)) (by repeat (first | (with_reducible first | exact HK.out | apply Kept.alloc | apply Kept.drewN | apply Kept.drew) | exact HK.out)) hb)
                        have n2_ := bst HB hb
                        clear HO_0
                        clear HK
                        clear HB
                        have HO_0 := n0_
                        have HK := n1_
                        have HB := n2_
                        clear n0_ n1_ n2_
                        (try clear hb)
                        (try clear hb2)
                        (try clear hk)
                        (try clear hi)
                        refine hK.out _ _ ⟨HS0_, HS1_, HS2_, HS3_, HS4_, HS5_, HS6_, HS7_⟩ (fun hHeld => ?_)
                        clear hK K
                        refine norm_ (a' := ?_) ?_ ?_
                        rotate_left
                        · show Act.put _ (some 32) _ = _
                          simp only [Act.put, List.setIfInBounds_toArray, List.set_cons_zero, List.set_cons_succ, i64_w, i32_w]
                          rfl
                        refine pz 15 33 HT_ ?_
                        refine pz 16 34 HT_ ?_
                        refine done_ (done_of HT_.out (by kernel_rfl)) ?_
                        try go_wp2
                        replace HO_0 := Aside0.mk (Kd.R_drew HO_0.out)
                        replace HK := Aside0.mk (Kept.drew HK.out)
                        replace HB := bdn HB
                        have p496 : 0 ≤ (z493 : Int) := of_decide_eq_true (by first | (with_reducible assumption) | assumption)
                        have q496 : z493 < (x0_2.length : Int) := of_decide_eq_true (by first | (with_reducible assumption) | assumption)
                        obtain ⟨ad496, e496, hx496_0, hx496_1, hx496_2, hx496_3⟩ := at_T25 (Kd.R_reads' HO_0.out).2.2 z493 p496 q496
                        obtain rfl : ad492 = ad496 := (by injection e496)
                        replace p496 := eq_true p496
                        replace q496 := eq_true q496
                        have p497 : 0 ≤ (x9_2 : Int) := of_decide_eq_true (by first | (with_reducible assumption) | assumption)
                        have q497 : x9_2 < (x0_2.length : Int) := of_decide_eq_true (by first | (with_reducible assumption) | assumption)
                        obtain ⟨ad497, e497, hx497_0, hx497_1, hx497_2, hx497_3⟩ := at_T25 (Kd.R_reads' HO_0.out).2.2 x9_2 p497 q497
                        obtain rfl : ad492 = ad497 := (by injection e497)
                        replace p497 := eq_true p497
                        replace q497 := eq_true q497
                        have p15 : 0 ≤ (x9_2 : Int) := of_decide_eq_true (by first | (with_reducible assumption) | assumption)
                        have q15 : (x9_2 : Int) < ((x0_2.length : Int) : Int) := of_decide_eq_true (by first | (with_reducible assumption) | assumption)
                        obtain ⟨go15, co15, eo15, gb15, gl15, cl15, HG15⟩ := Kd.R_form HO_0.out (by omega)
                        (first | cases eo15 | (injection eo15 with ea_ en_ ec_; (first | subst ea_ | (injection ea_ with ea_; subst ea_)); subst ec_; clear en_))
                        have GB15 := Aside0.mk gb15
                        have GG15 := Aside0.mk HG15
                        clear gb15 gl15 HG15
                        have HMgo15 := Aside0.mk (show (P0_ go15 ∨ w.heap.size ≤ go15) from (HO_0.out.1 _ rfl))
                        (first | simp only [add_plain] at hx492_0 | skip)
                        (first | simp only [add_plain] at hx492_1 | skip)
                        (first | simp only [add_plain] at hx492_2 | skip)
                        (first | simp only [add_plain] at hx492_3 | skip)
                        (first | simp only [add_plain] at hx494_0 | skip)
                        (first | simp only [add_plain] at hx494_1 | skip)
                        (first | simp only [add_plain] at hx494_2 | skip)
                        (first | simp only [add_plain] at hx494_3 | skip)
                        (first | simp only [add_plain] at hx496_0 | skip)
                        (first | simp only [add_plain] at hx496_1 | skip)
                        (first | simp only [add_plain] at hx496_2 | skip)
                        (first | simp only [add_plain] at hx496_3 | skip)
                        (first | simp only [add_plain] at hx497_0 | skip)
                        (first | simp only [add_plain] at hx497_1 | skip)
                        (first | simp only [add_plain] at hx497_2 | skip)
                        (first | simp only [add_plain] at hx497_3 | skip)
                        obtain ⟨ce15, hcl15, hM15, hcc15, hfr15⟩ := Kd.R_elem HO_0.out z25 (x9_2 : Int) p15 q15
                        obtain rfl := k25_openM hM15
                        have hx15_0 : World.cell? _ ⟨go15, (x9_2 : Int).toNat * 4, none⟩ = some (.int .i64 ((rd_T25 x0_2 x9_2).f0)) := hcc15 0 _ rfl
                        have hx15_1 : World.cell? _ ⟨go15, (x9_2 : Int).toNat * 4 + 1, none⟩ = some (.int .i64 ((rd_T25 x0_2 x9_2).f1)) := hcc15 1 _ rfl
                        have hx15_2 : World.cell? _ ⟨go15, (x9_2 : Int).toNat * 4 + 2, none⟩ = some (.int .i64 ((rd_T25 x0_2 x9_2).f2)) := hcc15 2 _ rfl
                        have hx15_3 : World.cell? _ ⟨go15, (x9_2 : Int).toNat * 4 + 3, none⟩ = some (.int .i64 ((rd_T25 x0_2 x9_2).f3)) := hcc15 3 _ rfl
                        have hf15_0 : World.frozen? _ ⟨go15, (x9_2 : Int).toNat * 4, none⟩ = false := hfr15 0
                        have hf15_1 : World.frozen? _ ⟨go15, (x9_2 : Int).toNat * 4 + 1, none⟩ = false := hfr15 1
                        have hf15_2 : World.frozen? _ ⟨go15, (x9_2 : Int).toNat * 4 + 2, none⟩ = false := hfr15 2
                        have hf15_3 : World.frozen? _ ⟨go15, (x9_2 : Int).toNat * 4 + 3, none⟩ = false := hfr15 3
                        (try rw [World.frozen?_setCells] at hf15_0)
                        (try rw [World.frozen?_setCells] at hf15_1)
                        (try rw [World.frozen?_setCells] at hf15_2)
                        (try rw [World.frozen?_setCells] at hf15_3)
                        clear hcl15 hcc15 hfr15 hM15
                        replace p15 := eq_true p15
                        replace q15 := eq_true q15
                        obtain ⟨ce21, hcl21, hM21, hcc21, hfr21⟩ := Kd.R_elem HO_0.out z25 (x9_2 : Int) (of_decide_eq_true (by first | (with_reducible assumption) | assumption)) (by have h_ : (x9_2 : Int) < ((x0_2.length : Int) : Int) := of_decide_eq_true (by first | (with_reducible assumption) | assumption); first | exact h_ | (have e_ := (Kd.R_reads' HO_0.out).1; omega) | simpa using h_)
                        obtain rfl := k25_openM hM21
                        have HP21 := (Kd.R_seg HO_0.out (x9_2 : Int) (of_decide_eq_true (by first | (with_reducible assumption) | assumption)) (by have h_ : (x9_2 : Int) < ((x0_2.length : Int) : Int) := of_decide_eq_true (by first | (with_reducible assumption) | assumption); first | exact h_ | (have e_ := (Kd.R_reads' HO_0.out).1; omega) | simpa using h_) (seg := [.int .i64 ((rd_T25 x0_2 z493).f0), .int .i64 ((rd_T25 x0_2 z493).f1), .int .i64 ((rd_T25 x0_2 z493).f2), .int .i64 ((rd_T25 x0_2 z493).f3)]) (j := 0) hcl21 hcc21 (show 4 ≤ 4 from by decide) (x' := (⟨(rd_T25 x0_2 z493).f0, (rd_T25 x0_2 z493).f1, (rd_T25 x0_2 z493).f2, (rd_T25 x0_2 z493).f3⟩ : S25)) (k25_mkM _ _ _ (⟨(rd_T25 x0_2 z493).f0, (rd_T25 x0_2 z493).f1, (rd_T25 x0_2 z493).f2, (rd_T25 x0_2 z493).f3⟩ : S25) ) (fun _ hk => hk)).1
                        rw [← Ny498.out] at HP21
                        have HQ21 := Aside0.mk HP21
                        clear hcl21 hcc21 hfr21 hM21 HP21
                        have p16 : 0 ≤ (z493 : Int) := of_decide_eq_true (by first | (with_reducible assumption) | assumption)
                        have q16 : (z493 : Int) < ((x0_2.length : Int) : Int) := of_decide_eq_true (by first | (with_reducible assumption) | assumption)
                        obtain ⟨ce16, hcl16, hM16, hcc16, hfr16⟩ := Kd.R_elem HQ21.out z25 (z493 : Int) p16 q16
                        obtain rfl := k25_openM hM16
                        have hx16_0 : World.cell? _ ⟨go15, (z493 : Int).toNat * 4, none⟩ = some (.int .i64 ((rd_T25 y498 z493).f0)) := hcc16 0 _ rfl
                        have hx16_1 : World.cell? _ ⟨go15, (z493 : Int).toNat * 4 + 1, none⟩ = some (.int .i64 ((rd_T25 y498 z493).f1)) := hcc16 1 _ rfl
                        have hx16_2 : World.cell? _ ⟨go15, (z493 : Int).toNat * 4 + 2, none⟩ = some (.int .i64 ((rd_T25 y498 z493).f2)) := hcc16 2 _ rfl
                        have hx16_3 : World.cell? _ ⟨go15, (z493 : Int).toNat * 4 + 3, none⟩ = some (.int .i64 ((rd_T25 y498 z493).f3)) := hcc16 3 _ rfl
                        have hf16_0 : World.frozen? _ ⟨go15, (z493 : Int).toNat * 4, none⟩ = false := hfr16 0
                        have hf16_1 : World.frozen? _ ⟨go15, (z493 : Int).toNat * 4 + 1, none⟩ = false := hfr16 1
                        have hf16_2 : World.frozen? _ ⟨go15, (z493 : Int).toNat * 4 + 2, none⟩ = false := hfr16 2
                        have hf16_3 : World.frozen? _ ⟨go15, (z493 : Int).toNat * 4 + 3, none⟩ = false := hfr16 3
                        (try rw [World.frozen?_setCells] at hf16_0)
                        (try rw [World.frozen?_setCells] at hf16_1)
                        (try rw [World.frozen?_setCells] at hf16_2)
                        (try rw [World.frozen?_setCells] at hf16_3)
                        clear hcl16 hcc16 hfr16 hM16
                        replace p16 := eq_true p16
                        replace q16 := eq_true q16
                        obtain ⟨ce22, hcl22, hM22, hcc22, hfr22⟩ := Kd.R_elem HQ21.out z25 (z493 : Int) (of_decide_eq_true (by first | (with_reducible assumption) | assumption)) (by have h_ : (z493 : Int) < ((x0_2.length : Int) : Int) := of_decide_eq_true (by first | (with_reducible assumption) | assumption); first | exact h_ | (have e_ := (Kd.R_reads' HO_0.out).1; omega) | simpa using h_)
                        obtain rfl := k25_openM hM22
                        have HP22 := (Kd.R_seg HQ21.out (z493 : Int) (of_decide_eq_true (by first | (with_reducible assumption) | assumption)) (by have h_ : (z493 : Int) < ((x0_2.length : Int) : Int) := of_decide_eq_true (by first | (with_reducible assumption) | assumption); first | exact h_ | (have e_ := (Kd.R_reads' HO_0.out).1; omega) | simpa using h_) (seg := [.int .i64 ((rd_T25 x0_2 x9_2).f0), .int .i64 ((rd_T25 x0_2 x9_2).f1), .int .i64 ((rd_T25 x0_2 x9_2).f2), .int .i64 ((rd_T25 x0_2 x9_2).f3)]) (j := 0) hcl22 hcc22 (show 4 ≤ 4 from by decide) (x' := (⟨(rd_T25 x0_2 x9_2).f0, (rd_T25 x0_2 x9_2).f1, (rd_T25 x0_2 x9_2).f2, (rd_T25 x0_2 x9_2).f3⟩ : S25)) (k25_mkM _ _ _ (⟨(rd_T25 x0_2 x9_2).f0, (rd_T25 x0_2 x9_2).f1, (rd_T25 x0_2 x9_2).f2, (rd_T25 x0_2 x9_2).f3⟩ : S25) ) (fun _ hk => hk)).1
                        rw [← Ny499.out] at HP22
                        have HQ22 := Aside0.mk HP22
                        clear hcl22 hcc22 hfr22 hM22 HP22
                        refine start_ (n := 18) (S := fun w' => w'.cell? ⟨go15, ((z493).toNat * 4), none⟩ = some (.int .i64 ((rd_T25 x0_2 z493).f0)) ∧ w'.cell? ⟨go15, ((z493).toNat * 4) + 1, none⟩ = some (.int .i64 ((rd_T25 x0_2 z493).f1)) ∧ w'.cell? ⟨go15, ((z493).toNat * 4) + 2, none⟩ = some (.int .i64 ((rd_T25 x0_2 z493).f2)) ∧ w'.cell? ⟨go15, ((z493).toNat * 4) + 3, none⟩ = some (.int .i64 ((rd_T25 x0_2 z493).f3)) ∧ w'.cell? ⟨go15, ((x9_2).toNat * 4), none⟩ = some (.int .i64 ((rd_T25 x0_2 x9_2).f0)) ∧ w'.cell? ⟨go15, ((x9_2).toNat * 4) + 1, none⟩ = some (.int .i64 ((rd_T25 x0_2 x9_2).f1)) ∧ w'.cell? ⟨go15, ((x9_2).toNat * 4) + 2, none⟩ = some (.int .i64 ((rd_T25 x0_2 x9_2).f2)) ∧ w'.cell? ⟨go15, ((x9_2).toNat * 4) + 3, none⟩ = some (.int .i64 ((rd_T25 x0_2 x9_2).f3))) (ds := [15, 17]) #[false, false, false, false, false, false, false, false, false, false, false, false, false, false, false, false, false, false] (by kernel_rfl) rfl rfl ⟨hx496_0, hx496_1, hx496_2, hx496_3, hx497_0, hx497_1, hx497_2, hx497_3⟩ (fun hHeld => ?_); refine with_tabW api_GrMatrix_85.tab6 api_GrMatrix_85.bits6 (fun HT_ HW_ => ?_)
                        generalize w19.drew = w20 at HO_0 HK HB GG15 HQ21 HQ22 hf15_0 hf15_1 hf15_2 hf15_3 hf16_0 hf16_1 hf16_2 hf16_3 hx15_0 hx15_1 hx15_2 hx15_3 hx16_0 hx16_1 hx16_2 hx16_3 hx492_0 hx492_1 hx492_2 hx492_3 hx494_0 hx494_1 hx494_2 hx494_3 hx496_0 hx496_1 hx496_2 hx496_3 hx497_0 hx497_1 hx497_2 hx497_3 hHeld ⊢
                        refine pz 0 37 HT_ ?_
                        refine pz 1 38 HT_ ?_
                        refine pz 2 39 HT_ ?_
                        refine pz 3 40 HT_ ?_
                        refine pz 4 41 HT_ ?_
                        refine pz 5 42 HT_ ?_
                        refine pz 6 43 HT_ ?_
                        refine pz 7 44 HT_ ?_
                        refine pz 8 45 HT_ ?_
                        refine pz 10 47 HT_ ?_
                        refine pz 11 48 HT_ ?_
                        refine pz 12 49 HT_ ?_
                        refine tz 9 46 HT_ HW_ hHeld ?_
                        refine tz 13 50 HT_ HW_ hHeld ?_
                        refine pz 14 51 HT_ ?_
                        refine last_ (i := 15) (N := none) #[true, true, true, true, true, true, true, true, true, true, true, true, true, true, true, true, false, false] rfl rfl (one_of HT_.out (by kernel_rfl)) (by decide) (fun K hK => ?_)
                        refine skip_ (w1 := ?_) (by rfl) rfl ?_ ?_
                        rotate_left
                        · go_simp
                          rfl
                        refine hK.out _ _ ?_
                        clear hK K
                        refine pz 16 52 HT_ ?_
                        refine last_ (i := 17) (N := none) #[true, true, true, true, true, true, true, true, true, true, true, true, true, true, true, true, true, true] rfl rfl (one_of HT_.out (by kernel_rfl)) (by decide) (fun K hK => ?_)
                        refine skip_ (w1 := ?_) (by rfl) rfl ?_ ?_
                        rotate_left
                        · go_simp
                          rfl
                        refine hK.out _ _ ?_
                        clear hK K
                        refine done_ (done_of HT_.out (by kernel_rfl)) ?_
                        try go_wp2
                        go_roundg k2
                        case measure => have := HK1.out; have := HK2.out; omega
                        case rel => exact ⟨(y499), (z493), (by first | rfl | (simp; done) | (simp [*]; done)), H', ⟨by have := HK1.out; have := HK2.out; omega⟩, ⟨by (with_reducible repeat (first | apply Kd.R_alloc | apply Kd.R_drewN | apply Kd.R_drew)); exact HQ22.out⟩, ⟨by repeat (first | (with_reducible first | exact HK.out | apply Kept.alloc | apply Kept.drewN | apply Kept.drew | refine Kept.setCell ?_ HMgo15.out _ | refine Kept.setCell ?_ HMgo15.out _ | refine Kept.setCell ?_ HMgo15.out _ | refine Kept.setCell ?_ HMgo15.out _ | refine Kept.setCell ?_ HMgo15.out _ | refine Kept.setCell ?_ HMgo15.out _ | refine Kept.setCell ?_ HMgo15.out _ | refine Kept.setCell ?_ HMgo15.out _) | exact HK.out)⟩, ⟨by repeat (first | (with_reducible first | exact HB.out | apply below_alloc | apply pw_below_drewN | apply below_drew1 | refine below_set ?_ GB15.out | refine below_set ?_ GB15.out | refine below_set ?_ GB15.out | refine below_set ?_ GB15.out | refine below_set ?_ GB15.out | refine below_set ?_ GB15.out | refine below_set ?_ GB15.out | refine below_set ?_ GB15.out) | exact HB.out)⟩⟩
                      · rw [if_neg c14] at H
                        have c14b0 : decide (t495 < 0) = false := decide_eq_false c14
                        clear c14
                        obtain ⟨z500, E230, H⟩ := oc H
                        have E23w : (IntKind.i64.wrap (x8_1 + 1)) = z500 := (i64_w _).trans E230
                        have H' := Aside0.mk H
                        clear H
                        (try have hpz493 : z493.toNat < x9_2.toNat := wrap_pred E100 (of_decide_eq_true (by assumption)) (of_decide_eq_true (by assumption)))
                        try go_wp2
                        replace HO_0 := Aside0.mk (Kd.R_drew HO_0.out)
                        replace HK := Aside0.mk (Kept.drew HK.out)
                        replace HB := bdn HB
                        obtain ⟨Ao25, co25, eo25⟩ := Kd.R_slice HO_0.out
                        (first | subst eo25 | (injection eo25 with f1_ f2_ f3_; have f4_ := f1_.symm; have f5_ := f3_.symm; clear f1_ f2_ f3_; subst f4_; subst f5_))
                        have p492 : 0 ≤ (x9_2 : Int) := of_decide_eq_true (by first | (with_reducible assumption) | assumption)
                        have q492 : x9_2 < (x0_2.length : Int) := of_decide_eq_true (by first | (with_reducible assumption) | assumption)
                        obtain ⟨ad492, e492, hx492_0, hx492_1, hx492_2, hx492_3⟩ := at_T25 (Kd.R_reads' HO_0.out).2.2 x9_2 p492 q492
                        cases e492
                        replace p492 := eq_true p492
                        replace q492 := eq_true q492
                        have p494 : 0 ≤ (z493 : Int) := of_decide_eq_true (by first | (with_reducible assumption) | assumption)
                        have q494 : z493 < (x0_2.length : Int) := of_decide_eq_true (by first | (with_reducible assumption) | assumption)
                        obtain ⟨ad494, e494, hx494_0, hx494_1, hx494_2, hx494_3⟩ := at_T25 (Kd.R_reads' HO_0.out).2.2 z493 p494 q494
                        obtain rfl : ad492 = ad494 := (by injection e494)
                        replace p494 := eq_true p494
                        replace q494 := eq_true q494
                        refine start_ (n := 17) (S := fun w' => w'.cell? (ad492.add ((x9_2).toNat * 4)) = some (.int .i64 ((rd_T25 x0_2 x9_2).f0)) ∧ w'.cell? ⟨(ad492.add ((x9_2).toNat * 4)).block, (ad492.add ((x9_2).toNat * 4)).off + 1, none⟩ = some (.int .i64 ((rd_T25 x0_2 x9_2).f1)) ∧ w'.cell? ⟨(ad492.add ((x9_2).toNat * 4)).block, (ad492.add ((x9_2).toNat * 4)).off + 2, none⟩ = some (.int .i64 ((rd_T25 x0_2 x9_2).f2)) ∧ w'.cell? ⟨(ad492.add ((x9_2).toNat * 4)).block, (ad492.add ((x9_2).toNat * 4)).off + 3, none⟩ = some (.int .i64 ((rd_T25 x0_2 x9_2).f3)) ∧ w'.cell? (ad492.add ((z493).toNat * 4)) = some (.int .i64 ((rd_T25 x0_2 z493).f0)) ∧ w'.cell? ⟨(ad492.add ((z493).toNat * 4)).block, (ad492.add ((z493).toNat * 4)).off + 1, none⟩ = some (.int .i64 ((rd_T25 x0_2 z493).f1)) ∧ w'.cell? ⟨(ad492.add ((z493).toNat * 4)).block, (ad492.add ((z493).toNat * 4)).off + 2, none⟩ = some (.int .i64 ((rd_T25 x0_2 z493).f2)) ∧ w'.cell? ⟨(ad492.add ((z493).toNat * 4)).block, (ad492.add ((z493).toNat * 4)).off + 3, none⟩ = some (.int .i64 ((rd_T25 x0_2 z493).f3))) (ds := []) #[false, false, false, false, false, false, false, false, false, false, false, false, false, false, false, false, false] (by kernel_rfl) rfl rfl ⟨hx492_0, hx492_1, hx492_2, hx492_3, hx494_0, hx494_1, hx494_2, hx494_3⟩ (fun hHeld => ?_); refine with_tabW api_GrMatrix_85.tab4 api_GrMatrix_85.bits4 (fun HT_ HW_ => ?_)
                        generalize wr.drew = w24 at HO_0 HK HB hx492_0 hx492_1 hx492_2 hx492_3 hx494_0 hx494_1 hx494_2 hx494_3 hHeld ⊢
                        refine pz 0 18 HT_ ?_
                        refine pz 1 19 HT_ ?_
                        refine pz 2 20 HT_ ?_
                        refine pz 3 21 HT_ ?_
                        refine pz 4 22 HT_ ?_
                        refine pz 5 23 HT_ ?_
                        refine pz 6 24 HT_ ?_
                        refine pz 7 25 HT_ ?_
                        refine pz 9 27 HT_ ?_
                        refine pz 10 28 HT_ ?_
                        refine pz 11 29 HT_ ?_
                        refine pz 12 30 HT_ ?_
                        refine tz 8 26 HT_ HW_ hHeld ?_
                        refine tz 13 31 HT_ HW_ hHeld ?_
                        refine one_ (i := 14) (N := some 32) #[true, true, true, true, true, true, true, true, true, true, true, true, true, true, true, false, false] rfl rfl (one_of HT_.out (by kernel_rfl)) (by decide) (fun K hK => ?_)
                        refine goesV_ Try.func42 (by kernel_rfl) rfl #[.agg #[.int .i64 ((rd_T25 x0_2 x9_2).f0), .int .i64 ((rd_T25 x0_2 x9_2).f1), .int .i64 ((rd_T25 x0_2 x9_2).f2), .int .i64 ((rd_T25 x0_2 x9_2).f3)], .agg #[.int .i64 ((rd_T25 x0_2 z493).f0), .int .i64 ((rd_T25 x0_2 z493).f1), .int .i64 ((rd_T25 x0_2 z493).f2), .int .i64 ((rd_T25 x0_2 z493).f3)]] (by rfl) rfl rfl (by rfl) am ?_
                        with_reducible refine (grids_order.calls k2 ((rd_T25 x0_2 x9_2).f0) ((rd_T25 x0_2 x9_2).f1) ((rd_T25 x0_2 x9_2).f2) ((rd_T25 x0_2 x9_2).f3) ((rd_T25 x0_2 z493).f0) ((rd_T25 x0_2 z493).f1) ((rd_T25 x0_2 z493).f2) ((rd_T25 x0_2 z493).f3) t495 _ A13.out).mono ?_
                        rintro e w26 ⟨rfl, hb⟩
                        have HS0_ := (hb.cell (World.block_lt_of_cell? _ _ (hHeld.1))).trans (hHeld.1)
                        have HS1_ := (hb.cell (World.block_lt_of_cell? _ _ (hHeld.2.1))).trans (hHeld.2.1)
                        have HS2_ := (hb.cell (World.block_lt_of_cell? _ _ (hHeld.2.2.1))).trans (hHeld.2.2.1)
                        have HS3_ := (hb.cell (World.block_lt_of_cell? _ _ (hHeld.2.2.2.1))).trans (hHeld.2.2.2.1)
                        have HS4_ := (hb.cell (World.block_lt_of_cell? _ _ (hHeld.2.2.2.2.1))).trans (hHeld.2.2.2.2.1)
                        have HS5_ := (hb.cell (World.block_lt_of_cell? _ _ (hHeld.2.2.2.2.2.1))).trans (hHeld.2.2.2.2.2.1)
                        have HS6_ := (hb.cell (World.block_lt_of_cell? _ _ (hHeld.2.2.2.2.2.2.1))).trans (hHeld.2.2.2.2.2.2.1)
                        have HS7_ := (hb.cell (World.block_lt_of_cell? _ _ (hHeld.2.2.2.2.2.2.2))).trans (hHeld.2.2.2.2.2.2.2)
                        refine ⟨_, rfl, ?_⟩
                        have n0_ := Aside0.mk (Kd.R_below (by (with_reducible repeat (first | apply Kd.R_alloc | apply Kd.R_drewN | apply Kd.R_drew)); exact HO_0.out) hb)
                        have n1_ := Aside0.mk (Kept.below (S := (fun k_ => P0_ k_)) (by repeat (first | (with_reducible first | exact HK.out | apply Kept.alloc | apply Kept.drewN | apply Kept.drew) | exact HK.out)) hb)
                        have n2_ := bst HB hb
                        clear HO_0
                        clear HK
                        clear HB
                        have HO_0 := n0_
                        have HK := n1_
                        have HB := n2_
                        clear n0_ n1_ n2_
                        (try clear hb)
                        (try clear hb2)
                        (try clear hk)
                        (try clear hi)
                        refine hK.out _ _ ⟨HS0_, HS1_, HS2_, HS3_, HS4_, HS5_, HS6_, HS7_⟩ (fun hHeld => ?_)
                        clear hK K
                        refine norm_ (a' := ?_) ?_ ?_
                        rotate_left
                        · show Act.put _ (some 32) _ = _
                          simp only [Act.put, List.setIfInBounds_toArray, List.set_cons_zero, List.set_cons_succ, i64_w, i32_w]
                          rfl
                        refine pz 15 33 HT_ ?_
                        refine pz 16 34 HT_ ?_
                        refine done_ (done_of HT_.out (by kernel_rfl)) ?_
                        try go_wp2
                        go_roundg k2
                        case measure => have := HK1.out; have := HK2.out; omega
                        case rel => exact ⟨(x0_2), (z500), (by first | rfl | (simp; done) | (simp [*]; done)), H', ⟨by have := HK1.out; have := HK2.out; omega⟩, ⟨by (with_reducible repeat (first | apply Kd.R_alloc | apply Kd.R_drewN | apply Kd.R_drew)); exact HO_0.out⟩, ⟨by repeat (first | (with_reducible first | exact HK.out | apply Kept.alloc | apply Kept.drewN | apply Kept.drew) | exact HK.out)⟩, ⟨bnow HB⟩⟩
                    · rw [if_neg c12] at H
                      exact absurd H (by simp)
                  · rw [if_neg c11] at H
                    exact absurd H (by simp)
                · rw [if_neg c9] at H
                  exact absurd H (by simp)
              · rw [if_neg c8] at H
                exact absurd H (by simp)
            · rw [if_neg c7] at H
              have c7b0 : decide (a1 < x9_2) = false := decide_eq_false c7
              clear c7
              obtain ⟨z501, E270, H⟩ := oc H
              have E27w : (IntKind.i64.wrap (x8_1 + 1)) = z501 := (i64_w _).trans E270
              have H' := Aside0.mk H
              clear H
              try go_wp2
              replace HO_0 := Aside0.mk (Kd.R_drew HO_0.out)
              replace HK := Aside0.mk (Kept.drew HK.out)
              replace HB := bdn HB
              refine start_ (n := 17) (S := fun w' => True) (ds := []) #[false, false, false, false, false, false, false, false, false, false, false, false, false, false, false, false, false] (by kernel_rfl) rfl rfl trivial (fun hHeld => ?_); refine with_tabW api_GrMatrix_85.tab4 api_GrMatrix_85.bits4 (fun HT_ HW_ => ?_)
              generalize wr.drew = w28 at HO_0 HK HB hHeld ⊢
              refine pz 0 18 HT_ ?_
              refine pz 1 19 HT_ ?_
              refine pz 2 20 HT_ ?_
              refine pz 3 21 HT_ ?_
              refine pu 4 22 HT_ ?_
              refine pu 5 23 HT_ ?_
              refine pu 6 24 HT_ ?_
              refine pu 7 25 HT_ ?_
              refine pu 8 26 HT_ ?_
              refine pu 9 27 HT_ ?_
              refine pu 10 28 HT_ ?_
              refine pu 11 29 HT_ ?_
              refine pu 12 30 HT_ ?_
              refine pu 13 31 HT_ ?_
              refine pu 14 32 HT_ ?_
              refine pu 15 33 HT_ ?_
              refine pz 16 34 HT_ ?_
              refine done_ (done_of HT_.out (by kernel_rfl)) ?_
              try go_wp2
              go_roundg k2
              case measure => have := HK1.out; have := HK2.out; omega
              case rel => exact ⟨(x0_2), (z501), (by first | rfl | (simp; done) | (simp [*]; done)), H', ⟨by have := HK1.out; have := HK2.out; omega⟩, ⟨by (with_reducible repeat (first | apply Kd.R_alloc | apply Kd.R_drewN | apply Kd.R_drew)); exact HO_0.out⟩, ⟨by repeat (first | (with_reducible first | exact HK.out | apply Kept.alloc | apply Kept.drewN | apply Kept.drew) | exact HK.out)⟩, ⟨bnow HB⟩⟩
      · rw [if_neg c6] at H
        have c6b0 : decide (x8_1 < a2) = false := decide_eq_false c6
        clear c6
        obtain rfl := Option.some.inj H
        go_wp2
        first | go_end0 | ((try simp only [Exit.inBlock, Exit.then]); refine bodyPost_ret (results_none rfl _ _ _) rfl ?_)
        exact ⟨by first | rfl | (simp [errW_none, errW_some] <;> rfl) | (simp [*, errW_none, errW_some] <;> rfl), by (with_reducible repeat (first | apply Kd.R_alloc | apply Kd.R_drewN | apply Kd.R_drew)); exact HO_0.out, by repeat (first | (with_reducible first | exact HB.out | apply below_alloc | apply pw_below_drewN | apply below_drew1) | exact HB.out), by repeat (first | (with_reducible first | exact HK.out | apply Kept.alloc | apply Kept.drewN | apply Kept.drew) | exact HK.out)⟩
end
section
/-! ### api_GrMatrix_81: function 81 -/
mutual
def api_GrMatrix_81.l0 : Nat → List (S25) → Int → Int → Int → Bool → Option ((List (S25)))
  | 0, _, _, _, _, _ => none
  | k + 1, x0, x1, x2, x3, x10 => (some (wrap64 (x2 - x1))).bind fun z502 => (if z502 ≤ 12 then ((api_GrMatrix_85.f k x0 x1 x2).bind fun t503 => (some t503)) else (if x3 = 0 then (none) else (if x10 = true then (none) else (none))))
def api_GrMatrix_81.f : Nat → List (S25) → Int → Int → Int → Option ((List (S25)))
  | 0, _, _, _, _ => none
  | k + 1, l0, a1, a2, a3 => api_GrMatrix_81.l0 k l0 a1 a2 a3 true
end
theorem api_GrMatrix_81.mono_l : ∀ k, (∀ y0 y1 y2 y3, LeO (api_GrMatrix_81.f k y0 y1 y2 y3) (api_GrMatrix_81.f (k + 1) y0 y1 y2 y3)) ∧ (∀ y0 y1 y2 y3 y4, LeO (api_GrMatrix_81.l0 k y0 y1 y2 y3 y4) (api_GrMatrix_81.l0 (k + 1) y0 y1 y2 y3 y4))
  | 0 => ⟨fun _ _ _ _ r h => by simp [api_GrMatrix_81.f] at h, fun _ _ _ _ _ r h => by simp [api_GrMatrix_81.l0] at h⟩
  | k + 1 => by
    obtain ⟨ih0, ih1⟩ := api_GrMatrix_81.mono_l k
    refine ⟨?_, ?_⟩
    · intro y0 y1 y2 y3
      unfold api_GrMatrix_81.f
      repeat' first
      | (with_reducible exact ih0 _ _ _ _)
      | (with_reducible exact ih1 _ _ _ _ _)
      | (with_reducible exact api_GrMatrix_85.mono _ _ _ _)
      | (with_reducible exact LeO.refl _)
      | (with_reducible exact LeO.none _)
      | (with_reducible refine LeO.ite ?_ ?_)
      | (with_reducible refine LeO.bind ?_ (fun _ => ?_))
      | exact ih0 _ _ _ _
      | exact ih1 _ _ _ _ _
      | exact api_GrMatrix_85.mono _ _ _ _
      | exact LeO.none _
      | refine LeO.ite ?_ ?_
      | refine LeO.bind ?_ (fun _ => ?_)
    · intro y0 y1 y2 y3 y4
      unfold api_GrMatrix_81.l0
      repeat' first
      | (with_reducible exact ih0 _ _ _ _)
      | (with_reducible exact ih1 _ _ _ _ _)
      | (with_reducible exact api_GrMatrix_85.mono _ _ _ _)
      | (with_reducible exact LeO.refl _)
      | (with_reducible exact LeO.none _)
      | (with_reducible refine LeO.ite ?_ ?_)
      | (with_reducible refine LeO.bind ?_ (fun _ => ?_))
      | exact ih0 _ _ _ _
      | exact ih1 _ _ _ _ _
      | exact api_GrMatrix_85.mono _ _ _ _
      | exact LeO.none _
      | refine LeO.ite ?_ ?_
      | refine LeO.bind ?_ (fun _ => ?_)
theorem api_GrMatrix_81.mono : ∀ a0 a1 a2 a3 k, LeO (api_GrMatrix_81.f k a0 a1 a2 a3) (api_GrMatrix_81.f (k + 1) a0 a1 a2 a3) := by
  intro a0 a1 a2 a3 k
  obtain ⟨ih0, ih1⟩ := api_GrMatrix_81.mono_l k
  exact ih0 a0 a1 a2 a3
set_option maxHeartbeats 8000000 in
set_option maxRecDepth 100000 in
theorem api_GrMatrix_81.calls (k : Nat) : ∀ (P0_ : Nat → Prop) (u9000_ : Value) (l0 : List (S25)) (a1 : Int) (a2 : Int) (a3 : Int)  (r : List (S25)) (w0 w : World) (hB : Below w0.heap.size w0 w) (ho0 : Kd.R k25 25 w w0.heap.size P0_ u9000_ l0) (h : api_GrMatrix_81.f k l0 a1 a2 a3 = some r),
    Calls Try.prog 81 #[u9000_, .int .i64 a1, .int .i64 a2, .int .i64 a3, .func (.func 42) #[] #[]] w fun e w' => e = .returned (.tuple #[]) ∧ Kd.R k25 25 w' w0.heap.size (fun k_ => (P0_ k_ ∨ w.heap.size ≤ k_)) u9000_ r ∧ Below w0.heap.size w0 w' ∧ Kept w w' (fun k_ => P0_ k_) := by
  induction k using Nat.strongRecOn with
  | _ k ih =>
  intro P0_ u9000_ l0 a1 a2 a3 r w0 w hB ho0 h
  cases k with
  | zero => exact absurd h (by simp [api_GrMatrix_81.f])
  | succ k =>
  simp only [api_GrMatrix_81.f] at h
  have hu25 := Try.underlying25
  have HO0 := Aside0.mk (show Kd.R k25 25 w w0.heap.size (fun k_ => (P0_ k_ ∨ w.heap.size ≤ k_)) u9000_ l0 from Kd.R_mono ho0 (fun k_ hk => (.inl hk)))
  have HK := Aside0.mk (Kept.refl w (fun k_ => P0_ k_))
  have HW0 := Aside0.mk hB.size
  have HB := Aside0.mk hB
  clear hB
  have H : (api_GrMatrix_81.l0 k l0 a1 a2 a3 true) = some r := h
  clear h
  have H' := Aside0.mk H
  clear H
  go_enter Try.func81, Try.ntmps81
  go_wp2
  go_loopg [1, 2, 3, 10] k (fun kq v1 v2 v3 v10 w' => ∃ (x0_1 : List (S25)) (x1_1 : Int) (x2_1 : Int) (x3_1 : Int) (x10_1 : Bool), v1 = .int .i64 x1_1 ∧ v2 = .int .i64 x2_1 ∧ v3 = .int .i64 x3_1 ∧ v10 = .bool x10_1 ∧ Aside0 (api_GrMatrix_81.l0 kq x0_1 x1_1 x2_1 x3_1 x10_1 = some r) ∧ Aside0 (kq ≤ k) ∧ Aside0 (Kd.R k25 25 w' w0.heap.size (fun k_ => (P0_ k_ ∨ w.heap.size ≤ k_)) u9000_ x0_1) ∧ Aside0 (Kept w w' (fun k_ => P0_ k_)) ∧ Aside0 (Below w0.heap.size w0 w'))
  case atStart => exact ⟨(l0), (a1), (a2), (a3), (true), (by first | rfl | (simp; done) | (simp [*]; done)), (by first | rfl | (simp; done) | (simp [*]; done)), (by first | rfl | (simp; done) | (simp [*]; done)), (by first | rfl | (simp; done) | (simp [*]; done)), H', ⟨Nat.le_refl _⟩, ⟨by (with_reducible repeat (first | apply Kd.R_alloc | apply Kd.R_drewN | apply Kd.R_drew)); exact HO0.out⟩, ⟨by repeat (first | (with_reducible first | exact HK.out | apply Kept.alloc | apply Kept.drewN | apply Kept.drew) | exact HK.out)⟩, ⟨bnow HB⟩⟩
  case round =>
    clear H'
    try clear p2
    obtain ⟨x0_1, x1_1, x2_1, x3_1, x10_1, rfl, rfl, rfl, rfl, HA, HK1, HO_0, HK, HB⟩ := hrel
    cases gk with
    | zero => exact absurd HA.out (by simp [api_GrMatrix_81.l0])
    | succ k1 =>
      have H := HA.out
      clear HA
      simp only [api_GrMatrix_81.l0] at H
      obtain ⟨z502, E60, H⟩ := oc H
      have E6w : (IntKind.i64.wrap (x2_1 - x1_1)) = z502 := (i64_w _).trans E60
      by_cases c7 : z502 ≤ 12
      · rw [if_pos c7] at H
        have c7b0 : decide (z502 ≤ 12) = true := decide_eq_true c7
        clear c7
        obtain ⟨t503, A8, H⟩ := ob H
        obtain rfl := Option.some.inj H
        obtain ⟨Ao9, co9, eo9⟩ := Kd.R_slice HO_0.out
        subst eo9
        go_wp2_with (first | ((with_reducible refine gate_callee (f := 85) rfl ?_); refine goesL_ (some 30) rfl rfl Try.func85 (by kernel_rfl) rfl #[.slice Ao9 x0_1.length co9, .int .i64 x1_1, .int .i64 x2_1, .func (.func 42) #[] #[]] rfl am ?_; (with_reducible refine (api_GrMatrix_85.calls k1 (fun k_ => some k_ = (.slice Ao9 x0_1.length co9 : Value).ownBlock) (.slice Ao9 x0_1.length co9) x0_1 x1_1 x2_1  t503 w0 _ ?side1 ?side2 A8.out).mono ?_); (case side1 => repeat (first | (with_reducible first | exact HB.out | apply below_alloc | apply pw_below_drewN | apply below_drew1) | exact HB.out)); (case side2 => exact Kd.R_tight rfl HO_0.out); rintro e w10 ⟨rfl, hy0, hb, hkp⟩; refine ⟨_, rfl, ?_⟩; have n0_ := Aside0.mk (Kd.R_reok rfl hy0 (fun k_ e_ => HO_0.out.1 k_ e_)); have n1_ := Aside0.mk (Kept.then_ (S := (fun k_ => P0_ k_)) (by repeat (first | (with_reducible first | exact HK.out | apply Kept.alloc | apply Kept.drewN | apply Kept.drew) | exact HK.out)) hkp (fun k_ hs_ => (fun e_ => (HO_0.out.1 k_ e_.symm)) hs_)); have n2_ := Aside0.mk (hb); clear HO_0; clear HK; clear HB; have HO_0 := n0_; have HK := n1_; have HB := n2_; clear n0_ n1_ n2_; (try clear hb); (try clear hkp); (try clear hy0)))
        first | go_end0 | ((try simp only [Exit.inBlock, Exit.then]); refine bodyPost_ret (results_none rfl _ _ _) rfl ?_)
        exact ⟨by first | rfl | (simp [errW_none, errW_some] <;> rfl) | (simp [*, errW_none, errW_some] <;> rfl), by (with_reducible repeat (first | apply Kd.R_alloc | apply Kd.R_drewN | apply Kd.R_drew)); exact HO_0.out, by repeat (first | (with_reducible first | exact HB.out | apply below_alloc | apply pw_below_drewN | apply below_drew1) | exact HB.out), by repeat (first | (with_reducible first | exact HK.out | apply Kept.alloc | apply Kept.drewN | apply Kept.drew) | exact HK.out)⟩
      · rw [if_neg c7] at H
        have c7b0 : decide (z502 ≤ 12) = false := decide_eq_false c7
        clear c7
        by_cases c11 : x3_1 = 0
        · rw [if_pos c11] at H
          exact absurd H (by simp)
        · rw [if_neg c11] at H
          have c11b0 : (x3_1 == 0) = false := beq_eq_false_iff_ne.mpr c11
          have c11b1 : (x3_1 != 0) = true := bne_iff_ne.mpr c11
          by_cases c12 : x10_1 = true
          · subst c12
            have H1 : (none) = some r := by rw [if_pos rfl] at H; exact H
            clear H
            have H := H1
            clear H1
            exact absurd H (by simp)
          · replace c12 := Bool.eq_false_iff.mpr c12
            subst c12
            have H1 : (none) = some r := by rw [if_neg (show ¬ (false = true) by decide)] at H; exact H
            clear H
            have H := H1
            clear H1
            exact absurd H (by simp)
end
section
/-! ### api_GrMatrix_58: function 58 -/
def api_GrMatrix_58.f (k : Nat) (l0 : List (S25))  : Option ((List (S25))) := (bits_Len.f (IntKind.u64.wrap ((l0.length : Int)))).bind fun t504 => ((api_GrMatrix_81.f k l0 0 (l0.length : Int) t504).bind fun t505 => (some t505))
theorem api_GrMatrix_58.mono : ∀ a0 k, LeO (api_GrMatrix_58.f k a0) (api_GrMatrix_58.f (k + 1) a0) := by
  intro a0 k
  unfold api_GrMatrix_58.f
  repeat' first
      | (with_reducible exact api_GrMatrix_81.mono _ _ _ _ _)
      | (with_reducible exact LeO.refl _)
      | (with_reducible exact LeO.none _)
      | (with_reducible refine LeO.ite ?_ ?_)
      | (with_reducible refine LeO.bind ?_ (fun _ => ?_))
      | exact api_GrMatrix_81.mono _ _ _ _ _
      | exact LeO.none _
      | refine LeO.ite ?_ ?_
      | refine LeO.bind ?_ (fun _ => ?_)
set_option maxHeartbeats 8000000 in
set_option maxRecDepth 100000 in
theorem api_GrMatrix_58.calls (k : Nat) (P0_ : Nat → Prop) (u9000_ : Value) (l0 : List (S25))  (r : List (S25)) (w0 w : World) (hB : Below w0.heap.size w0 w) (ho0 : Kd.R k25 25 w w0.heap.size P0_ u9000_ l0) (h : api_GrMatrix_58.f k l0 = some r) :
    Calls Try.prog 58 #[u9000_, .func (.func 42) #[] #[]] w fun e w' => e = .returned (.tuple #[]) ∧ Kd.R k25 25 w' w0.heap.size (fun k_ => (P0_ k_ ∨ w.heap.size ≤ k_)) u9000_ r ∧ Below w0.heap.size w0 w' ∧ Kept w w' (fun k_ => P0_ k_) := by
  have HO0 := Aside0.mk (show Kd.R k25 25 w w0.heap.size (fun k_ => (P0_ k_ ∨ w.heap.size ≤ k_)) u9000_ l0 from Kd.R_mono ho0 (fun k_ hk => (.inl hk)))
  have HK := Aside0.mk (Kept.refl w (fun k_ => P0_ k_))
  have HW0 := Aside0.mk hB.size
  have HB := Aside0.mk hB
  clear hB
  have H : ((bits_Len.f (IntKind.u64.wrap ((l0.length : Int)))).bind fun t504 => ((api_GrMatrix_81.f k l0 0 (l0.length : Int) t504).bind fun t505 => (some t505))) = some r := h
  clear h
  obtain ⟨t504, A3, H⟩ := ob H
  obtain ⟨t505, A4, H⟩ := ob H
  obtain rfl := Option.some.inj H
  obtain ⟨Ao5, co5, eo5⟩ := Kd.R_slice HO0.out
  subst eo5
  go_enter Try.func58, Try.ntmps58
  go_wp2_with (first | ((with_reducible refine gate_callee (f := 82) rfl ?_); refine goesL_ (some 11) rfl rfl Try.func82 (by kernel_rfl) rfl #[.int .u64 (IntKind.u64.wrap ((l0.length : Int)))] rfl am ?_; (with_reducible refine (bits_Len.calls (IntKind.u64.wrap ((l0.length : Int))) t504 _ A3.out).mono ?_); rintro e w' ⟨rfl, ⟨nd, rfl⟩⟩; refine ⟨_, rfl, ?_⟩) | ((with_reducible refine gate_callee (f := 81) rfl ?_); refine goesL_ (some 13) rfl rfl Try.func81 (by kernel_rfl) rfl #[.slice Ao5 l0.length co5, .int .i64 0, .int .i64 (l0.length : Int), .int .i64 t504, .func (.func 42) #[] #[]] rfl am ?_; (with_reducible refine (api_GrMatrix_81.calls k (fun k_ => some k_ = (.slice Ao5 l0.length co5 : Value).ownBlock) (.slice Ao5 l0.length co5) l0 0 (l0.length : Int) t504  t505 w0 _ ?side1 ?side2 A4.out).mono ?_); (case side1 => repeat (first | (with_reducible first | exact HB.out | apply below_alloc | apply pw_below_drewN | apply below_drew1) | exact HB.out)); (case side2 => exact Kd.R_tight rfl HO0.out); rintro e w6 ⟨rfl, hy0, hb, hkp⟩; refine ⟨_, rfl, ?_⟩; have n0_ := Aside0.mk (Kd.R_reok rfl hy0 (fun k_ e_ => HO0.out.1 k_ e_)); have n1_ := Aside0.mk (Kept.then_ (S := (fun k_ => P0_ k_)) (by repeat (first | (with_reducible first | exact HK.out | apply Kept.alloc | apply Kept.drewN | apply Kept.drew) | exact HK.out)) hkp (fun k_ hs_ => (fun e_ => (HO0.out.1 k_ e_.symm)) hs_)); have n2_ := Aside0.mk (hb); clear HO0; clear HK; clear HB; have HO0 := n0_; have HK := n1_; have HB := n2_; clear n0_ n1_ n2_; (try clear hb); (try clear hkp); (try clear hy0)))
  first | go_end0 | ((try simp only [Exit.inBlock, Exit.then]); refine bodyPost_ret (results_none rfl _ _ _) rfl ?_)
  exact ⟨by first | rfl | (simp [errW_none, errW_some] <;> rfl) | (simp [*, errW_none, errW_some] <;> rfl), by (with_reducible repeat (first | apply Kd.R_alloc | apply Kd.R_drewN | apply Kd.R_drew)); exact HO0.out, by repeat (first | (with_reducible first | exact HB.out | apply below_alloc | apply pw_below_drewN | apply below_drew1) | exact HB.out), by repeat (first | (with_reducible first | exact HK.out | apply Kept.alloc | apply Kept.drewN | apply Kept.drew) | exact HK.out)⟩
end
end Go.Proofs.Ytmcajdepoohlhaa.G
