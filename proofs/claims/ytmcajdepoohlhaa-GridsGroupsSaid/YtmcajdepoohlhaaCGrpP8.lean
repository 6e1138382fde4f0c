/- Functions of the program as plain Lean functions, and their contracts (printed by a program of this session). No condition beyond what each states. -/
import Derived.Test.YtmcajdepoohlhaaCGrpY
import Derived.Test.YtmcajdepoohlhaaCGrpP0
import Derived.Test.YtmcajdepoohlhaaCGrpP5
import Derived.Test.YtmcajdepoohlhaaCGrpP7
import Derived.Test.YtmcajdepoohlhaaCGrpP1
import Derived.Test.YtmcajdepoohlhaaCGrpP3
namespace Go.Proofs.Ytmcajdepoohlhaa.G
open Go.RowKit Go.Proofs.YtmcajdepoohlhaaW.PrintWords Go.Proofs.YtmcajdepoohlhaaW.PrintLast Go.Proofs.YtmcajdepoohlhaaW.PrintMore
attribute [local go_sem] max2_int min2_int max_two min_two max_three min_three max_four min_four
set_option linter.unusedVariables false
set_option linter.unusedSimpArgs false
section
/-! ### torchonref06_Keeps: function 25 -/
def torchonref06_Keeps.f (k : Nat) (a0_0 : Int) (a0_1 : Int) (a0_2 : Int) (a1_0 : Int) (a1_1 : Int) (a1_2 : Int) (a1_3 : Int) : Option (Bool × Int) := (torchonref06_Check.f k a0_0 a0_1 a0_2).bind fun q2 => (if q2 = 0 then ((torchonref06_Matrix.f a1_0 a1_1 a1_2 a1_3).bind fun q6 => (if q6 = true then ((torchonref06_keeps.f a0_0 a0_1 a0_2 a1_0 a1_1 a1_2 a1_3).bind fun q3 => (some (q3, 0))) else (some (false, 2)))) else (some (false, 2)))
theorem torchonref06_Keeps.mono : ∀ a0 a1 a2 a3 a4 a5 a6 k, LeO (torchonref06_Keeps.f k a0 a1 a2 a3 a4 a5 a6) (torchonref06_Keeps.f (k + 1) a0 a1 a2 a3 a4 a5 a6) := by
 intro a0 a1 a2 a3 a4 a5 a6 k
 unfold torchonref06_Keeps.f
 repeat' first
   | (with_reducible exact torchonref06_Check.mono _ _ _ _)
   | (with_reducible exact LeO.refl _)
   | (with_reducible exact LeO.none _)
   | (with_reducible refine LeO.ite ?_ ?_)
   | (with_reducible refine LeO.bind ?_ (fun _ => ?_))
   | exact torchonref06_Check.mono _ _ _ _
   | exact LeO.none _
   | refine LeO.ite ?_ ?_
   | refine LeO.bind ?_ (fun _ => ?_)
set_option maxHeartbeats 8000000 in
set_option maxRecDepth 100000 in
theorem torchonref06_Keeps.calls (k : Nat) (a0_0 : Int) (a0_1 : Int) (a0_2 : Int) (a1_0 : Int) (a1_1 : Int) (a1_2 : Int) (a1_3 : Int) (r1 : Bool) (r2 : Int) (w : World) (h : torchonref06_Keeps.f k a0_0 a0_1 a0_2 a1_0 a1_1 a1_2 a1_3 = some (r1, r2)) :
  Calls Try.prog 25 #[.agg #[.int .i64 a0_0, .int .i64 a0_1, .int .i64 a0_2], .agg #[.int .i64 a1_0, .int .i64 a1_1, .int .i64 a1_2, .int .i64 a1_3]] w fun e w' => e = .returned (.tuple #[.bool r1, .int .i64 r2]) ∧ Below w.heap.size w w' := by
 have hu23 := Try.underlying23
 have hu25 := Try.underlying25
 have HB := Aside0.mk (Below.refl w.heap.size w)
 have H : ((torchonref06_Check.f k a0_0 a0_1 a0_2).bind fun q2 => (if q2 = 0 then ((torchonref06_Matrix.f a1_0 a1_1 a1_2 a1_3).bind fun q6 => (if q6 = true then ((torchonref06_keeps.f a0_0 a0_1 a0_2 a1_0 a1_1 a1_2 a1_3).bind fun q3 => (some (q3, 0))) else (some (false, 2)))) else (some (false, 2)))) = some (r1, r2) := h
 clear h
 obtain ⟨q2, A3, H⟩ := ob H
 by_cases c4 : q2 = 0
 ·rw [if_pos c4] at H
  have qd : (q2 == 0) = true := beq_iff_eq.mpr c4
  have qe : (q2 != 0) = false := bne_eq_false_iff_eq.mpr c4
  clear c4
  obtain ⟨q6, A5, H⟩ := ob H
  by_cases c6 : q6 = true
  ·subst c6
   have H1 : ((torchonref06_keeps.f a0_0 a0_1 a0_2 a1_0 a1_1 a1_2 a1_3).bind fun q3 => (some (q3, 0))) = some (r1, r2) := by rw [if_pos rfl] at H; exact H
   clear H
   have H := H1
   clear H1
   obtain ⟨q3, A7, H⟩ := ob H
   simp only [Option.some.injEq, Prod.mk.injEq] at H
   obtain ⟨rfl, rfl⟩ := H
   go_enter Try.func25, Try.ntmps25
   go_wp2_with (first | ((with_reducible refine gate_dst (N := 2) rfl ?_); refine bx 2 #[.int .i64 a0_0, .int .i64 a0_1, .int .i64 a0_2] 23 fun qb hg w8 q0 hb => ?_; have q9 := gw hg HB; have q7 := gw hg HB; replace HB := bst HB hb; clear hb hg) | ((with_reducible refine gate_dst (N := 3) rfl ?_); refine bx 3 #[.int .i64 a1_0, .int .i64 a1_1, .int .i64 a1_2, .int .i64 a1_3] 25 fun qc hg w9 q1 hb => ?_; have qa := gw hg HB; have q8 := gw hg HB; have q4 := nlt hg q0; have q5 := ngt hg q0; replace q0 := bb q0 hb; replace HB := bst HB hb; clear hb hg; have j1 := q4.out; have j4 := q5.out; have ⟨qf, qg, qh, qD, qE, qF⟩ := cf3 q0) | ((with_reducible refine gate_callee (f := 43) rfl ?_); refine gl 7 Try.func43 (torchonref06_Check.calls k a0_0 a0_1 a0_2 q2 _ A3.out) ?_; rintro e w12 ⟨rfl, hb⟩; refine ⟨_, rfl, ?_⟩; replace q0 := bb q0 hb; replace q1 := bb q1 hb; replace HB := bst HB hb; clear hb; have ⟨qi, qj, qk, ql, qG, qH, qI, qJ⟩ := cf4 q1) | (go_at_call 15; (with_reducible refine (torchonref06_Matrix.calls a1_0 a1_1 a1_2 a1_3 true _ A5.out).mono ?_); rintro e w14 ⟨rfl, hb⟩; replace q0 := bb q0 hb; replace q1 := bb q1 hb; replace HB := bst HB hb; clear hb; have ⟨qm, qn, qo, qK, qL, qM⟩ := cf3 q0; have ⟨qp, qq, qr, qs, qN, qO, qP, qQ⟩ := cf4 q1) | ((with_reducible refine gate_callee (f := 61) rfl ?_); refine gl 16 Try.func61 (torchonref06_keeps.calls a0_0 a0_1 a0_2 a1_0 a1_1 a1_2 a1_3 q3 _ A7.out) ?_; rintro e w17 ⟨rfl, hb⟩; refine ⟨_, rfl, ?_⟩; replace q0 := bb q0 hb; replace q1 := bb q1 hb; replace HB := bst HB hb; clear hb))
   go_ret2
   exact rt HB
  ·replace c6 := Bool.eq_false_iff.mpr c6
   subst c6
   have H1 : (some (false, 2)) = some (r1, r2) := by rw [if_neg (show ¬ (false = true) by decide)] at H; exact H
   clear H
   have H := H1
   clear H1
   simp only [Option.some.injEq, Prod.mk.injEq] at H
   obtain ⟨rfl, rfl⟩ := H
   go_enter Try.func25, Try.ntmps25
   go_wp2_with (first | ((with_reducible refine gate_dst (N := 2) rfl ?_); refine bx 2 #[.int .i64 a0_0, .int .i64 a0_1, .int .i64 a0_2] 23 fun qb hg w18 q0 hb => ?_; have q9 := gw hg HB; have q7 := gw hg HB; replace HB := bst HB hb; clear hb hg) | ((with_reducible refine gate_dst (N := 3) rfl ?_); refine bx 3 #[.int .i64 a1_0, .int .i64 a1_1, .int .i64 a1_2, .int .i64 a1_3] 25 fun qc hg w19 q1 hb => ?_; have qa := gw hg HB; have q8 := gw hg HB; have q4 := nlt hg q0; have q5 := ngt hg q0; replace q0 := bb q0 hb; replace HB := bst HB hb; clear hb hg; have j2 := q4.out; have j5 := q5.out; have ⟨qt, qu, qv, qR, qS, qT⟩ := cf3 q0) | ((with_reducible refine gate_callee (f := 43) rfl ?_); refine gl 7 Try.func43 (torchonref06_Check.calls k a0_0 a0_1 a0_2 q2 _ A3.out) ?_; rintro e w22 ⟨rfl, hb⟩; refine ⟨_, rfl, ?_⟩; replace q0 := bb q0 hb; replace q1 := bb q1 hb; replace HB := bst HB hb; clear hb; have ⟨qw, qx, qy, qz, qU, qV, qW, qX⟩ := cf4 q1) | (go_at_call 15; (with_reducible refine (torchonref06_Matrix.calls a1_0 a1_1 a1_2 a1_3 false _ A5.out).mono ?_); rintro e w24 ⟨rfl, hb⟩; replace q0 := bb q0 hb; replace q1 := bb q1 hb; replace HB := bst HB hb; clear hb))
   go_ret2
   exact rt HB
 ·rw [if_neg c4] at H
  have qd : (q2 == 0) = false := beq_eq_false_iff_ne.mpr c4
  have qe : (q2 != 0) = true := bne_iff_ne.mpr c4
  simp only [Option.some.injEq, Prod.mk.injEq] at H
  obtain ⟨rfl, rfl⟩ := H
  go_enter Try.func25, Try.ntmps25
  go_wp2_with (first | ((with_reducible refine gate_dst (N := 2) rfl ?_); refine bx 2 #[.int .i64 a0_0, .int .i64 a0_1, .int .i64 a0_2] 23 fun qb hg w25 q0 hb => ?_; have q9 := gw hg HB; have q7 := gw hg HB; replace HB := bst HB hb; clear hb hg) | ((with_reducible refine gate_dst (N := 3) rfl ?_); refine bx 3 #[.int .i64 a1_0, .int .i64 a1_1, .int .i64 a1_2, .int .i64 a1_3] 25 fun qc hg w26 q1 hb => ?_; have qa := gw hg HB; have q8 := gw hg HB; have q4 := nlt hg q0; have q5 := ngt hg q0; replace q0 := bb q0 hb; replace HB := bst HB hb; clear hb hg; have j3 := q4.out; have j6 := q5.out; have ⟨qA, qB, qC, qY, qZ, j0⟩ := cf3 q0) | ((with_reducible refine gate_callee (f := 43) rfl ?_); refine gl 7 Try.func43 (torchonref06_Check.calls k a0_0 a0_1 a0_2 q2 _ A3.out) ?_; rintro e w29 ⟨rfl, hb⟩; refine ⟨_, rfl, ?_⟩; replace q0 := bb q0 hb; replace q1 := bb q1 hb; replace HB := bst HB hb; clear hb))
  go_ret2
  exact rt HB
end
section
attribute [local go_sem high] eqA25
/-! ### torchonlaw06_same: function 26 -/
def torchonlaw06_same.l0 : Nat → List (S25) → List (S25) → Int → Option (Bool)
 | 0, _, _, _ => none
 | k + 1, x0, x1, x5 => if x5 < (x0.length : Int) then (if 0 ≤ x5 then (if x5 < (x1.length : Int) then (if (!(((rd_T25 x0 x5).f0) == ((rd_T25 x1 x5).f0)) || (!(((rd_T25 x0 x5).f1) == ((rd_T25 x1 x5).f1)) || (!(((rd_T25 x0 x5).f2) == ((rd_T25 x1 x5).f2)) || (!(((rd_T25 x0 x5).f3) == ((rd_T25 x1 x5).f3)))))) = true then (some false) else ((some (wrap64 (x5 + 1))).bind fun q4 => (torchonlaw06_same.l0 k x0 x1 q4))) else (none)) else (none)) else (some true)
def torchonlaw06_same.f (k : Nat) (l0 : List (S25)) (l1 : List (S25)) : Option (Bool) := if (l0.length : Int) = (l1.length : Int) then (torchonlaw06_same.l0 k l0 l1 0) else (some false)
theorem torchonlaw06_same.mono_l : ∀ k, (∀ y0 y1 y2, LeO (torchonlaw06_same.l0 k y0 y1 y2) (torchonlaw06_same.l0 (k + 1) y0 y1 y2))
 | 0 => fun _ _ _ r h => by simp [torchonlaw06_same.l0] at h
 | k + 1 => by
  have ih0 := torchonlaw06_same.mono_l k
  ·intro y0 y1 y2
   unfold torchonlaw06_same.l0
   repeat' first
   | (with_reducible exact ih0 _ _ _)
   | (with_reducible exact LeO.refl _)
   | (with_reducible exact LeO.none _)
   | (with_reducible refine LeO.ite ?_ ?_)
   | (with_reducible refine LeO.bind ?_ (fun _ => ?_))
   | exact ih0 _ _ _
   | exact LeO.none _
   | refine LeO.ite ?_ ?_
   | refine LeO.bind ?_ (fun _ => ?_)
theorem torchonlaw06_same.mono : ∀ a0 a1 k, LeO (torchonlaw06_same.f k a0 a1) (torchonlaw06_same.f (k + 1) a0 a1) := by
 intro a0 a1 k
 have ih0 := torchonlaw06_same.mono_l k
 unfold torchonlaw06_same.f
 repeat' first
   | (with_reducible exact ih0 _ _ _)
   | (with_reducible exact LeO.refl _)
   | (with_reducible exact LeO.none _)
   | (with_reducible refine LeO.ite ?_ ?_)
   | (with_reducible refine LeO.bind ?_ (fun _ => ?_))
   | exact ih0 _ _ _
   | exact LeO.none _
   | refine LeO.ite ?_ ?_
   | refine LeO.bind ?_ (fun _ => ?_)
set_option maxHeartbeats 8000000 in
set_option maxRecDepth 100000 in
theorem torchonlaw06_same.calls (k : Nat) (A0 : Option Addr) (c0 : Nat) (l0 : List (S25)) (A1 : Option Addr) (c1 : Nat) (l1 : List (S25)) (r : Bool) (w : World) (hr0 : Kd.C k25 w A0 l0.length l0) (hc0 : l0.length ≤ c0) (hr1 : Kd.C k25 w A1 l1.length l1) (hc1 : l1.length ≤ c1) (h : torchonlaw06_same.f k l0 l1 = some r) :
  Calls Try.prog 26 #[.slice A0 l0.length c0, .slice A1 l1.length c1] w fun e w' => e = .returned (.bool r) ∧ Drawn0 w w' := by
 have hu25 := Try.underlying25
 have HR0 := Aside0.mk hr0
 have HC0 := Aside0.mk hc0
 clear hr0 hc0
 have HR1 := Aside0.mk hr1
 have HC1 := Aside0.mk hc1
 clear hr1 hc1
 have H : (if (l0.length : Int) = (l1.length : Int) then (torchonlaw06_same.l0 k l0 l1 0) else (some false)) = some r := h
 clear h
 by_cases c3 : (l0.length : Int) = (l1.length : Int)
 ·rw [if_pos c3] at H
  have q7 : ((l0.length : Int) == (l1.length : Int)) = true := beq_iff_eq.mpr c3
  have q8 : ((l0.length : Int) != (l1.length : Int)) = false := bne_eq_false_iff_eq.mpr c3
  have q9 : (l0.length == l1.length) = true := by first | simpa using c3 | (simp at c3 ⊢; omega)
  clear c3
  have H' := Aside0.mk H
  clear H
  go_enter Try.func26, Try.ntmps26
  go_wp2
  repeat (go_quiet (fail); try go_wp2)
  go_loopg [5] k (fun kq v5 w' => ∃ (x5_1 : Int), v5 = .int .i64 x5_1 ∧ Aside0 (torchonlaw06_same.l0 kq l0 l1 x5_1 = some r) ∧ Aside0 (kq ≤ k) ∧ Drawn0 w w')
  case atStart => exact ⟨(0), (by first | rfl | (simp; done) | (simp [*]; done)), H', ⟨Nat.le_refl _⟩, by repeat (first | exact Drawn0.refl _ | apply Drawn0.step)⟩
  case round =>
   clear H'
   try clear c1; try clear c2; try clear p2; try clear c3; try clear q7; try clear q8; try clear q9
   obtain ⟨x5_1, rfl, HA, HK1, ⟨m1, rfl⟩⟩ := hrel
   cases gk with
   | zero => exact absurd HA.out (by simp [torchonlaw06_same.l0])
   | succ k1 =>
    have H := HA.out
    clear HA
    simp only [torchonlaw06_same.l0] at H
    by_cases c4 : x5_1 < (l0.length : Int)
    ·rw [if_pos c4] at H
     have qc : decide (x5_1 < (l0.length : Int)) = true := decide_eq_true c4
     clear c4
     by_cases c5 : 0 ≤ x5_1
     ·rw [if_pos c5] at H
      have qm : decide (0 ≤ x5_1) = true := decide_eq_true c5
      clear c5
      by_cases c6 : x5_1 < (l1.length : Int)
      ·rw [if_pos c6] at H
       have qn : decide (x5_1 < (l1.length : Int)) = true := decide_eq_true c6
       clear c6
       by_cases c7 : (!(((rd_T25 l0 x5_1).f0) == ((rd_T25 l1 x5_1).f0)) || (!(((rd_T25 l0 x5_1).f1) == ((rd_T25 l1 x5_1).f1)) || (!(((rd_T25 l0 x5_1).f2) == ((rd_T25 l1 x5_1).f2)) || (!(((rd_T25 l0 x5_1).f3) == ((rd_T25 l1 x5_1).f3)))))) = true
       ·rw [if_pos c7] at H
        have qd : (!(((rd_T25 l0 x5_1).f0) == ((rd_T25 l1 x5_1).f0)) || (!(((rd_T25 l0 x5_1).f1) == ((rd_T25 l1 x5_1).f1)) || (!(((rd_T25 l0 x5_1).f2) == ((rd_T25 l1 x5_1).f2)) || (!(((rd_T25 l0 x5_1).f3) == ((rd_T25 l1 x5_1).f3)))))) = true := c7
        clear c7
        obtain rfl := Option.some.inj H
        have q0 : 0 ≤ (x5_1 : Int) := of_decide_eq_true (by first | (with_reducible assumption) | assumption)
        have q2 : x5_1 < (l0.length : Int) := of_decide_eq_true (by first | (with_reducible assumption) | assumption)
        obtain ⟨qa, q5, qe, qf, qg, qh⟩ := at_T25 HR0.out x5_1 q0 q2
        cases q5
        replace q0 := eq_true q0
        replace q2 := eq_true q2
        have q1 : 0 ≤ (x5_1 : Int) := of_decide_eq_true (by first | (with_reducible assumption) | assumption)
        have q3 : x5_1 < (l1.length : Int) := of_decide_eq_true (by first | (with_reducible assumption) | assumption)
        obtain ⟨qb, q6, qi, qj, qk, ql⟩ := at_T25 HR1.out x5_1 q1 q3
        cases q6
        replace q1 := eq_true q1
        replace q3 := eq_true q3
        go_wp2
        repeat (go_quiet (fail); try go_wp2)
        go_ret
        exact ⟨by first | rfl | (simp; done) | (simp [*]; done), by repeat (first | exact Drawn0.refl _ | apply Drawn0.step)⟩
       ·rw [if_neg c7] at H
        have qd : (!(((rd_T25 l0 x5_1).f0) == ((rd_T25 l1 x5_1).f0)) || (!(((rd_T25 l0 x5_1).f1) == ((rd_T25 l1 x5_1).f1)) || (!(((rd_T25 l0 x5_1).f2) == ((rd_T25 l1 x5_1).f2)) || (!(((rd_T25 l0 x5_1).f3) == ((rd_T25 l1 x5_1).f3)))))) = false := by simpa using c7
        clear c7
        obtain ⟨q4, E80, H⟩ := oc H
        have E8w : (IntKind.i64.wrap (x5_1 + 1)) = q4 := (i64_w _).trans E80
        have H' := Aside0.mk H
        clear H
        have q0 : 0 ≤ (x5_1 : Int) := of_decide_eq_true (by first | (with_reducible assumption) | assumption)
        have q2 : x5_1 < (l0.length : Int) := of_decide_eq_true (by first | (with_reducible assumption) | assumption)
        obtain ⟨qa, q5, qe, qf, qg, qh⟩ := at_T25 HR0.out x5_1 q0 q2
        cases q5
        replace q0 := eq_true q0
        replace q2 := eq_true q2
        have q1 : 0 ≤ (x5_1 : Int) := of_decide_eq_true (by first | (with_reducible assumption) | assumption)
        have q3 : x5_1 < (l1.length : Int) := of_decide_eq_true (by first | (with_reducible assumption) | assumption)
        obtain ⟨qb, q6, qi, qj, qk, ql⟩ := at_T25 HR1.out x5_1 q1 q3
        cases q6
        replace q1 := eq_true q1
        replace q3 := eq_true q3
        go_wp2
        repeat (go_quiet (fail); try go_wp2)
        go_roundg k1
        case measure => have := HK1.out; omega
        case rel => exact ⟨(q4), (by first | rfl | (simp; done) | (simp [*]; done)), H', ⟨by have := HK1.out; omega⟩, by repeat (first | exact Drawn0.refl _ | apply Drawn0.step)⟩
      ·rw [if_neg c6] at H
       exact absurd H (by simp)
     ·rw [if_neg c5] at H
      exact absurd H (by simp)
    ·rw [if_neg c4] at H
     have qc : decide (x5_1 < (l0.length : Int)) = false := decide_eq_false c4
     clear c4
     obtain rfl := Option.some.inj H
     go_wp2
     repeat (go_quiet (fail); try go_wp2)
     go_ret
     exact ⟨by first | rfl | (simp; done) | (simp [*]; done), by repeat (first | exact Drawn0.refl _ | apply Drawn0.step)⟩
 ·rw [if_neg c3] at H
  have q7 : ((l0.length : Int) == (l1.length : Int)) = false := beq_eq_false_iff_ne.mpr c3
  have q8 : ((l0.length : Int) != (l1.length : Int)) = true := bne_iff_ne.mpr c3
  have q9 : (l0.length == l1.length) = false := by first | simpa using c3 | (simp at c3 ⊢; omega)
  obtain rfl := Option.some.inj H
  go_enter Try.func26, Try.ntmps26
  go_wp2
  repeat (go_quiet (fail); try go_wp2)
  go_ret
  exact ⟨by first | rfl | (simp; done) | (simp [*]; done), by repeat (first | exact Drawn0.refl _ | apply Drawn0.step)⟩
end
section
/-! ### torchonlaw06_GridsGroups: function 7 -/
def torchonlaw06_GridsGroups.f (k : Nat) (a0_0 : Int) (a0_1 : Int) (a0_2 : Int) (a1_0 : Int) (a1_1 : Int) (a1_2 : Int) (a1_3 : Int) : Option (Bool) := (grids_Group.f k a0_0 a0_1 a0_2).bind fun q7 => ((torchonref06_Group.f k a0_0 a0_1 a0_2).bind fun q8 => ((grids_Keeps.f k a0_0 a0_1 a0_2 a1_0 a1_1 a1_2 a1_3).bind fun q9 => ((torchonref06_Keeps.f k a0_0 a0_1 a0_2 a1_0 a1_1 a1_2 a1_3).bind fun qa => ((torchonlaw06_same.f k q7.1 q8.1).bind fun qf => (if qf = true then (if q7.2 = q8.2 then (if (q9.1 == qa.1) = true then (if q9.2 = qa.2 then ((torchonlaw06_awake.f k).bind fun q4 => (some q4)) else (none)) else (none)) else (none)) else (none))))))
theorem torchonlaw06_GridsGroups.mono : ∀ a0 a1 a2 a3 a4 a5 a6 k, LeO (torchonlaw06_GridsGroups.f k a0 a1 a2 a3 a4 a5 a6) (torchonlaw06_GridsGroups.f (k + 1) a0 a1 a2 a3 a4 a5 a6) := by
 intro a0 a1 a2 a3 a4 a5 a6 k
 unfold torchonlaw06_GridsGroups.f
 repeat' first
   | (with_reducible exact grids_Group.mono _ _ _ _)
   | (with_reducible exact grids_Keeps.mono _ _ _ _ _ _ _ _)
   | (with_reducible exact torchonlaw06_awake.mono _)
   | (with_reducible exact torchonlaw06_same.mono _ _ _)
   | (with_reducible exact torchonref06_Group.mono _ _ _ _)
   | (with_reducible exact torchonref06_Keeps.mono _ _ _ _ _ _ _ _)
   | (with_reducible exact LeO.refl _)
   | (with_reducible exact LeO.none _)
   | (with_reducible refine LeO.ite ?_ ?_)
   | (with_reducible refine LeO.bind ?_ (fun _ => ?_))
   | exact grids_Group.mono _ _ _ _
   | exact grids_Keeps.mono _ _ _ _ _ _ _ _
   | exact torchonlaw06_awake.mono _
   | exact torchonlaw06_same.mono _ _ _
   | exact torchonref06_Group.mono _ _ _ _
   | exact torchonref06_Keeps.mono _ _ _ _ _ _ _ _
   | exact LeO.none _
   | refine LeO.ite ?_ ?_
   | refine LeO.bind ?_ (fun _ => ?_)
set_option maxHeartbeats 8000000 in
set_option maxRecDepth 100000 in
theorem torchonlaw06_GridsGroups.calls (k : Nat) (a0_0 : Int) (a0_1 : Int) (a0_2 : Int) (a1_0 : Int) (a1_1 : Int) (a1_2 : Int) (a1_3 : Int) (r : Bool) (w : World) (h : torchonlaw06_GridsGroups.f k a0_0 a0_1 a0_2 a1_0 a1_1 a1_2 a1_3 = some r) :
  Calls Try.prog 7 #[.agg #[.int .i64 a0_0, .int .i64 a0_1, .int .i64 a0_2], .agg #[.int .i64 a1_0, .int .i64 a1_1, .int .i64 a1_2, .int .i64 a1_3]] w fun e w' => e = .returned (.bool r) ∧ Below w.heap.size w w' := by
 have hu23 := Try.underlying23
 have hu25 := Try.underlying25
 have HB := Aside0.mk (Below.refl w.heap.size w)
 have H : ((grids_Group.f k a0_0 a0_1 a0_2).bind fun q7 => ((torchonref06_Group.f k a0_0 a0_1 a0_2).bind fun q8 => ((grids_Keeps.f k a0_0 a0_1 a0_2 a1_0 a1_1 a1_2 a1_3).bind fun q9 => ((torchonref06_Keeps.f k a0_0 a0_1 a0_2 a1_0 a1_1 a1_2 a1_3).bind fun qa => ((torchonlaw06_same.f k q7.1 q8.1).bind fun qf => (if qf = true then (if q7.2 = q8.2 then (if (q9.1 == qa.1) = true then (if q9.2 = qa.2 then ((torchonlaw06_awake.f k).bind fun q4 => (some q4)) else (none)) else (none)) else (none)) else (none))))))) = some r := h
 clear h
 obtain ⟨⟨qg, qb⟩, A3, H⟩ := ob H
 obtain ⟨⟨qh, qc⟩, A4, H⟩ := ob H
 obtain ⟨⟨q5, qd⟩, A5, H⟩ := ob H
 obtain ⟨⟨q6, qe⟩, A6, H⟩ := ob H
 obtain ⟨qf, A7, H⟩ := ob H
 by_cases c8 : qf = true
 ·subst c8
  have H1 : (if qb = qc then (if (q5 == q6) = true then (if qd = qe then ((torchonlaw06_awake.f k).bind fun q4 => (some q4)) else (none)) else (none)) else (none)) = some r := by rw [if_pos rfl] at H; exact H
  clear H
  have H := H1
  clear H1
  by_cases c9 : qb = qc
  ·rw [if_pos c9] at H
   have qA : (qb == qc) = true := beq_iff_eq.mpr c9
   have qB : (qb != qc) = false := bne_eq_false_iff_eq.mpr c9
   clear c9
   by_cases c10 : (q5 == q6) = true
   ·rw [if_pos c10] at H
    have qv : (q5 == q6) = true := c10
    (try (have qw : decide (q5 = q6) = true := by simpa using c10))
    (try (have qx : (q5 == q6) = true := by simpa using c10))
    clear c10
    by_cases c11 : qd = qe
    ·rw [if_pos c11] at H
     have qy : (qd == qe) = true := beq_iff_eq.mpr c11
     have qz : (qd != qe) = false := bne_eq_false_iff_eq.mpr c11
     clear c11
     obtain ⟨q4, A12, H⟩ := ob H
     obtain rfl := Option.some.inj H
     go_enter Try.func7, Try.ntmps7
     go_wp2_with (first | ((with_reducible refine gate_dst (N := 2) rfl ?_); refine bx 2 #[.int .i64 a0_0, .int .i64 a0_1, .int .i64 a0_2] 23 fun qC hg w13 q0 hb => ?_; have qt := gw hg HB; have qr := gw hg HB; replace HB := bst HB hb; clear hb hg) | ((with_reducible refine gate_dst (N := 3) rfl ?_); refine bx 3 #[.int .i64 a1_0, .int .i64 a1_1, .int .i64 a1_2, .int .i64 a1_3] 25 fun qi hg w14 q1 hb => ?_; have qu := gw hg HB; have qs := gw hg HB; have ql := nlt hg q0; have qm := ngt hg q0; replace q0 := bb q0 hb; replace HB := bst HB hb; clear hb hg; have jh := ql.out; have ji := qm.out; have ⟨qD, qE, qF, qX, qY, qZ⟩ := cf3 q0) | ((with_reducible refine gate_callee (f := 22) rfl ?_); refine goesL_ (some 15) rfl rfl Try.func22 (by kernel_rfl) rfl #[.agg #[.int .i64 a0_0, .int .i64 a0_1, .int .i64 a0_2]] rfl am ?_; (with_reducible refine (grids_Group.calls k a0_0 a0_1 a0_2 qg qb _ A3.out).mono ?_); rintro e w17 ⟨v834, rfl, ho0, hb⟩; refine ⟨_, rfl, ?_⟩; have q2 := Aside0.mk (Kd.R_lower (Kd.R_newB ho0 (g := qi) (o := .cells #[.int .i64 a1_0, .int .i64 a1_1, .int .i64 a1_2, .int .i64 a1_3] 25 (0, 0)) (pk q1)) (below_size (bnow HB))); replace q0 := bb q0 hb; replace q1 := bb q1 hb; replace HB := bst HB hb; (try clear hb); (try clear hb2); (try clear hk); (try clear hi); (try clear ho0); have ⟨qG, qH, qI, j0, j1, j2⟩ := cf3 q0) | ((with_reducible refine gate_callee (f := 23) rfl ?_); refine goesL_ (some 20) rfl rfl Try.func23 (by kernel_rfl) rfl #[.agg #[.int .i64 a0_0, .int .i64 a0_1, .int .i64 a0_2]] rfl am ?_; (with_reducible refine (torchonref06_Group.calls k a0_0 a0_1 a0_2 qh qc _ A4.out).mono ?_); rintro e w19 ⟨v838, rfl, ho0, hb⟩; refine ⟨_, rfl, ?_⟩; have q3 := Aside0.mk (Kd.R_lower (Kd.R_newB (Kd.R_new' ho0 (Kd.R_lt (by (with_reducible repeat (first | apply Kd.R_alloc | apply Kd.R_drewN | apply Kd.R_drew)); exact q2.out))) (g := qi) (o := .cells #[.int .i64 a1_0, .int .i64 a1_1, .int .i64 a1_2, .int .i64 a1_3] 25 (0, 0)) (pk q1)) (below_size (bnow HB))); replace q2 := Aside0.mk (Kd.R_elder' (by (with_reducible repeat (first | apply Kd.R_alloc | apply Kd.R_drewN | apply Kd.R_drew)); exact q2.out) (Kd.R_base ho0) hb); replace q0 := bb q0 hb; replace q1 := bb q1 hb; replace HB := bst HB hb; (try clear hb); (try clear hb2); (try clear hk); (try clear hi); (try clear ho0); have ⟨qJ, qK, qL, j3, j4, j5⟩ := cf3 q0; have ⟨qM, qN, qO, qP, j6, j7, j8, j9⟩ := cf4 q1) | ((with_reducible refine gate_callee (f := 24) rfl ?_); refine gl 26 Try.func24 (grids_Keeps.calls k a0_0 a0_1 a0_2 a1_0 a1_1 a1_2 a1_3 q5 qd _ A5.out) ?_; rintro e w22 ⟨rfl, hb⟩; refine ⟨_, rfl, ?_⟩; replace q2 := Aside0.mk (Kd.R_below (by (with_reducible repeat (first | apply Kd.R_alloc | apply Kd.R_drewN | apply Kd.R_drew)); exact q2.out) hb); replace q3 := Aside0.mk (Kd.R_below (by (with_reducible repeat (first | apply Kd.R_alloc | apply Kd.R_drewN | apply Kd.R_drew)); exact q3.out) hb); replace q0 := bb q0 hb; replace q1 := bb q1 hb; replace HB := bst HB hb; (try clear hb); (try clear hb2); (try clear hk); (try clear hi); have ⟨qQ, qR, qS, ja, jb, jc⟩ := cf3 q0; have ⟨qT, qU, qV, qW, jd, je, jf, jg⟩ := cf4 q1) | ((with_reducible refine gate_callee (f := 25) rfl ?_); refine gl 32 Try.func25 (torchonref06_Keeps.calls k a0_0 a0_1 a0_2 a1_0 a1_1 a1_2 a1_3 q6 qe _ A6.out) ?_; rintro e w25 ⟨rfl, hb⟩; refine ⟨_, rfl, ?_⟩; replace q2 := Aside0.mk (Kd.R_below (by (with_reducible repeat (first | apply Kd.R_alloc | apply Kd.R_drewN | apply Kd.R_drew)); exact q2.out) hb); replace q3 := Aside0.mk (Kd.R_below (by (with_reducible repeat (first | apply Kd.R_alloc | apply Kd.R_drewN | apply Kd.R_drew)); exact q3.out) hb); replace q0 := bb q0 hb; replace q1 := bb q1 hb; replace HB := bst HB hb; (try clear hb); (try clear hb2); (try clear hk); (try clear hi); obtain ⟨qj, qn, qp⟩ := Kd.R_slice q2.out; subst qp; obtain ⟨qk, qo, qq⟩ := Kd.R_slice q3.out; subst qq) | ((with_reducible refine gate_callee (f := 26) rfl ?_); refine goesL_ (some 37) rfl rfl Try.func26 (by kernel_rfl) rfl #[.slice qj qg.length qn, .slice qk qh.length qo] rfl am ?_; (with_reducible refine (torchonlaw06_same.calls k _ _ qg _ _ qh true _ ?side1 ?side2 ?side3 ?side4 A7.out).mono ?_); (case side1 => repeat (first | exact (Kd.R_reads' q2.out).2.2 | (with_reducible refine Kd.C_alloc ?_ _) | (with_reducible refine Kd.C_drewN ?_ _) | (with_reducible refine Kd.C_drew ?_))); (case side2 => exact (Kd.R_reads' q2.out).2.1); (case side3 => repeat (first | exact (Kd.R_reads' q3.out).2.2 | (with_reducible refine Kd.C_alloc ?_ _) | (with_reducible refine Kd.C_drewN ?_ _) | (with_reducible refine Kd.C_drew ?_))); (case side4 => exact (Kd.R_reads' q3.out).2.1); rintro e w' ⟨rfl, ⟨nd, rfl⟩⟩; refine ⟨_, rfl, ?_⟩) | (go_at_call 13; (with_reducible refine (torchonlaw06_awake.calls k  q4 _ A12.out).mono ?_); rintro e w28 ⟨rfl, hb⟩; replace q2 := Aside0.mk (Kd.R_below (by (with_reducible repeat (first | apply Kd.R_alloc | apply Kd.R_drewN | apply Kd.R_drew)); exact q2.out) hb); replace q3 := Aside0.mk (Kd.R_below (by (with_reducible repeat (first | apply Kd.R_alloc | apply Kd.R_drewN | apply Kd.R_drew)); exact q3.out) hb); replace q0 := bb q0 hb; replace q1 := bb q1 hb; replace HB := bst HB hb; (try clear hb); (try clear hb2); (try clear hk); (try clear hi)))
     go_ret
     exact rt HB
    ·rw [if_neg c11] at H
     exact absurd H (by simp)
   ·rw [if_neg c10] at H
    exact absurd H (by simp)
  ·rw [if_neg c9] at H
   exact absurd H (by simp)
 ·replace c8 := Bool.eq_false_iff.mpr c8
  subst c8
  have H1 : (none) = some r := by rw [if_neg (show ¬ (false = true) by decide)] at H; exact H
  clear H
  have H := H1
  clear H1
  exact absurd H (by simp)
end
section
/-! ### torchonlaw06_lead: function 16 -/
def torchonlaw06_lead.f (a0_0 : Int) (a0_1 : Int) (a0_2 : Int) (a1_0 : Int) (a1_1 : Int) (a1_2 : Int) (a1_3 : Int) : Option (Int × Int × Int) := (torchonlaw06_pt.f a1_0 a1_2).bind fun qE => ((torchonlaw06_pt.f a1_1 a1_3).bind fun qF => ((torchonref06_Product.f a0_0 a0_1 a0_2 qE.1 qE.2 qE.1 qE.2).bind fun qW => ((torchonref06_Product.f a0_0 a0_1 a0_2 qE.1 qE.2 qF.1 qF.2).bind fun qX => ((torchonref06_Product.f a0_0 a0_1 a0_2 qF.1 qF.2 qF.1 qF.2).bind fun j2 => (some (qW, qX, j2))))))
def torchonlaw06_lead.T1 : Bool × List (List Nat × List Nat) := (true, [([], []), ([0], [0]), ([], []), ([2], [2]), ([1, 3], [1, 3]), ([], []), ([5], [5]), ([], []), ([7], [7]), ([6, 8, 4], [6, 8]), ([], []), ([], []), ([10, 4, 9, 0, 1, 2, 3, 4, 10, 11], [4, 10]), ([11, 9, 12, 0, 1, 2, 3, 4, 5, 6, 7, 8, 9, 10, 11, 12], [9, 11])])
def torchonlaw06_lead.B1 : List Nat := [0, 1, 0, 4, 15, 0, 32, 0, 128, 511, 0, 0, 4095, 8191]
theorem torchonlaw06_lead.tab1 : rtab .any (opsOf Try.f16 1) = torchonlaw06_lead.T1 := by kernel_rfl
theorem torchonlaw06_lead.bits1 : waitsOk torchonlaw06_lead.T1.2 torchonlaw06_lead.B1 = true := by kernel_rfl
def torchonlaw06_lead.T2 : Bool × List (List Nat × List Nat) := (true, [([], []), ([], []), ([], []), ([0, 1, 2], [0, 1, 2]), ([], []), ([], []), ([], []), ([4, 5, 6, 3], [4, 5, 6]), ([], []), ([], []), ([], []), ([8, 9, 10, 7], [8, 9, 10]), ([3, 7, 11], [3, 7, 11]), ([12, 11, 0, 1, 2, 3, 4, 5, 6, 7, 8, 9, 10, 11, 12], [12])])
def torchonlaw06_lead.B2 : List Nat := [0, 0, 0, 7, 0, 0, 0, 127, 0, 0, 0, 2047, 4095, 8191]
theorem torchonlaw06_lead.tab2 : rtab .any (opsOf Try.f16 2) = torchonlaw06_lead.T2 := by kernel_rfl
theorem torchonlaw06_lead.bits2 : waitsOk torchonlaw06_lead.T2.2 torchonlaw06_lead.B2 = true := by kernel_rfl
set_option maxHeartbeats 8000000 in
set_option maxRecDepth 100000 in
theorem torchonlaw06_lead.calls (a0_0 : Int) (a0_1 : Int) (a0_2 : Int) (a1_0 : Int) (a1_1 : Int) (a1_2 : Int) (a1_3 : Int) (r1 : Int) (r2 : Int) (r3 : Int) (w : World) (h : torchonlaw06_lead.f a0_0 a0_1 a0_2 a1_0 a1_1 a1_2 a1_3 = some (r1, r2, r3)) :
  Calls Try.prog 16 #[.agg #[.int .i64 a0_0, .int .i64 a0_1, .int .i64 a0_2], .agg #[.int .i64 a1_0, .int .i64 a1_1, .int .i64 a1_2, .int .i64 a1_3]] w fun e w' => e = .returned (.agg #[.int .i64 r1, .int .i64 r2, .int .i64 r3]) ∧ Below w.heap.size w w' := by
 have hu23 := Try.underlying23
 have hu25 := Try.underlying25
 have hu37 := Try.underlying37
 have HB := Aside0.mk (Below.refl w.heap.size w)
 have H : ((torchonlaw06_pt.f a1_0 a1_2).bind fun qE => ((torchonlaw06_pt.f a1_1 a1_3).bind fun qF => ((torchonref06_Product.f a0_0 a0_1 a0_2 qE.1 qE.2 qE.1 qE.2).bind fun qW => ((torchonref06_Product.f a0_0 a0_1 a0_2 qE.1 qE.2 qF.1 qF.2).bind fun qX => ((torchonref06_Product.f a0_0 a0_1 a0_2 qF.1 qF.2 qF.1 qF.2).bind fun j2 => (some (qW, qX, j2))))))) = some (r1, r2, r3) := h
 clear h
 obtain ⟨⟨qN, qP⟩, A3, H⟩ := ob H
 obtain ⟨⟨qO, qQ⟩, A4, H⟩ := ob H
 obtain ⟨qW, A5, H⟩ := ob H
 obtain ⟨qX, A6, H⟩ := ob H
 obtain ⟨j2, A7, H⟩ := ob H
 simp only [Option.some.injEq, Prod.mk.injEq] at H
 obtain ⟨rfl, rfl, rfl⟩ := H
 go_enter Try.func16, Try.ntmps16
 try go_wp2_with (first | ((with_reducible refine gate_dst (N := 2) rfl ?_); refine bx 2 #[.int .i64 a0_0, .int .i64 a0_1, .int .i64 a0_2] 23 fun qV hg w8 q0 hb => ?_; have jg := gw hg HB; have jd := gw hg HB; replace HB := bst HB hb; clear hb hg) | ((with_reducible refine gate_dst (N := 3) rfl ?_); refine bx 3 #[.int .i64 a1_0, .int .i64 a1_1, .int .i64 a1_2, .int .i64 a1_3] 25 fun qb hg w9 q1 hb => ?_; have jh := gw hg HB; have je := gw hg HB; have jj := nlt hg q0; have jk := ngt hg q0; replace q0 := bb q0 hb; replace HB := bst HB hb; clear hb hg) | ((with_reducible refine gate_dst (N := 4) rfl ?_); refine bx 4 #[.int .i64 0, .int .i64 0, .int .i64 0] 23 fun q5 hg w10 q4 hb => ?_; have ji := gw hg HB; have jf := gw hg HB; have qG := nlt hg q0; have j9 := ngt hg q0; have j8 := nlt hg q1; have ja := ngt hg q1; replace q0 := bb q0 hb; replace q1 := bb q1 hb; replace HB := bst HB hb; clear hb hg))
 replace q0 := bd q0
 replace q1 := bd q1
 replace q4 := bd q4
 replace HB := bdn HB
 refine start_ (n := 14) (S := fun w' => True) (ds := []) #[false, false, false, false, false, false, false, false, false, false, false, false, false, false] (by kernel_rfl) rfl rfl trivial (fun hHeld => ?_); refine with_tabW torchonlaw06_lead.tab1 torchonlaw06_lead.bits1 (fun HT_ HW_ => ?_)
 generalize w10.drew = w11 at q0 q1 q4 HB hHeld ⊢
 refine pz 0 7 HT_ ?_
 refine pz 2 9 HT_ ?_
 refine pz 5 12 HT_ ?_
 refine pz 7 14 HT_ ?_
 refine inv_at [1, 3, 4, 6, 8, 9, 10, 11, 12, 13] (fun a0_ b a w' => ∃ (q2 : Nat) (q3 : Nat) (qc : Value) (qd : Value), a = putSel a0_ b [(1, 8, .int .i64 a1_0), (3, 10, .int .i64 a1_2), (4, 11, .agg #[.int .i64 qN, .int .i64 qP]), (6, 13, .int .i64 a1_1), (8, 15, .int .i64 a1_3), (9, 16, .agg #[.int .i64 qO, .int .i64 qQ]), (10, 5, qc), (11, 6, qd)] ∧ (w'.heap[qV]? = some (.cells #[.int .i64 a0_0, .int .i64 a0_1, .int .i64 a0_2] 23 (0, 0))) ∧ (w'.heap[qb]? = some (.cells #[.int .i64 a1_0, .int .i64 a1_1, .int .i64 a1_2, .int .i64 a1_3] 25 (0, 0))) ∧ (w'.heap[q5]? = some (.cells #[.int .i64 0, .int .i64 0, .int .i64 0] 23 (0, 0))) ∧ (Below w.heap.size w w') ∧ (b 10 = true → b 11 = true → q3 ≠ q2) ∧ (b 10 = true → b 11 = true → q2 ≠ q3) ∧ (b 10 = true → b 12 = false → w'.heap[q2]? = some (.cells #[.int .i64 0, .int .i64 0] 37 (0, 0))) ∧ (b 10 = true → w.heap.size ≤ q2) ∧ (b 10 = true → w.heap.size ≤ q2) ∧ (b 10 = true → qV ≠ q2) ∧ (b 10 = true → q2 ≠ qV) ∧ (b 10 = true → qb ≠ q2) ∧ (b 10 = true → q2 ≠ qb) ∧ (b 10 = true → q5 ≠ q2) ∧ (b 10 = true → q2 ≠ q5) ∧ (b 11 = true → b 13 = false → w'.heap[q3]? = some (.cells #[.int .i64 0, .int .i64 0] 37 (0, 0))) ∧ (b 11 = true → w.heap.size ≤ q3) ∧ (b 11 = true → w.heap.size ≤ q3) ∧ (b 11 = true → qV ≠ q3) ∧ (b 11 = true → q3 ≠ qV) ∧ (b 11 = true → qb ≠ q3) ∧ (b 11 = true → q3 ≠ qb) ∧ (b 11 = true → q5 ≠ q3) ∧ (b 11 = true → q3 ≠ q5) ∧ (b 12 = true → w'.heap[q2]? = some (.cells #[.int .i64 qN, .int .i64 qP] 37 (0, 0))) ∧ (b 13 = true → w'.heap[q3]? = some (.cells #[.int .i64 qO, .int .i64 qQ] 37 (0, 0))) ∧ (b 10 = true → (qc : Value) = .pointer (some ⟨q2, 0, none⟩)) ∧ (b 11 = true → (qd : Value) = .pointer (some ⟨q3, 0, none⟩))) HT_.out HW_.out (by kernel_rfl) (by kernel_rfl) ?_ ?_ ?_
 ·exact ⟨0, 0, .bool false, .bool false, by simp only [putSel, Bool.false_eq_true, if_false], q0.out, q1.out, q4.out, HB.out, fun h_ => absurd h_ (by decide), fun h_ => absurd h_ (by decide), fun h_ => absurd h_ (by decide), fun h_ => absurd h_ (by decide), fun h_ => absurd h_ (by decide), fun h_ => absurd h_ (by decide), fun h_ => absurd h_ (by decide), fun h_ => absurd h_ (by decide), fun h_ => absurd h_ (by decide), fun h_ => absurd h_ (by decide), fun h_ => absurd h_ (by decide), fun h_ => absurd h_ (by decide), fun h_ => absurd h_ (by decide), fun h_ => absurd h_ (by decide), fun h_ => absurd h_ (by decide), fun h_ => absurd h_ (by decide), fun h_ => absurd h_ (by decide), fun h_ => absurd h_ (by decide), fun h_ => absurd h_ (by decide), fun h_ => absurd h_ (by decide), fun h_ => absurd h_ (by decide), fun h_ => absurd h_ (by decide), fun h_ => absurd h_ (by decide), fun h_ => absurd h_ (by decide)⟩
 ·skip
  clear q0 q1 q4 HB
  refine steps_cons ?_ ?_
  ·rintro b a w' ⟨q2, q3, qc, qd, ha, q8, q9, qa, Q_HB, qx, qw, qf, qi, qg, qk, qq, qm, qr, qo, qs, qe, qj, qh, ql, qt, qn, qu, qp, qv, qA, qB, Q_X10_, Q_X11_⟩ hb_ hon hoff
   refine ⟨_, rfl, fun K hK => ?_⟩
   have e7 : a.tmps[7]? = some (.pointer (some ⟨qb, 0, none⟩)) := by rw [ha]; exact (putSel_off rfl).trans rfl
   replace ha := Aside0.mk ha
   have q0 := Aside0.mk q8
   have q1 := Aside0.mk q9
   have q4 := Aside0.mk qa
   have HB := Aside0.mk Q_HB
   have hc0_ : w'.cell? ⟨qb, 0, none⟩ = some (.int .i64 a1_0) := (blk_cell q1.out 0).trans rfl
   have hc1_ : w'.cell? ⟨qb, 1, none⟩ = some (.int .i64 a1_1) := (blk_cell q1.out 1).trans rfl
   have hc2_ : w'.cell? ⟨qb, 2, none⟩ = some (.int .i64 a1_2) := (blk_cell q1.out 2).trans rfl
   have hc3_ : w'.cell? ⟨qb, 3, none⟩ = some (.int .i64 a1_3) := (blk_cell q1.out 3).trans rfl
   refine value_ (w1 := w') (v := .int .i64 a1_0) (by rfl) rfl ?_ ?_
   ·go_simp
    (try simp only [i64_w])
    try rfl
   refine hK.out _ _ ⟨q2, q3, qc, qd, (by rw [ha.out]; exact putSel_upk 0 hb_ rfl rfl rfl), q8, q9, qa, Q_HB, qx, qw, qf, qi, qg, qk, qq, qm, qr, qo, qs, qe, qj, qh, ql, qt, qn, qu, qp, qv, fun h0_ => absurd ((hoff 12 (by kernel_rfl)).symm.trans h0_) (by decide), fun h0_ => absurd ((hoff 13 (by kernel_rfl)).symm.trans h0_) (by decide), Q_X10_, Q_X11_⟩
  refine steps_cons ?_ ?_
  ·rintro b a w' ⟨q2, q3, qc, qd, ha, q8, q9, qa, Q_HB, qx, qw, qf, qi, qg, qk, qq, qm, qr, qo, qs, qe, qj, qh, ql, qt, qn, qu, qp, qv, qA, qB, Q_X10_, Q_X11_⟩ hb_ hon hoff
   refine ⟨_, rfl, fun K hK => ?_⟩
   have e9 : a.tmps[9]? = some (.pointer (some ⟨qb, 2, none⟩)) := by rw [ha]; exact (putSel_off rfl).trans rfl
   replace ha := Aside0.mk ha
   have q0 := Aside0.mk q8
   have q1 := Aside0.mk q9
   have q4 := Aside0.mk qa
   have HB := Aside0.mk Q_HB
   have hc0_ : w'.cell? ⟨qb, 0, none⟩ = some (.int .i64 a1_0) := (blk_cell q1.out 0).trans rfl
   have hc1_ : w'.cell? ⟨qb, 1, none⟩ = some (.int .i64 a1_1) := (blk_cell q1.out 1).trans rfl
   have hc2_ : w'.cell? ⟨qb, 2, none⟩ = some (.int .i64 a1_2) := (blk_cell q1.out 2).trans rfl
   have hc3_ : w'.cell? ⟨qb, 3, none⟩ = some (.int .i64 a1_3) := (blk_cell q1.out 3).trans rfl
   refine value_ (w1 := w') (v := .int .i64 a1_2) (by rfl) rfl ?_ ?_
   ·go_simp
    (try simp only [i64_w])
    try rfl
   refine hK.out _ _ ⟨q2, q3, qc, qd, (by rw [ha.out]; exact putSel_upk 1 hb_ rfl rfl rfl), q8, q9, qa, Q_HB, qx, qw, qf, qi, qg, qk, qq, qm, qr, qo, qs, qe, qj, qh, ql, qt, qn, qu, qp, qv, fun h0_ => absurd ((hoff 12 (by kernel_rfl)).symm.trans h0_) (by decide), fun h0_ => absurd ((hoff 13 (by kernel_rfl)).symm.trans h0_) (by decide), Q_X10_, Q_X11_⟩
  refine steps_cons ?_ ?_
  ·rintro b a w' ⟨q2, q3, qc, qd, ha, q8, q9, qa, Q_HB, qx, qw, qf, qi, qg, qk, qq, qm, qr, qo, qs, qe, qj, qh, ql, qt, qn, qu, qp, qv, qA, qB, Q_X10_, Q_X11_⟩ hb_ hon hoff
   refine ⟨_, rfl, fun K hK => ?_⟩
   have e8 : a.tmps[8]? = some (.int .i64 a1_0) := by rw [ha]; exact putSel_on (e := (1, 8, .int .i64 a1_0)) 0 rfl rfl (hon 1 (by kernel_rfl)) rfl
   have e10 : a.tmps[10]? = some (.int .i64 a1_2) := by rw [ha]; exact putSel_on (e := (3, 10, .int .i64 a1_2)) 1 rfl rfl (hon 3 (by kernel_rfl)) rfl
   replace ha := Aside0.mk ha
   have q0 := Aside0.mk q8
   have q1 := Aside0.mk q9
   have q4 := Aside0.mk qa
   have HB := Aside0.mk Q_HB
   refine goes_ Try.func19 (by kernel_rfl) rfl #[.int .i64 a1_0, .int .i64 a1_2] (by rfl) rfl rfl (by first | (simp only [List.map_toArray, List.map_cons, List.map_nil, Act.eval, Array.getD_eq_getD_getElem?, Option.getD_some, e8, e10]; done) | (simp only [List.map_toArray, List.map_cons, List.map_nil, Act.eval, Array.getD_eq_getD_getElem?, Option.getD_some, e8, e10]; rfl)) ?_
   with_reducible refine (torchonlaw06_pt.calls a1_0 a1_2 qN qP _ A3.out).mono ?_
   rintro e w12 ⟨rfl, hb⟩
   refine ⟨_, rfl, ?_⟩
   have n0_ := bb q0 hb
   have n1_ := bb q1 hb
   have n2_ := bb q4 hb
   have n3_ := bst HB hb
   have j6 := fun (h0_ : b 10 = true) (h1_ : b 12 = false) => (show w12.heap[q2]? = some (.cells #[.int .i64 0, .int .i64 0] 37 (0, 0)) from by first | exact (blk_below (g := q2) (o := .cells #[.int .i64 0, .int .i64 0] 37 (0, 0)) (by (with_reducible repeat (first | refine blk_drewN ?_ _ | refine blk_drew ?_ | refine blk_alloc ?_ _)); exact (qf h0_ h1_)) hb))
   have j7 := fun (h0_ : b 11 = true) (h1_ : b 13 = false) => (show w12.heap[q3]? = some (.cells #[.int .i64 0, .int .i64 0] 37 (0, 0)) from by first | exact (blk_below (g := q3) (o := .cells #[.int .i64 0, .int .i64 0] 37 (0, 0)) (by (with_reducible repeat (first | refine blk_drewN ?_ _ | refine blk_drew ?_ | refine blk_alloc ?_ _)); exact (qe h0_ h1_)) hb))
   clear q0
   clear q1
   clear q4
   clear HB
   have q0 := n0_
   have q1 := n1_
   have q4 := n2_
   have HB := n3_
   clear n0_ n1_ n2_ n3_
   (try clear hb)
   (try clear hb2)
   (try clear hk)
   (try clear hi)
   refine hK.out _ _ ⟨q2, q3, qc, qd, (by rw [ha.out]; exact putSel_upk 2 hb_ rfl rfl rfl), (pk q0), (pk q1), (pk q4), (bnow HB), qx, qw, j6, qi, qg, qk, qq, qm, qr, qo, qs, j7, qj, qh, ql, qt, qn, qu, qp, qv, fun h0_ => absurd ((hoff 12 (by kernel_rfl)).symm.trans h0_) (by decide), fun h0_ => absurd ((hoff 13 (by kernel_rfl)).symm.trans h0_) (by decide), Q_X10_, Q_X11_⟩
  refine steps_cons ?_ ?_
  ·rintro b a w' ⟨q2, q3, qc, qd, ha, q8, q9, qa, Q_HB, qx, qw, qf, qi, qg, qk, qq, qm, qr, qo, qs, qe, qj, qh, ql, qt, qn, qu, qp, qv, qA, qB, Q_X10_, Q_X11_⟩ hb_ hon hoff
   refine ⟨_, rfl, fun K hK => ?_⟩
   have e12 : a.tmps[12]? = some (.pointer (some ⟨qb, 1, none⟩)) := by rw [ha]; exact (putSel_off rfl).trans rfl
   replace ha := Aside0.mk ha
   have q0 := Aside0.mk q8
   have q1 := Aside0.mk q9
   have q4 := Aside0.mk qa
   have HB := Aside0.mk Q_HB
   have hc0_ : w'.cell? ⟨qb, 0, none⟩ = some (.int .i64 a1_0) := (blk_cell q1.out 0).trans rfl
   have hc1_ : w'.cell? ⟨qb, 1, none⟩ = some (.int .i64 a1_1) := (blk_cell q1.out 1).trans rfl
   have hc2_ : w'.cell? ⟨qb, 2, none⟩ = some (.int .i64 a1_2) := (blk_cell q1.out 2).trans rfl
   have hc3_ : w'.cell? ⟨qb, 3, none⟩ = some (.int .i64 a1_3) := (blk_cell q1.out 3).trans rfl
   refine value_ (w1 := w') (v := .int .i64 a1_1) (by rfl) rfl ?_ ?_
   ·go_simp
    (try simp only [i64_w])
    try rfl
   refine hK.out _ _ ⟨q2, q3, qc, qd, (by rw [ha.out]; exact putSel_upk 3 hb_ rfl rfl rfl), q8, q9, qa, Q_HB, qx, qw, qf, qi, qg, qk, qq, qm, qr, qo, qs, qe, qj, qh, ql, qt, qn, qu, qp, qv, fun h0_ => absurd ((hoff 12 (by kernel_rfl)).symm.trans h0_) (by decide), fun h0_ => absurd ((hoff 13 (by kernel_rfl)).symm.trans h0_) (by decide), Q_X10_, Q_X11_⟩
  refine steps_cons ?_ ?_
  ·rintro b a w' ⟨q2, q3, qc, qd, ha, q8, q9, qa, Q_HB, qx, qw, qf, qi, qg, qk, qq, qm, qr, qo, qs, qe, qj, qh, ql, qt, qn, qu, qp, qv, qA, qB, Q_X10_, Q_X11_⟩ hb_ hon hoff
   refine ⟨_, rfl, fun K hK => ?_⟩
   have e14 : a.tmps[14]? = some (.pointer (some ⟨qb, 3, none⟩)) := by rw [ha]; exact (putSel_off rfl).trans rfl
   replace ha := Aside0.mk ha
   have q0 := Aside0.mk q8
   have q1 := Aside0.mk q9
   have q4 := Aside0.mk qa
   have HB := Aside0.mk Q_HB
   have hc0_ : w'.cell? ⟨qb, 0, none⟩ = some (.int .i64 a1_0) := (blk_cell q1.out 0).trans rfl
   have hc1_ : w'.cell? ⟨qb, 1, none⟩ = some (.int .i64 a1_1) := (blk_cell q1.out 1).trans rfl
   have hc2_ : w'.cell? ⟨qb, 2, none⟩ = some (.int .i64 a1_2) := (blk_cell q1.out 2).trans rfl
   have hc3_ : w'.cell? ⟨qb, 3, none⟩ = some (.int .i64 a1_3) := (blk_cell q1.out 3).trans rfl
   refine value_ (w1 := w') (v := .int .i64 a1_3) (by rfl) rfl ?_ ?_
   ·go_simp
    (try simp only [i64_w])
    try rfl
   refine hK.out _ _ ⟨q2, q3, qc, qd, (by rw [ha.out]; exact putSel_upk 4 hb_ rfl rfl rfl), q8, q9, qa, Q_HB, qx, qw, qf, qi, qg, qk, qq, qm, qr, qo, qs, qe, qj, qh, ql, qt, qn, qu, qp, qv, fun h0_ => absurd ((hoff 12 (by kernel_rfl)).symm.trans h0_) (by decide), fun h0_ => absurd ((hoff 13 (by kernel_rfl)).symm.trans h0_) (by decide), Q_X10_, Q_X11_⟩
  refine steps_cons ?_ ?_
  ·rintro b a w' ⟨q2, q3, qc, qd, ha, q8, q9, qa, Q_HB, qx, qw, qf, qi, qg, qk, qq, qm, qr, qo, qs, qe, qj, qh, ql, qt, qn, qu, qp, qv, qA, qB, Q_X10_, Q_X11_⟩ hb_ hon hoff
   refine ⟨_, rfl, fun K hK => ?_⟩
   have e13 : a.tmps[13]? = some (.int .i64 a1_1) := by rw [ha]; exact putSel_on (e := (6, 13, .int .i64 a1_1)) 3 rfl rfl (hon 6 (by kernel_rfl)) rfl
   have e15 : a.tmps[15]? = some (.int .i64 a1_3) := by rw [ha]; exact putSel_on (e := (8, 15, .int .i64 a1_3)) 4 rfl rfl (hon 8 (by kernel_rfl)) rfl
   replace ha := Aside0.mk ha
   have q0 := Aside0.mk q8
   have q1 := Aside0.mk q9
   have q4 := Aside0.mk qa
   have HB := Aside0.mk Q_HB
   refine goes_ Try.func19 (by kernel_rfl) rfl #[.int .i64 a1_1, .int .i64 a1_3] (by rfl) rfl rfl (by first | (simp only [List.map_toArray, List.map_cons, List.map_nil, Act.eval, Array.getD_eq_getD_getElem?, Option.getD_some, e13, e15]; done) | (simp only [List.map_toArray, List.map_cons, List.map_nil, Act.eval, Array.getD_eq_getD_getElem?, Option.getD_some, e13, e15]; rfl)) ?_
   with_reducible refine (torchonlaw06_pt.calls a1_1 a1_3 qO qQ _ A4.out).mono ?_
   rintro e w14 ⟨rfl, hb⟩
   refine ⟨_, rfl, ?_⟩
   have n0_ := bb q0 hb
   have n1_ := bb q1 hb
   have n2_ := bb q4 hb
   have n3_ := bst HB hb
   have j6 := fun (h0_ : b 10 = true) (h1_ : b 12 = false) => (show w14.heap[q2]? = some (.cells #[.int .i64 0, .int .i64 0] 37 (0, 0)) from by first | exact (blk_below (g := q2) (o := .cells #[.int .i64 0, .int .i64 0] 37 (0, 0)) (by (with_reducible repeat (first | refine blk_drewN ?_ _ | refine blk_drew ?_ | refine blk_alloc ?_ _)); exact (qf h0_ h1_)) hb))
   have j7 := fun (h0_ : b 11 = true) (h1_ : b 13 = false) => (show w14.heap[q3]? = some (.cells #[.int .i64 0, .int .i64 0] 37 (0, 0)) from by first | exact (blk_below (g := q3) (o := .cells #[.int .i64 0, .int .i64 0] 37 (0, 0)) (by (with_reducible repeat (first | refine blk_drewN ?_ _ | refine blk_drew ?_ | refine blk_alloc ?_ _)); exact (qe h0_ h1_)) hb))
   clear q0
   clear q1
   clear q4
   clear HB
   have q0 := n0_
   have q1 := n1_
   have q4 := n2_
   have HB := n3_
   clear n0_ n1_ n2_ n3_
   (try clear hb)
   (try clear hb2)
   (try clear hk)
   (try clear hi)
   refine hK.out _ _ ⟨q2, q3, qc, qd, (by rw [ha.out]; exact putSel_upk 5 hb_ rfl rfl rfl), (pk q0), (pk q1), (pk q4), (bnow HB), qx, qw, j6, qi, qg, qk, qq, qm, qr, qo, qs, j7, qj, qh, ql, qt, qn, qu, qp, qv, fun h0_ => absurd ((hoff 12 (by kernel_rfl)).symm.trans h0_) (by decide), fun h0_ => absurd ((hoff 13 (by kernel_rfl)).symm.trans h0_) (by decide), Q_X10_, Q_X11_⟩
  refine steps_cons ?_ ?_
  ·rintro b a w' ⟨q2, q3, qc, qd, ha, q8, q9, qa, Q_HB, qx, qw, qf, qi, qg, qk, qq, qm, qr, qo, qs, qe, qj, qh, ql, qt, qn, qu, qp, qv, qA, qB, Q_X10_, Q_X11_⟩ hb_ hon hoff
   refine ⟨_, rfl, fun K hK => ?_⟩
   replace ha := Aside0.mk ha
   have q0 := Aside0.mk q8
   have q1 := Aside0.mk q9
   have q4 := Aside0.mk qa
   have HB := Aside0.mk Q_HB
   refine box_step ?hg (N := 5) ?hd (cs := #[.int .i64 0, .int .i64 0]) (t := 37) ?hr ?_; (case hd => rfl); (case hg => rfl); (case hr => first | (go_simp; done) | (go_simp; rfl))
   intro q2 hg w12 hbox hb
   have n0_ := bb q0 hb
   have n1_ := bb q1 hb
   have n2_ := bb q4 hb
   have n3_ := bst HB hb
   have n4_ := Aside0.mk (hbox)
   have n5_ := gw hg HB
   have n6_ := gw hg HB
   have n7_ := nlt hg q0
   have n8_ := ngt hg q0
   have n9_ := nlt hg q1
   have j3 := ngt hg q1
   have j4 := nlt hg q4
   have j5 := ngt hg q4
   have jc := fun (h0_ : up b 10 10 = true) (h1_ : up b 10 11 = true) => (show q3 ≠ q2 from (by cases hb_ : b 13 with | false => exact ((by rw [hg]; exact Nat.ne_of_lt (blk_lt (g := q3) (o := .cells #[.int .i64 0, .int .i64 0] 37 (0, 0)) (by (with_reducible repeat (first | refine blk_drewN ?_ _ | refine blk_drew ?_ | refine blk_alloc ?_ _)); exact (qe h1_ hb_))) : q3 ≠ q2)) | true => exact ((by rw [hg]; exact Nat.ne_of_lt (blk_lt (g := q3) (by (with_reducible repeat (first | refine blk_drewN ?_ _ | refine blk_drew ?_ | refine blk_alloc ?_ _)); exact (qB hb_))) : q3 ≠ q2))))
   have jb := fun (h0_ : up b 10 10 = true) (h1_ : up b 10 11 = true) => (show q2 ≠ q3 from (by cases hb_ : b 13 with | false => exact ((by rw [hg]; exact Nat.ne_of_gt (blk_lt (g := q3) (o := .cells #[.int .i64 0, .int .i64 0] 37 (0, 0)) (by (with_reducible repeat (first | refine blk_drewN ?_ _ | refine blk_drew ?_ | refine blk_alloc ?_ _)); exact (qe h1_ hb_))) : q2 ≠ q3)) | true => exact ((by rw [hg]; exact Nat.ne_of_gt (blk_lt (g := q3) (by (with_reducible repeat (first | refine blk_drewN ?_ _ | refine blk_drew ?_ | refine blk_alloc ?_ _)); exact (qB hb_))) : q2 ≠ q3))))
   have j7 := fun (h0_ : b 11 = true) (h1_ : b 13 = false) => (show w12.heap[q3]? = some (.cells #[.int .i64 0, .int .i64 0] 37 (0, 0)) from by first | exact (blk_below (g := q3) (o := .cells #[.int .i64 0, .int .i64 0] 37 (0, 0)) (by (with_reducible repeat (first | refine blk_drewN ?_ _ | refine blk_drew ?_ | refine blk_alloc ?_ _)); exact (qe h0_ h1_)) hb))
   clear q0
   clear q1
   clear q4
   clear HB
   have q0 := n0_
   have q1 := n1_
   have q4 := n2_
   have HB := n3_
   have q6 := n4_
   have j0 := n5_
   have qY := n6_
   have qH := n7_
   have qR := n8_
   have qJ := n9_
   have qS := j3
   have qC := j4
   have qy := j5
   clear n0_ n1_ n2_ n3_ n4_ n5_ n6_ n7_ n8_ n9_ j3 j4 j5
   clear hb hg
   refine hK.out _ _ ⟨q2, q3, (.pointer (some ⟨q2, 0, none⟩)), qd, (by rw [ha.out]; exact putSel_upk 6 hb_ rfl rfl rfl), (pk q0), (pk q1), (pk q4), (bnow HB), jc, jb, fun _ _ => (pk q6), fun _ => j0.out, fun _ => qY.out, fun _ => qH.out, fun _ => qR.out, fun _ => qJ.out, fun _ => qS.out, fun _ => qC.out, fun _ => qy.out, j7, qj, qh, ql, qt, qn, qu, qp, qv, fun h0_ => absurd ((hoff 12 (by kernel_rfl)).symm.trans h0_) (by decide), fun h0_ => absurd ((hoff 13 (by kernel_rfl)).symm.trans h0_) (by decide), fun _ => rfl, Q_X11_⟩
  refine steps_cons ?_ ?_
  ·rintro b a w' ⟨q2, q3, qc, qd, ha, q8, q9, qa, Q_HB, qx, qw, qf, qi, qg, qk, qq, qm, qr, qo, qs, qe, qj, qh, ql, qt, qn, qu, qp, qv, qA, qB, Q_X10_, Q_X11_⟩ hb_ hon hoff
   refine ⟨_, rfl, fun K hK => ?_⟩
   replace ha := Aside0.mk ha
   have q0 := Aside0.mk q8
   have q1 := Aside0.mk q9
   have q4 := Aside0.mk qa
   have HB := Aside0.mk Q_HB
   refine box_step ?hg (N := 6) ?hd (cs := #[.int .i64 0, .int .i64 0]) (t := 37) ?hr ?_; (case hd => rfl); (case hg => rfl); (case hr => first | (go_simp; done) | (go_simp; rfl))
   intro q3 hg w12 hbox hb
   have n0_ := bb q0 hb
   have n1_ := bb q1 hb
   have n2_ := bb q4 hb
   have n3_ := bst HB hb
   have n4_ := Aside0.mk (hbox)
   have n5_ := gw hg HB
   have n6_ := gw hg HB
   have n7_ := nlt hg q0
   have n8_ := ngt hg q0
   have n9_ := nlt hg q1
   have j3 := ngt hg q1
   have j4 := nlt hg q4
   have j5 := ngt hg q4
   have jc := fun (h0_ : up b 11 10 = true) (h1_ : up b 11 11 = true) => (show q3 ≠ q2 from (by cases hb_ : b 12 with | false => exact ((by rw [hg]; exact Nat.ne_of_gt (blk_lt (g := q2) (o := .cells #[.int .i64 0, .int .i64 0] 37 (0, 0)) (by (with_reducible repeat (first | refine blk_drewN ?_ _ | refine blk_drew ?_ | refine blk_alloc ?_ _)); exact (qf h0_ hb_))) : q3 ≠ q2)) | true => exact ((by rw [hg]; exact Nat.ne_of_gt (blk_lt (g := q2) (by (with_reducible repeat (first | refine blk_drewN ?_ _ | refine blk_drew ?_ | refine blk_alloc ?_ _)); exact (qA hb_))) : q3 ≠ q2))))
   have jb := fun (h0_ : up b 11 10 = true) (h1_ : up b 11 11 = true) => (show q2 ≠ q3 from (by cases hb_ : b 12 with | false => exact ((by rw [hg]; exact Nat.ne_of_lt (blk_lt (g := q2) (o := .cells #[.int .i64 0, .int .i64 0] 37 (0, 0)) (by (with_reducible repeat (first | refine blk_drewN ?_ _ | refine blk_drew ?_ | refine blk_alloc ?_ _)); exact (qf h0_ hb_))) : q2 ≠ q3)) | true => exact ((by rw [hg]; exact Nat.ne_of_lt (blk_lt (g := q2) (by (with_reducible repeat (first | refine blk_drewN ?_ _ | refine blk_drew ?_ | refine blk_alloc ?_ _)); exact (qA hb_))) : q2 ≠ q3))))
   have j6 := fun (h0_ : b 10 = true) (h1_ : b 12 = false) => (show w12.heap[q2]? = some (.cells #[.int .i64 0, .int .i64 0] 37 (0, 0)) from by first | exact (blk_below (g := q2) (o := .cells #[.int .i64 0, .int .i64 0] 37 (0, 0)) (by (with_reducible repeat (first | refine blk_drewN ?_ _ | refine blk_drew ?_ | refine blk_alloc ?_ _)); exact (qf h0_ h1_)) hb))
   clear q0
   clear q1
   clear q4
   clear HB
   have q0 := n0_
   have q1 := n1_
   have q4 := n2_
   have HB := n3_
   have q7 := n4_
   have j1 := n5_
   have qZ := n6_
   have qI := n7_
   have qT := n8_
   have qK := n9_
   have qU := j3
   have qD := j4
   have qz := j5
   clear n0_ n1_ n2_ n3_ n4_ n5_ n6_ n7_ n8_ n9_ j3 j4 j5
   clear hb hg
   refine hK.out _ _ ⟨q2, q3, qc, (.pointer (some ⟨q3, 0, none⟩)), (by rw [ha.out]; exact putSel_upk 7 hb_ rfl rfl rfl), (pk q0), (pk q1), (pk q4), (bnow HB), jc, jb, j6, qi, qg, qk, qq, qm, qr, qo, qs, fun _ _ => (pk q7), fun _ => j1.out, fun _ => qZ.out, fun _ => qI.out, fun _ => qT.out, fun _ => qK.out, fun _ => qU.out, fun _ => qD.out, fun _ => qz.out, fun h0_ => absurd ((hoff 12 (by kernel_rfl)).symm.trans h0_) (by decide), fun h0_ => absurd ((hoff 13 (by kernel_rfl)).symm.trans h0_) (by decide), Q_X10_, fun _ => rfl⟩
  refine steps_cons ?_ ?_
  ·rintro b a w' ⟨q2, q3, qc, qd, ha, q8, q9, qa, Q_HB, qx, qw, qf, qi, qg, qk, qq, qm, qr, qo, qs, qe, qj, qh, ql, qt, qn, qu, qp, qv, qA, qB, Q_X10_, Q_X11_⟩ hb_ hon hoff
   refine ⟨_, rfl, fun K hK => ?_⟩
   have e5 : a.tmps[5]? = some (qc) := by rw [ha]; exact putSel_on (e := (10, 5, qc)) 6 rfl rfl (hon 10 (by kernel_rfl)) rfl
   rw [Q_X10_ (hon 10 (by kernel_rfl))] at e5
   have e11 : a.tmps[11]? = some (.agg #[.int .i64 qN, .int .i64 qP]) := by rw [ha]; exact putSel_on (e := (4, 11, .agg #[.int .i64 qN, .int .i64 qP])) 2 rfl rfl (hon 4 (by kernel_rfl)) rfl
   replace ha := Aside0.mk ha
   have q0 := Aside0.mk q8
   have q1 := Aside0.mk q9
   have q4 := Aside0.mk qa
   have HB := Aside0.mk Q_HB
   have qM := Aside0.mk (qx (hon 10 (by kernel_rfl)) (hon 11 (by kernel_rfl)))
   have qL := Aside0.mk (qw (hon 10 (by kernel_rfl)) (hon 11 (by kernel_rfl)))
   have q6 := Aside0.mk (qf (hon 10 (by kernel_rfl)) hb_)
   have j0 := Aside0.mk (qi (hon 10 (by kernel_rfl)))
   have qY := Aside0.mk (qg (hon 10 (by kernel_rfl)))
   have qH := Aside0.mk (qk (hon 10 (by kernel_rfl)))
   have qR := Aside0.mk (qq (hon 10 (by kernel_rfl)))
   have qJ := Aside0.mk (qm (hon 10 (by kernel_rfl)))
   have qS := Aside0.mk (qr (hon 10 (by kernel_rfl)))
   have qC := Aside0.mk (qo (hon 10 (by kernel_rfl)))
   have qy := Aside0.mk (qs (hon 10 (by kernel_rfl)))
   have q7 := Aside0.mk (qe (hon 11 (by kernel_rfl)) (hoff 13 (by kernel_rfl)))
   have j1 := Aside0.mk (qj (hon 11 (by kernel_rfl)))
   have qZ := Aside0.mk (qh (hon 11 (by kernel_rfl)))
   have qI := Aside0.mk (ql (hon 11 (by kernel_rfl)))
   have qT := Aside0.mk (qt (hon 11 (by kernel_rfl)))
   have qK := Aside0.mk (qn (hon 11 (by kernel_rfl)))
   have qU := Aside0.mk (qu (hon 11 (by kernel_rfl)))
   have qD := Aside0.mk (qp (hon 11 (by kernel_rfl)))
   have qz := Aside0.mk (qv (hon 11 (by kernel_rfl)))
   have gm : w'.cell? ⟨q2, 0, none⟩ = some (.int .i64 0) := (blk_cell q6.out 0).trans rfl
   have jl := blk_frozen q6.out 0
   have jU := qH.out
   have jV := qJ.out
   have jW := qC.out
   have jX := qM.out
   have js := qR.out
   have jt := qS.out
   have ju := qy.out
   have jv := qL.out
   have gn : w'.cell? ⟨q2, 1, none⟩ = some (.int .i64 0) := (blk_cell q6.out 1).trans rfl
   have jm := blk_frozen q6.out 1
   have jY := qH.out
   have jZ := qJ.out
   have g0 := qC.out
   have g1 := qM.out
   have jw := qR.out
   have jx := qS.out
   have jy := qy.out
   have jz := qL.out
   refine skip_ (w1 := ?_) (by rfl) rfl ?_ ?_
   rotate_left
   ·go_simp
    rfl
   refine hK.out _ _ ⟨q2, q3, qc, qd, (by rw [ha.out]; exact putSel_none (v := undef) rfl), (by (with_reducible repeat (first | refine blk_drewN ?_ _ | refine blk_drew ?_ | refine blk_alloc ?_ _)); refine blk_far ?_ qH.out _; (with_reducible repeat (first | refine blk_drewN ?_ _ | refine blk_drew ?_ | refine blk_alloc ?_ _)); refine blk_far ?_ qH.out _; (with_reducible repeat (first | refine blk_drewN ?_ _ | refine blk_drew ?_ | refine blk_alloc ?_ _)); exact q0.out), (by (with_reducible repeat (first | refine blk_drewN ?_ _ | refine blk_drew ?_ | refine blk_alloc ?_ _)); refine blk_far ?_ qJ.out _; (with_reducible repeat (first | refine blk_drewN ?_ _ | refine blk_drew ?_ | refine blk_alloc ?_ _)); refine blk_far ?_ qJ.out _; (with_reducible repeat (first | refine blk_drewN ?_ _ | refine blk_drew ?_ | refine blk_alloc ?_ _)); exact q1.out), (by (with_reducible repeat (first | refine blk_drewN ?_ _ | refine blk_drew ?_ | refine blk_alloc ?_ _)); refine blk_far ?_ qC.out _; (with_reducible repeat (first | refine blk_drewN ?_ _ | refine blk_drew ?_ | refine blk_alloc ?_ _)); refine blk_far ?_ qC.out _; (with_reducible repeat (first | refine blk_drewN ?_ _ | refine blk_drew ?_ | refine blk_alloc ?_ _)); exact q4.out), (bnow HB), fun _ _ => qM.out, fun _ _ => qL.out, fun _ h1_ => absurd ((up_self b 12).symm.trans h1_) (by decide), fun _ => j0.out, fun _ => qY.out, fun _ => qH.out, fun _ => qR.out, fun _ => qJ.out, fun _ => qS.out, fun _ => qC.out, fun _ => qy.out, fun _ _ => (by (with_reducible repeat (first | refine blk_drewN ?_ _ | refine blk_drew ?_ | refine blk_alloc ?_ _)); refine blk_far ?_ qM.out _; (with_reducible repeat (first | refine blk_drewN ?_ _ | refine blk_drew ?_ | refine blk_alloc ?_ _)); refine blk_far ?_ qM.out _; (with_reducible repeat (first | refine blk_drewN ?_ _ | refine blk_drew ?_ | refine blk_alloc ?_ _)); exact q7.out), fun _ => j1.out, fun _ => qZ.out, fun _ => qI.out, fun _ => qT.out, fun _ => qK.out, fun _ => qU.out, fun _ => qD.out, fun _ => qz.out, fun _ => (by (with_reducible repeat (first | refine blk_drewN ?_ _ | refine blk_drew ?_ | refine blk_alloc ?_ _)); refine blk_put (cs := #[.int .i64 qN, .int .i64 0]) ?_ 1 _ rfl; (with_reducible repeat (first | refine blk_drewN ?_ _ | refine blk_drew ?_ | refine blk_alloc ?_ _)); refine blk_put (cs := #[.int .i64 0, .int .i64 0]) ?_ 0 _ rfl; (with_reducible repeat (first | refine blk_drewN ?_ _ | refine blk_drew ?_ | refine blk_alloc ?_ _)); exact q6.out), fun h0_ => absurd ((hoff 13 (by kernel_rfl)).symm.trans h0_) (by decide), Q_X10_, Q_X11_⟩
  refine steps_cons ?_ ?_
  ·rintro b a w' ⟨q2, q3, qc, qd, ha, q8, q9, qa, Q_HB, qx, qw, qf, qi, qg, qk, qq, qm, qr, qo, qs, qe, qj, qh, ql, qt, qn, qu, qp, qv, qA, qB, Q_X10_, Q_X11_⟩ hb_ hon hoff
   refine ⟨_, rfl, fun K hK => ?_⟩
   have e6 : a.tmps[6]? = some (qd) := by rw [ha]; exact putSel_on (e := (11, 6, qd)) 7 rfl rfl (hon 11 (by kernel_rfl)) rfl
   rw [Q_X11_ (hon 11 (by kernel_rfl))] at e6
   have e16 : a.tmps[16]? = some (.agg #[.int .i64 qO, .int .i64 qQ]) := by rw [ha]; exact putSel_on (e := (9, 16, .agg #[.int .i64 qO, .int .i64 qQ])) 5 rfl rfl (hon 9 (by kernel_rfl)) rfl
   replace ha := Aside0.mk ha
   have q0 := Aside0.mk q8
   have q1 := Aside0.mk q9
   have q4 := Aside0.mk qa
   have HB := Aside0.mk Q_HB
   have qM := Aside0.mk (qx (hon 10 (by kernel_rfl)) (hon 11 (by kernel_rfl)))
   have qL := Aside0.mk (qw (hon 10 (by kernel_rfl)) (hon 11 (by kernel_rfl)))
   have j0 := Aside0.mk (qi (hon 10 (by kernel_rfl)))
   have qY := Aside0.mk (qg (hon 10 (by kernel_rfl)))
   have qH := Aside0.mk (qk (hon 10 (by kernel_rfl)))
   have qR := Aside0.mk (qq (hon 10 (by kernel_rfl)))
   have qJ := Aside0.mk (qm (hon 10 (by kernel_rfl)))
   have qS := Aside0.mk (qr (hon 10 (by kernel_rfl)))
   have qC := Aside0.mk (qo (hon 10 (by kernel_rfl)))
   have qy := Aside0.mk (qs (hon 10 (by kernel_rfl)))
   have q7 := Aside0.mk (qe (hon 11 (by kernel_rfl)) hb_)
   have j1 := Aside0.mk (qj (hon 11 (by kernel_rfl)))
   have qZ := Aside0.mk (qh (hon 11 (by kernel_rfl)))
   have qI := Aside0.mk (ql (hon 11 (by kernel_rfl)))
   have qT := Aside0.mk (qt (hon 11 (by kernel_rfl)))
   have qK := Aside0.mk (qn (hon 11 (by kernel_rfl)))
   have qU := Aside0.mk (qu (hon 11 (by kernel_rfl)))
   have qD := Aside0.mk (qp (hon 11 (by kernel_rfl)))
   have qz := Aside0.mk (qv (hon 11 (by kernel_rfl)))
   have q6 := Aside0.mk (qA (hon 12 (by kernel_rfl)))
   have go : w'.cell? ⟨q3, 0, none⟩ = some (.int .i64 0) := (blk_cell q7.out 0).trans rfl
   have jn := blk_frozen q7.out 0
   have g2 := qI.out
   have g3 := qK.out
   have g4 := qD.out
   have g5 := qL.out
   have jA := qT.out
   have jB := qU.out
   have jC := qz.out
   have jD := qM.out
   have gp : w'.cell? ⟨q3, 1, none⟩ = some (.int .i64 0) := (blk_cell q7.out 1).trans rfl
   have jo := blk_frozen q7.out 1
   have g6 := qI.out
   have g7 := qK.out
   have g8 := qD.out
   have g9 := qL.out
   have jE := qT.out
   have jF := qU.out
   have jG := qz.out
   have jH := qM.out
   refine skip_ (w1 := ?_) (by rfl) rfl ?_ ?_
   rotate_left
   ·go_simp
    rfl
   refine hK.out _ _ ⟨q2, q3, qc, qd, (by rw [ha.out]; exact putSel_none (v := undef) rfl), (by (with_reducible repeat (first | refine blk_drewN ?_ _ | refine blk_drew ?_ | refine blk_alloc ?_ _)); refine blk_far ?_ qI.out _; (with_reducible repeat (first | refine blk_drewN ?_ _ | refine blk_drew ?_ | refine blk_alloc ?_ _)); refine blk_far ?_ qI.out _; (with_reducible repeat (first | refine blk_drewN ?_ _ | refine blk_drew ?_ | refine blk_alloc ?_ _)); exact q0.out), (by (with_reducible repeat (first | refine blk_drewN ?_ _ | refine blk_drew ?_ | refine blk_alloc ?_ _)); refine blk_far ?_ qK.out _; (with_reducible repeat (first | refine blk_drewN ?_ _ | refine blk_drew ?_ | refine blk_alloc ?_ _)); refine blk_far ?_ qK.out _; (with_reducible repeat (first | refine blk_drewN ?_ _ | refine blk_drew ?_ | refine blk_alloc ?_ _)); exact q1.out), (by (with_reducible repeat (first | refine blk_drewN ?_ _ | refine blk_drew ?_ | refine blk_alloc ?_ _)); refine blk_far ?_ qD.out _; (with_reducible repeat (first | refine blk_drewN ?_ _ | refine blk_drew ?_ | refine blk_alloc ?_ _)); refine blk_far ?_ qD.out _; (with_reducible repeat (first | refine blk_drewN ?_ _ | refine blk_drew ?_ | refine blk_alloc ?_ _)); exact q4.out), (bnow HB), fun _ _ => qM.out, fun _ _ => qL.out, fun _ h1_ => absurd ((hon 12 (by kernel_rfl)).symm.trans h1_) (by decide), fun _ => j0.out, fun _ => qY.out, fun _ => qH.out, fun _ => qR.out, fun _ => qJ.out, fun _ => qS.out, fun _ => qC.out, fun _ => qy.out, fun _ h1_ => absurd ((up_self b 13).symm.trans h1_) (by decide), fun _ => j1.out, fun _ => qZ.out, fun _ => qI.out, fun _ => qT.out, fun _ => qK.out, fun _ => qU.out, fun _ => qD.out, fun _ => qz.out, fun _ => (by (with_reducible repeat (first | refine blk_drewN ?_ _ | refine blk_drew ?_ | refine blk_alloc ?_ _)); refine blk_far ?_ qL.out _; (with_reducible repeat (first | refine blk_drewN ?_ _ | refine blk_drew ?_ | refine blk_alloc ?_ _)); refine blk_far ?_ qL.out _; (with_reducible repeat (first | refine blk_drewN ?_ _ | refine blk_drew ?_ | refine blk_alloc ?_ _)); exact q6.out), fun _ => (by (with_reducible repeat (first | refine blk_drewN ?_ _ | refine blk_drew ?_ | refine blk_alloc ?_ _)); refine blk_put (cs := #[.int .i64 qO, .int .i64 0]) ?_ 1 _ rfl; (with_reducible repeat (first | refine blk_drewN ?_ _ | refine blk_drew ?_ | refine blk_alloc ?_ _)); refine blk_put (cs := #[.int .i64 0, .int .i64 0]) ?_ 0 _ rfl; (with_reducible repeat (first | refine blk_drewN ?_ _ | refine blk_drew ?_ | refine blk_alloc ?_ _)); exact q7.out), Q_X10_, Q_X11_⟩
  exact steps_nil
 rintro b a w20 hall ⟨q2, q3, qc, qd, ha, q8, q9, qa, Q_HB, qx, qw, qf, qi, qg, qk, qq, qm, qr, qo, qs, qe, qj, qh, ql, qt, qn, qu, qp, qv, qA, qB, Q_X10_, Q_X11_⟩
 clear q0 q1 q4 HB
 have hb1_ := hall 1 (by kernel_rfl)
 have hb3_ := hall 3 (by kernel_rfl)
 have hb4_ := hall 4 (by kernel_rfl)
 have hb6_ := hall 6 (by kernel_rfl)
 have hb8_ := hall 8 (by kernel_rfl)
 have hb9_ := hall 9 (by kernel_rfl)
 have hb10_ := hall 10 (by kernel_rfl)
 have hb11_ := hall 11 (by kernel_rfl)
 have hb12_ := hall 12 (by kernel_rfl)
 have hb13_ := hall 13 (by kernel_rfl)
 subst ha
 obtain rfl := Q_X10_ hb10_
 obtain rfl := Q_X11_ hb11_
 simp only [putSel, hb1_, hb3_, hb4_, hb6_, hb8_, hb9_, hb10_, hb11_, hb12_, hb13_, if_true, Act.put, List.setIfInBounds_toArray, List.set_cons_zero, List.set_cons_succ]
 have q0 := Aside0.mk q8
 clear q8
 have q1 := Aside0.mk q9
 clear q9
 have q4 := Aside0.mk qa
 clear qa
 have HB := Aside0.mk Q_HB
 clear Q_HB
 have qM := Aside0.mk (qx hb10_ hb11_)
 clear qx
 have qL := Aside0.mk (qw hb10_ hb11_)
 clear qw
 clear qf
 have j0 := Aside0.mk (qi hb10_)
 clear qi
 have qY := Aside0.mk (qg hb10_)
 clear qg
 have qH := Aside0.mk (qk hb10_)
 clear qk
 have qR := Aside0.mk (qq hb10_)
 clear qq
 have qJ := Aside0.mk (qm hb10_)
 clear qm
 have qS := Aside0.mk (qr hb10_)
 clear qr
 have qC := Aside0.mk (qo hb10_)
 clear qo
 have qy := Aside0.mk (qs hb10_)
 clear qs
 clear qe
 have j1 := Aside0.mk (qj hb11_)
 clear qj
 have qZ := Aside0.mk (qh hb11_)
 clear qh
 have qI := Aside0.mk (ql hb11_)
 clear ql
 have qT := Aside0.mk (qt hb11_)
 clear qt
 have qK := Aside0.mk (qn hb11_)
 clear qn
 have qU := Aside0.mk (qu hb11_)
 clear qu
 have qD := Aside0.mk (qp hb11_)
 clear qp
 have qz := Aside0.mk (qv hb11_)
 clear qv
 have q6 := Aside0.mk (qA hb12_)
 clear qA
 have q7 := Aside0.mk (qB hb13_)
 clear qB
 clear hall hb1_ hb3_ hb4_ hb6_ hb8_ hb9_ hb10_ hb11_ hb12_ hb13_
 try go_wp2
 replace q0 := bd q0
 replace q1 := bd q1
 replace q4 := bd q4
 replace q6 := bd q6
 replace q7 := bd q7
 replace HB := bdn HB
 refine start_ (n := 14) (S := fun w' => w'.cell? ⟨qV, 0, none⟩ = some (.int .i64 a0_0) ∧ w'.cell? ⟨qV, 1, none⟩ = some (.int .i64 a0_1) ∧ w'.cell? ⟨qV, 2, none⟩ = some (.int .i64 a0_2) ∧ w'.cell? ⟨q2, 0, none⟩ = some (.int .i64 qN) ∧ w'.cell? ⟨q2, 1, none⟩ = some (.int .i64 qP) ∧ w'.cell? ⟨q3, 0, none⟩ = some (.int .i64 qO) ∧ w'.cell? ⟨q3, 1, none⟩ = some (.int .i64 qQ)) (ds := []) #[false, false, false, false, false, false, false, false, false, false, false, false, false, false] (by kernel_rfl) rfl rfl ⟨(blk_cell q0.out 0).trans rfl, (blk_cell q0.out 1).trans rfl, (blk_cell q0.out 2).trans rfl, (blk_cell q6.out 0).trans rfl, (blk_cell q6.out 1).trans rfl, (blk_cell q7.out 0).trans rfl, (blk_cell q7.out 1).trans rfl⟩ (fun hHeld => ?_); refine with_tabW torchonlaw06_lead.tab2 torchonlaw06_lead.bits2 (fun HT_ HW_ => ?_)
 generalize w20.drew = w21 at q0 q1 q4 q6 q7 HB hHeld ⊢
 refine tz 0 17 HT_ HW_ hHeld ?_
 refine tz 1 18 HT_ HW_ hHeld ?_
 refine tz 2 19 HT_ HW_ hHeld ?_
 refine tz 4 21 HT_ HW_ hHeld ?_
 refine tz 5 22 HT_ HW_ hHeld ?_
 refine tz 6 23 HT_ HW_ hHeld ?_
 refine tz 8 25 HT_ HW_ hHeld ?_
 refine tz 9 26 HT_ HW_ hHeld ?_
 refine tz 10 27 HT_ HW_ hHeld ?_
 refine one_ (i := 3) (N := some 20) #[true, true, true, true, true, true, true, false, true, true, true, false, false, false] rfl rfl (one_of HT_.out (by kernel_rfl)) (by decide) (fun K hK => ?_)
 refine gs _ Try.func48 (torchonref06_Product.calls a0_0 a0_1 a0_2 qN qP qN qP qW _ A5.out) ?_
 rintro e w22 ⟨rfl, hb⟩
 refine ⟨_, rfl, ?_⟩
 replace q0 := bb q0 hb
 replace q1 := bb q1 hb
 replace q4 := bb q4 hb
 replace q6 := bb q6 hb
 replace q7 := bb q7 hb
 replace HB := bst HB hb
 (try clear hb)
 (try clear hb2)
 (try clear hk)
 (try clear hi)
 refine hK.out _ _ ⟨(blk_cell q0.out 0).trans rfl, (blk_cell q0.out 1).trans rfl, (blk_cell q0.out 2).trans rfl, (blk_cell q6.out 0).trans rfl, (blk_cell q6.out 1).trans rfl, (blk_cell q7.out 0).trans rfl, (blk_cell q7.out 1).trans rfl⟩ (fun hHeld => ?_)
 clear hK K
 refine norm_ (a' := ?_) ?_ ?_
 rotate_left
 ·show Act.put _ (some 20) _ = _
  simp only [Act.put, List.setIfInBounds_toArray, List.set_cons_zero, List.set_cons_succ, i64_w, i32_w]
  rfl
 refine one_ (i := 7) (N := some 24) #[true, true, true, true, true, true, true, true, true, true, true, false, false, false] rfl rfl (one_of HT_.out (by kernel_rfl)) (by decide) (fun K hK => ?_)
 refine gs _ Try.func48 (torchonref06_Product.calls a0_0 a0_1 a0_2 qN qP qO qQ qX _ A6.out) ?_
 rintro e w23 ⟨rfl, hb⟩
 refine ⟨_, rfl, ?_⟩
 replace q0 := bb q0 hb
 replace q1 := bb q1 hb
 replace q4 := bb q4 hb
 replace q6 := bb q6 hb
 replace q7 := bb q7 hb
 replace HB := bst HB hb
 (try clear hb)
 (try clear hb2)
 (try clear hk)
 (try clear hi)
 refine hK.out _ _ ⟨(blk_cell q0.out 0).trans rfl, (blk_cell q0.out 1).trans rfl, (blk_cell q0.out 2).trans rfl, (blk_cell q6.out 0).trans rfl, (blk_cell q6.out 1).trans rfl, (blk_cell q7.out 0).trans rfl, (blk_cell q7.out 1).trans rfl⟩ (fun hHeld => ?_)
 clear hK K
 refine norm_ (a' := ?_) ?_ ?_
 rotate_left
 ·show Act.put _ (some 24) _ = _
  simp only [Act.put, List.setIfInBounds_toArray, List.set_cons_zero, List.set_cons_succ, i64_w, i32_w]
  rfl
 refine one_ (i := 11) (N := some 28) #[true, true, true, true, true, true, true, true, true, true, true, true, false, false] rfl rfl (one_of HT_.out (by kernel_rfl)) (by decide) (fun K hK => ?_)
 refine gs _ Try.func48 (torchonref06_Product.calls a0_0 a0_1 a0_2 qO qQ qO qQ j2 _ A7.out) ?_
 rintro e w24 ⟨rfl, hb⟩
 refine ⟨_, rfl, ?_⟩
 replace q0 := bb q0 hb
 replace q1 := bb q1 hb
 replace q4 := bb q4 hb
 replace q6 := bb q6 hb
 replace q7 := bb q7 hb
 replace HB := bst HB hb
 (try clear hb)
 (try clear hb2)
 (try clear hk)
 (try clear hi)
 refine hK.out _ _ ⟨(blk_cell q0.out 0).trans rfl, (blk_cell q0.out 1).trans rfl, (blk_cell q0.out 2).trans rfl, (blk_cell q6.out 0).trans rfl, (blk_cell q6.out 1).trans rfl, (blk_cell q7.out 0).trans rfl, (blk_cell q7.out 1).trans rfl⟩ (fun hHeld => ?_)
 clear hK K
 refine norm_ (a' := ?_) ?_ ?_
 rotate_left
 ·show Act.put _ (some 28) _ = _
  simp only [Act.put, List.setIfInBounds_toArray, List.set_cons_zero, List.set_cons_succ, i64_w, i32_w]
  rfl
 refine pz 12 29 HT_ ?_
 refine one_ (i := 13) (N := none) #[true, true, true, true, true, true, true, true, true, true, true, true, true, true] rfl rfl (one_of HT_.out (by kernel_rfl)) (by decide) (fun K hK => ?_)
 have gq : w24.cell? ⟨q5, 0, none⟩ = some (.int .i64 0) := (blk_cell q4.out 0).trans rfl
 have jp := blk_frozen q4.out 0
 have ga := qG.out
 have gb := j8.out
 have gc := qy.out
 have gd := qz.out
 have jI := j9.out
 have jJ := ja.out
 have jK := qC.out
 have jL := qD.out
 have gr : w24.cell? ⟨q5, 1, none⟩ = some (.int .i64 0) := (blk_cell q4.out 1).trans rfl
 have jq := blk_frozen q4.out 1
 have ge := qG.out
 have gf := j8.out
 have gg := qy.out
 have gh := qz.out
 have jM := j9.out
 have jN := ja.out
 have jO := qC.out
 have jP := qD.out
 have gt : w24.cell? ⟨q5, 2, none⟩ = some (.int .i64 0) := (blk_cell q4.out 2).trans rfl
 have jr := blk_frozen q4.out 2
 have gi := qG.out
 have gj := j8.out
 have gk := qy.out
 have gl := qz.out
 have jQ := j9.out
 have jR := ja.out
 have jS := qC.out
 have jT := qD.out
 refine skip_ (w1 := ?_) (by rfl) rfl ?_ ?_
 rotate_left
 ·go_simp
  rfl
 refine hK.out _ _ ⟨((cell_far (p := ⟨q5, _, none⟩) qG.out _).trans (((cell_far (p := ⟨q5, _, none⟩) qG.out _).trans (((cell_far (p := ⟨q5, _, none⟩) qG.out _).trans (hHeld.1)))))), ((cell_far (p := ⟨q5, _, none⟩) qG.out _).trans (((cell_far (p := ⟨q5, _, none⟩) qG.out _).trans (((cell_far (p := ⟨q5, _, none⟩) qG.out _).trans (hHeld.2.1)))))), ((cell_far (p := ⟨q5, _, none⟩) qG.out _).trans (((cell_far (p := ⟨q5, _, none⟩) qG.out _).trans (((cell_far (p := ⟨q5, _, none⟩) qG.out _).trans (hHeld.2.2.1)))))), ((cell_far (p := ⟨q5, _, none⟩) qy.out _).trans (((cell_far (p := ⟨q5, _, none⟩) qy.out _).trans (((cell_far (p := ⟨q5, _, none⟩) qy.out _).trans (hHeld.2.2.2.1)))))), ((cell_far (p := ⟨q5, _, none⟩) qy.out _).trans (((cell_far (p := ⟨q5, _, none⟩) qy.out _).trans (((cell_far (p := ⟨q5, _, none⟩) qy.out _).trans (hHeld.2.2.2.2.1)))))), ((cell_far (p := ⟨q5, _, none⟩) qz.out _).trans (((cell_far (p := ⟨q5, _, none⟩) qz.out _).trans (((cell_far (p := ⟨q5, _, none⟩) qz.out _).trans (hHeld.2.2.2.2.2.1)))))), ((cell_far (p := ⟨q5, _, none⟩) qz.out _).trans (((cell_far (p := ⟨q5, _, none⟩) qz.out _).trans (((cell_far (p := ⟨q5, _, none⟩) qz.out _).trans (hHeld.2.2.2.2.2.2))))))⟩ (fun hHeld => ?_)
 clear hK K
 refine done_ (done_of HT_.out (by kernel_rfl)) ?_
 try go_wp2
 refine bodyPost_ret (results_cell_row rfl _ _ q5 23 #[.int .i64 qW, .int .i64 qX, .int .i64 j2] (0, 0) _ rfl (by (with_reducible repeat (first | refine blk_drewN ?_ _ | refine blk_drew ?_ | refine blk_alloc ?_ _)); refine blk_put (cs := #[.int .i64 qW, .int .i64 qX, .int .i64 0]) ?_ 2 _ rfl; (with_reducible repeat (first | refine blk_drewN ?_ _ | refine blk_drew ?_ | refine blk_alloc ?_ _)); refine blk_put (cs := #[.int .i64 qW, .int .i64 0, .int .i64 0]) ?_ 1 _ rfl; (with_reducible repeat (first | refine blk_drewN ?_ _ | refine blk_drew ?_ | refine blk_alloc ?_ _)); refine blk_put (cs := #[.int .i64 0, .int .i64 0, .int .i64 0]) ?_ 0 _ rfl; (with_reducible repeat (first | refine blk_drewN ?_ _ | refine blk_drew ?_ | refine blk_alloc ?_ _)); exact q4.out) Try.underlying23 rfl (by kernel_rfl)) rfl ?_
 exact rt HB
end
end Go.Proofs.Ytmcajdepoohlhaa.G
