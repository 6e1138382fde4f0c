/- Functions of the program as plain Lean functions, and their contracts (printed by a program of this session). No condition beyond what each states. -/
import Derived.Test.YtmcajdepoohlhaaCKeepY
import Derived.Test.YtmcajdepoohlhaaCKeepP0
import Derived.Test.YtmcajdepoohlhaaCKeepP2
namespace Go.Proofs.Ytmcajdepoohlhaa.G
open Go.RowKit Go.Proofs.YtmcajdepoohlhaaW.PrintWords Go.Proofs.YtmcajdepoohlhaaW.PrintLast Go.Proofs.YtmcajdepoohlhaaW.PrintMore
attribute [local go_sem] max2_int min2_int max_two min_two max_three min_three max_four min_four
set_option linter.unusedVariables false
set_option linter.unusedSimpArgs false
section
attribute [local go_sem high] eqA25
/-! ### torchonlaw06_in: function 36 -/
def torchonlaw06_in.l0 : Nat → List (S25) → Int → Int → Int → Int → Int → Option (Bool)
 | 0, _, _, _, _, _, _ => none
 | k + 1, x0, x5, x1025000, x1025001, x1025002, x1025003 => if x5 < (x0.length : Int) then (if 0 ≤ x5 then (if (((rd_T25 x0 x5).f0) == x1025000 && (((rd_T25 x0 x5).f1) == x1025001 && (((rd_T25 x0 x5).f2) == x1025002 && (((rd_T25 x0 x5).f3) == x1025003)))) = true then (some true) else ((some (wrap64 (x5 + 1))).bind fun q7 => (torchonlaw06_in.l0 k x0 q7 x1025000 x1025001 x1025002 x1025003))) else (none)) else (some false)
def torchonlaw06_in.f (k : Nat) (l0 : List (S25)) (a1_0 : Int) (a1_1 : Int) (a1_2 : Int) (a1_3 : Int) : Option (Bool) := torchonlaw06_in.l0 k l0 0 a1_0 a1_1 a1_2 a1_3
theorem torchonlaw06_in.mono_l : ∀ k, (∀ y0 y1 y2 y3 y4 y5, LeO (torchonlaw06_in.l0 k y0 y1 y2 y3 y4 y5) (torchonlaw06_in.l0 (k + 1) y0 y1 y2 y3 y4 y5))
 | 0 => fun _ _ _ _ _ _ r h => by simp [torchonlaw06_in.l0] at h
 | k + 1 => by
  have ih0 := torchonlaw06_in.mono_l k
  ·intro y0 y1 y2 y3 y4 y5
   unfold torchonlaw06_in.l0
   repeat' first
   | (with_reducible exact ih0 _ _ _ _ _ _)
   | (with_reducible exact LeO.refl _)
   | (with_reducible exact LeO.none _)
   | (with_reducible refine LeO.ite ?_ ?_)
   | (with_reducible refine LeO.bind ?_ (fun _ => ?_))
   | exact ih0 _ _ _ _ _ _
   | exact LeO.none _
   | refine LeO.ite ?_ ?_
   | refine LeO.bind ?_ (fun _ => ?_)
theorem torchonlaw06_in.mono : ∀ a0 a1 a2 a3 a4 k, LeO (torchonlaw06_in.f k a0 a1 a2 a3 a4) (torchonlaw06_in.f (k + 1) a0 a1 a2 a3 a4) := by
 intro a0 a1 a2 a3 a4 k
 have ih0 := torchonlaw06_in.mono_l k
 unfold torchonlaw06_in.f
 repeat' first
   | (with_reducible exact ih0 _ _ _ _ _ _)
   | (with_reducible exact LeO.refl _)
   | (with_reducible exact LeO.none _)
   | (with_reducible refine LeO.ite ?_ ?_)
   | (with_reducible refine LeO.bind ?_ (fun _ => ?_))
   | exact ih0 _ _ _ _ _ _
   | exact LeO.none _
   | refine LeO.ite ?_ ?_
   | refine LeO.bind ?_ (fun _ => ?_)
set_option maxHeartbeats 8000000 in
set_option maxRecDepth 100000 in
theorem torchonlaw06_in.calls (k : Nat) (A0 : Option Addr) (c0 : Nat) (l0 : List (S25)) (a1_0 : Int) (a1_1 : Int) (a1_2 : Int) (a1_3 : Int) (r : Bool) (w : World) (hr0 : Kd.C k25 w A0 l0.length l0) (hc0 : l0.length ≤ c0) (h : torchonlaw06_in.f k l0 a1_0 a1_1 a1_2 a1_3 = some r) :
  Calls Try.prog 36 #[.slice A0 l0.length c0, .agg #[.int .i64 a1_0, .int .i64 a1_1, .int .i64 a1_2, .int .i64 a1_3]] w fun e w' => e = .returned (.bool r) ∧ Below w.heap.size w w' := by
 have hu25 := Try.underlying25
 have HR0 := Aside0.mk hr0
 have HC0 := Aside0.mk hc0
 clear hr0 hc0
 have HB := Aside0.mk (Below.refl w.heap.size w)
 have H : (torchonlaw06_in.l0 k l0 0 a1_0 a1_1 a1_2 a1_3) = some r := h
 clear h
 have H' := Aside0.mk H
 clear H
 go_enter Try.func36, Try.ntmps36
 go_wp2_with (first | ((with_reducible refine gate_dst (N := 3) rfl ?_); refine bx 3 #[.int .i64 a1_0, .int .i64 a1_1, .int .i64 a1_2, .int .i64 a1_3] 25 fun q9 hg w3 q0 hb => ?_; have qb := gw hg HB; have qa := gw hg HB; replace HB := bst HB hb; clear hb hg))
 repeat (go_quiet (first | ((with_reducible refine gate_dst (N := 3) rfl ?_); refine bx 3 #[.int .i64 a1_0, .int .i64 a1_1, .int .i64 a1_2, .int .i64 a1_3] 25 fun q9 hg w3 q0 hb => ?_; have qb := gw hg HB; have qa := gw hg HB; replace HB := bst HB hb; clear hb hg)); try go_wp2_with (first | ((with_reducible refine gate_dst (N := 3) rfl ?_); refine bx 3 #[.int .i64 a1_0, .int .i64 a1_1, .int .i64 a1_2, .int .i64 a1_3] 25 fun q9 hg w3 q0 hb => ?_; have qb := gw hg HB; have qa := gw hg HB; replace HB := bst HB hb; clear hb hg)))
 (try simp only [Act.put, List.setIfInBounds_toArray, List.set_cons_zero, List.set_cons_succ])
 go_loopg [5] k (fun kq v5 w' => ∃ (x5_1 : Int), v5 = .int .i64 x5_1 ∧ Aside0 (torchonlaw06_in.l0 kq l0 x5_1 a1_0 a1_1 a1_2 a1_3 = some r) ∧ Aside0 (kq ≤ k) ∧ Aside0 (w'.heap[q9]? = some (.cells #[.int .i64 a1_0, .int .i64 a1_1, .int .i64 a1_2, .int .i64 a1_3] 25 (0, 0))) ∧ Aside0 (Below w.heap.size w w'))
 case atStart => exact ⟨(0), (by first | rfl | (simp; done) | (simp [*]; done)), H', ⟨Nat.le_refl _⟩, ⟨pk q0⟩, ⟨bnow HB⟩⟩
 case round =>
  clear H'
  try clear p2; try clear c3
  obtain ⟨x5_1, rfl, HA, HK1, q0, HB⟩ := hrel
  cases gk with
  | zero => exact absurd HA.out (by simp [torchonlaw06_in.l0])
  | succ k1 =>
   have H := HA.out
   clear HA
   simp only [torchonlaw06_in.l0] at H
   by_cases c4 : x5_1 < (l0.length : Int)
   ·rw [if_pos c4] at H
    have qd : decide (x5_1 < (l0.length : Int)) = true := decide_eq_true c4
    clear c4
    by_cases c5 : 0 ≤ x5_1
    ·rw [if_pos c5] at H
     have qh : decide (0 ≤ x5_1) = true := decide_eq_true c5
     clear c5
     by_cases c6 : (((rd_T25 l0 x5_1).f0) == a1_0 && (((rd_T25 l0 x5_1).f1) == a1_1 && (((rd_T25 l0 x5_1).f2) == a1_2 && (((rd_T25 l0 x5_1).f3) == a1_3)))) = true
     ·rw [if_pos c6] at H
      have qe : (((rd_T25 l0 x5_1).f0) == a1_0 && (((rd_T25 l0 x5_1).f1) == a1_1 && (((rd_T25 l0 x5_1).f2) == a1_2 && (((rd_T25 l0 x5_1).f3) == a1_3)))) = true := c6
      (try (have qf : decide (((rd_T25 l0 x5_1).f0) = a1_0 && (((rd_T25 l0 x5_1).f1) == a1_1 && (((rd_T25 l0 x5_1).f2) == a1_2 && (((rd_T25 l0 x5_1).f3) == a1_3)))) = true := by simpa using c6))
      (try (have qg : (((rd_T25 l0 x5_1).f0) == a1_0 && (((rd_T25 l0 x5_1).f1) == a1_1 && (((rd_T25 l0 x5_1).f2) == a1_2 && (((rd_T25 l0 x5_1).f3) == a1_3)))) = true := by simpa using c6))
      clear c6
      obtain rfl := Option.some.inj H
      have q5 : 0 ≤ (x5_1 : Int) := of_decide_eq_true (by first | (with_reducible assumption) | assumption)
      have q6 : x5_1 < (l0.length : Int) := of_decide_eq_true (by first | (with_reducible assumption) | assumption)
      obtain ⟨qc, q8, q1, q2, q3, q4⟩ := at_T25 HR0.out x5_1 q5 q6
      cases q8
      replace q1 := (HB.out.cell (World.block_lt_of_cell? w _ q1)).trans q1
      replace q2 := (HB.out.cell (World.block_lt_of_cell? w _ q2)).trans q2
      replace q3 := (HB.out.cell (World.block_lt_of_cell? w _ q3)).trans q3
      replace q4 := (HB.out.cell (World.block_lt_of_cell? w _ q4)).trans q4
      replace q5 := eq_true q5
      replace q6 := eq_true q6
      have ⟨qj, qk, ql, qm, qr, qs, qt, qu⟩ := cf4 q0
      go_wp2
      repeat (go_quiet (fail); try go_wp2)
      go_ret
      exact rt HB
     ·rw [if_neg c6] at H
      have qe : (((rd_T25 l0 x5_1).f0) == a1_0 && (((rd_T25 l0 x5_1).f1) == a1_1 && (((rd_T25 l0 x5_1).f2) == a1_2 && (((rd_T25 l0 x5_1).f3) == a1_3)))) = false := by simpa using c6
      (try (have qf : decide (((rd_T25 l0 x5_1).f0) = a1_0 && (((rd_T25 l0 x5_1).f1) == a1_1 && (((rd_T25 l0 x5_1).f2) == a1_2 && (((rd_T25 l0 x5_1).f3) == a1_3)))) = false := by simpa using c6))
      (try (have qg : (((rd_T25 l0 x5_1).f0) == a1_0 && (((rd_T25 l0 x5_1).f1) == a1_1 && (((rd_T25 l0 x5_1).f2) == a1_2 && (((rd_T25 l0 x5_1).f3) == a1_3)))) = false := by simpa using c6))
      (try (have qi : ¬ (((rd_T25 l0 x5_1).f0) = a1_0 && (((rd_T25 l0 x5_1).f1) == a1_1 && (((rd_T25 l0 x5_1).f2) == a1_2 && (((rd_T25 l0 x5_1).f3) == a1_3)))) := by simpa using c6))
      clear c6
      obtain ⟨q7, E80, H⟩ := oc H
      have E8w : (IntKind.i64.wrap (x5_1 + 1)) = q7 := (i64_w _).trans E80
      have H' := Aside0.mk H
      clear H
      have q5 : 0 ≤ (x5_1 : Int) := of_decide_eq_true (by first | (with_reducible assumption) | assumption)
      have q6 : x5_1 < (l0.length : Int) := of_decide_eq_true (by first | (with_reducible assumption) | assumption)
      obtain ⟨qc, q8, q1, q2, q3, q4⟩ := at_T25 HR0.out x5_1 q5 q6
      cases q8
      replace q1 := (HB.out.cell (World.block_lt_of_cell? w _ q1)).trans q1
      replace q2 := (HB.out.cell (World.block_lt_of_cell? w _ q2)).trans q2
      replace q3 := (HB.out.cell (World.block_lt_of_cell? w _ q3)).trans q3
      replace q4 := (HB.out.cell (World.block_lt_of_cell? w _ q4)).trans q4
      replace q5 := eq_true q5
      replace q6 := eq_true q6
      have ⟨qn, qo, qp, qq, qv, qw, qx, qy⟩ := cf4 q0
      go_wp2
      repeat (go_quiet (fail); try go_wp2)
      go_roundg k1
      case measure => have := HK1.out; omega
      case rel => exact ⟨(q7), (by first | rfl | (simp; done) | (simp [*]; done)), H', ⟨by have := HK1.out; omega⟩, ⟨pk q0⟩, ⟨bnow HB⟩⟩
    ·rw [if_neg c5] at H
     exact absurd H (by simp)
   ·rw [if_neg c4] at H
    have qd : decide (x5_1 < (l0.length : Int)) = false := decide_eq_false c4
    clear c4
    obtain rfl := Option.some.inj H
    go_wp2
    repeat (go_quiet (fail); try go_wp2)
    go_ret
    exact rt HB
end
end Go.Proofs.Ytmcajdepoohlhaa.G
