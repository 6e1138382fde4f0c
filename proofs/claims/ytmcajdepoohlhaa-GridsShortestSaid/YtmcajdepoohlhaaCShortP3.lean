/- Functions of the program as plain Lean functions, and their contracts (printed by a program of this session). No condition beyond what each states. -/
import Derived.Test.YtmcajdepoohlhaaCShortY
import Derived.Test.YtmcajdepoohlhaaCShortP0
import Derived.Test.YtmcajdepoohlhaaCShortP1
import Derived.Test.YtmcajdepoohlhaaCShortP2
namespace Go.Proofs.Ytmcajdepoohlhaa.G
open Go.RowKit Go.Proofs.YtmcajdepoohlhaaW.PrintWords Go.Proofs.YtmcajdepoohlhaaW.PrintLast Go.Proofs.YtmcajdepoohlhaaW.PrintMore
attribute [local go_sem] max2_int min2_int max_two min_two max_three min_three max_four min_four
set_option linter.unusedVariables false
set_option linter.unusedSimpArgs false
section
attribute [local go_sem high] eqA37
/-! ### torchonlaw06_GridsShortest: function 6 -/
def torchonlaw06_GridsShortest.j0 : Nat → Int → Int → Bool → Int → Int → Int → Int → Int → Option (Bool)
  | 0, _, _, _, _, _, _, _, _ => none
  | k + 1, x8, x10, x58, x757000, x757001, x766000, x766001, x766002 => if x58 = true then (none) else ((torchonlaw06_pt.f 0 0).bind fun bt785 => (if (x757000 == bt785.1 && (x757001 == bt785.2)) = true then (if x10 = 0 then ((torchonlaw06_awake.f k).bind fun t787 => (some t787)) else (if x8 ≥ x766002 then ((torchonlaw06_awake.f k).bind fun t788 => (some t788)) else (none))) else (if x8 ≥ x766000 then (if x10 = 0 then ((torchonlaw06_awake.f k).bind fun t789 => (some t789)) else (if x8 ≥ x766002 then ((torchonlaw06_awake.f k).bind fun t790 => (some t790)) else (none))) else (none))))
def torchonlaw06_GridsShortest.f (k : Nat) (a0_0 : Int) (a0_1 : Int) (a0_2 : Int) (a1_0 : Int) (a1_1 : Int) : Option (Bool) := (grids_Reduce.f k a0_0 a0_1 a0_2).bind fun bt757 => (if bt757.2.2.2.2.2.2.2 = 0 then ((some (Int.tmod a1_0 1001)).bind fun z769 => ((some (Int.tmod a1_1 1001)).bind fun z770 => ((torchonlaw06_pt.f z769 z770).bind fun bt771 => ((torchonlaw06_pt.f 0 0).bind fun bt773 => ((grids_Square.f k a0_0 a0_1 a0_2 bt773.1 bt773.2 bt771.1 bt771.2).bind fun bt775 => ((torchonlaw06_pt.f 0 0).bind fun bt777 => ((some (Int.tmod bt757.2.2.2.1 10001)).bind fun z779 => ((some (Int.tmod bt757.2.2.2.2.2.1 10001)).bind fun z780 => ((torchonlaw06_pt.f z779 z780).bind fun bt781 => ((grids_Side.f k bt777.1 bt777.2 bt771.1 bt771.2 bt781.1 bt781.2).bind fun bt783 => (if bt775.2 = 0 then (torchonlaw06_GridsShortest.j0 k bt775.1 bt783.1 (bt783.2 != 0) bt771.1 bt771.2 bt757.1 bt757.2.1 bt757.2.2.1) else (torchonlaw06_GridsShortest.j0 k bt775.1 bt783.1 true bt771.1 bt771.2 bt757.1 bt757.2.1 bt757.2.2.1)))))))))))) else ((grids_Check.f k a0_0 a0_1 a0_2).bind fun t767 => (if t767 = 2 then ((torchonlaw06_awake.f k).bind fun t768 => (some t768)) else (none))))
theorem torchonlaw06_GridsShortest.mono_l : ∀ k, (∀ y0 y1 y2 y3 y4 y5 y6 y7, LeO (torchonlaw06_GridsShortest.j0 k y0 y1 y2 y3 y4 y5 y6 y7) (torchonlaw06_GridsShortest.j0 (k + 1) y0 y1 y2 y3 y4 y5 y6 y7))
  | 0 => fun _ _ _ _ _ _ _ _ r h => by simp [torchonlaw06_GridsShortest.j0] at h
  | k + 1 => by
    have ih0 := torchonlaw06_GridsShortest.mono_l k
    · intro y0 y1 y2 y3 y4 y5 y6 y7
      unfold torchonlaw06_GridsShortest.j0
      repeat' first
      | (with_reducible exact ih0 _ _ _ _ _ _ _ _)
      | (with_reducible exact grids_Check.mono _ _ _ _)
      | (with_reducible exact grids_Reduce.mono _ _ _ _)
      | (with_reducible exact grids_Side.mono _ _ _ _ _ _ _)
      | (with_reducible exact grids_Square.mono _ _ _ _ _ _ _ _)
      | (with_reducible exact torchonlaw06_awake.mono _)
      | (with_reducible exact LeO.refl _)
      | (with_reducible exact LeO.none _)
      | (with_reducible refine LeO.ite ?_ ?_)
      | (with_reducible refine LeO.bind ?_ (fun _ => ?_))
      | exact ih0 _ _ _ _ _ _ _ _
      | exact grids_Check.mono _ _ _ _
      | exact grids_Reduce.mono _ _ _ _
      | exact grids_Side.mono _ _ _ _ _ _ _
      | exact grids_Square.mono _ _ _ _ _ _ _ _
      | exact torchonlaw06_awake.mono _
      | exact LeO.none _
      | refine LeO.ite ?_ ?_
      | refine LeO.bind ?_ (fun _ => ?_)
theorem torchonlaw06_GridsShortest.mono : ∀ a0 a1 a2 a3 a4 k, LeO (torchonlaw06_GridsShortest.f k a0 a1 a2 a3 a4) (torchonlaw06_GridsShortest.f (k + 1) a0 a1 a2 a3 a4) := by
  intro a0 a1 a2 a3 a4 k
  have ih0 := torchonlaw06_GridsShortest.mono_l k
  unfold torchonlaw06_GridsShortest.f
  repeat' first
      | (with_reducible exact ih0 _ _ _ _ _ _ _ _)
      | (with_reducible exact grids_Check.mono _ _ _ _)
      | (with_reducible exact grids_Reduce.mono _ _ _ _)
      | (with_reducible exact grids_Side.mono _ _ _ _ _ _ _)
      | (with_reducible exact grids_Square.mono _ _ _ _ _ _ _ _)
      | (with_reducible exact torchonlaw06_awake.mono _)
      | (with_reducible exact LeO.refl _)
      | (with_reducible exact LeO.none _)
      | (with_reducible refine LeO.ite ?_ ?_)
      | (with_reducible refine LeO.bind ?_ (fun _ => ?_))
      | exact ih0 _ _ _ _ _ _ _ _
      | exact grids_Check.mono _ _ _ _
      | exact grids_Reduce.mono _ _ _ _
      | exact grids_Side.mono _ _ _ _ _ _ _
      | exact grids_Square.mono _ _ _ _ _ _ _ _
      | exact torchonlaw06_awake.mono _
      | exact LeO.none _
      | refine LeO.ite ?_ ?_
      | refine LeO.bind ?_ (fun _ => ?_)
def torchonlaw06_GridsShortest.T5 : Bool × List (List Nat × List Nat) := (true, [([], []), ([], []), ([], []), ([0, 1, 2, 1], [0, 1, 2]), ([3], [3]), ([4], [4]), ([4], [4]), ([5, 3, 0, 1, 2, 3, 4, 5], [5]), ([6, 7, 0, 1, 2, 3, 4, 5, 6, 7], [6])])
def torchonlaw06_GridsShortest.B5 : List Nat := [0, 0, 0, 7, 15, 31, 31, 63, 255]
theorem torchonlaw06_GridsShortest.tab5 : rtab .any (opsOf Try.f6 5) = torchonlaw06_GridsShortest.T5 := by kernel_rfl
theorem torchonlaw06_GridsShortest.bits5 : waitsOk torchonlaw06_GridsShortest.T5.2 torchonlaw06_GridsShortest.B5 = true := by kernel_rfl
def torchonlaw06_GridsShortest.T6 : Bool × List (List Nat × List Nat) := (true, [([], []), ([], []), ([], []), ([2], [2]), ([3], [3]), ([], []), ([5], [5]), ([6], [6]), ([4, 7, 0], [4, 7]), ([0, 1, 8, 8], [0, 1, 8]), ([9], [9]), ([10], [10]), ([10], [10]), ([11, 9, 0, 1, 2, 3, 4, 5, 6, 7, 8, 9, 10, 11], [11]), ([12, 13, 0, 1, 2, 3, 4, 5, 6, 7, 8, 9, 10, 11, 12, 13], [12])])
def torchonlaw06_GridsShortest.B6 : List Nat := [0, 0, 0, 4, 12, 0, 32, 96, 253, 511, 1023, 2047, 2047, 4095, 16383]
theorem torchonlaw06_GridsShortest.tab6 : rtab .any (opsOf Try.f6 6) = torchonlaw06_GridsShortest.T6 := by kernel_rfl
theorem torchonlaw06_GridsShortest.bits6 : waitsOk torchonlaw06_GridsShortest.T6.2 torchonlaw06_GridsShortest.B6 = true := by kernel_rfl
def torchonlaw06_GridsShortest.T9 : Bool × List (List Nat × List Nat) := (true, [([], []), ([], []), ([0, 1], [0, 1]), ([2, 1], [2]), ([3], [3]), ([3], [3]), ([5, 3], [3, 5]), ([4, 6, 3], [3, 4, 6]), ([3, 7], [3, 7]), ([8, 3], [8]), ([9], [9]), ([10, 9], [9, 10]), ([11, 9, 9], [9, 11]), ([12], [12]), ([12], [12]), ([14, 12], [12, 14]), ([13, 15, 12], [12, 13, 15]), ([12, 16, 9], [9, 12, 16]), ([9, 17], [9, 17]), ([18, 12], [18]), ([19, 19], [19]), ([19, 20], [19, 20]), ([21, 20, 0, 1, 2, 3, 4, 5, 6, 7, 8, 9, 10, 11, 12, 13, 14, 15, 16, 17, 18, 19, 20, 21], [21])])
def torchonlaw06_GridsShortest.B9 : List Nat := [0, 0, 3, 7, 15, 15, 47, 127, 255, 511, 1023, 2047, 4095, 8191, 8191, 24575, 65535, 131071, 262143, 524287, 1048575, 2097151, 4194303]
theorem torchonlaw06_GridsShortest.tab9 : rtab .any (opsOf Try.f6 9) = torchonlaw06_GridsShortest.T9 := by kernel_rfl
theorem torchonlaw06_GridsShortest.bits9 : waitsOk torchonlaw06_GridsShortest.T9.2 torchonlaw06_GridsShortest.B9 = true := by kernel_rfl
set_option maxHeartbeats 8000000 in
set_option maxRecDepth 100000 in
theorem torchonlaw06_GridsShortest.calls (k : Nat) (a0_0 : Int) (a0_1 : Int) (a0_2 : Int) (a1_0 : Int) (a1_1 : Int) (r : Bool) (w : World) (h : torchonlaw06_GridsShortest.f k a0_0 a0_1 a0_2 a1_0 a1_1 = some r) :
    Calls Try.prog 6 #[.agg #[.int .i64 a0_0, .int .i64 a0_1, .int .i64 a0_2], .agg #[.int .i64 a1_0, .int .i64 a1_1]] w fun e w' => e = .returned (.bool r) ∧ Below w.heap.size w w' := by
  have hu23 := Try.underlying23
  have hu37 := Try.underlying37
  have hu25 := Try.underlying25
  have HB := Aside0.mk (Below.refl w.heap.size w)
  have H : ((grids_Reduce.f k a0_0 a0_1 a0_2).bind fun bt757 => (if bt757.2.2.2.2.2.2.2 = 0 then ((some (Int.tmod a1_0 1001)).bind fun z769 => ((some (Int.tmod a1_1 1001)).bind fun z770 => ((torchonlaw06_pt.f z769 z770).bind fun bt771 => ((torchonlaw06_pt.f 0 0).bind fun bt773 => ((grids_Square.f k a0_0 a0_1 a0_2 bt773.1 bt773.2 bt771.1 bt771.2).bind fun bt775 => ((torchonlaw06_pt.f 0 0).bind fun bt777 => ((some (Int.tmod bt757.2.2.2.1 10001)).bind fun z779 => ((some (Int.tmod bt757.2.2.2.2.2.1 10001)).bind fun z780 => ((torchonlaw06_pt.f z779 z780).bind fun bt781 => ((grids_Side.f k bt777.1 bt777.2 bt771.1 bt771.2 bt781.1 bt781.2).bind fun bt783 => (if bt775.2 = 0 then (torchonlaw06_GridsShortest.j0 k bt775.1 bt783.1 (bt783.2 != 0) bt771.1 bt771.2 bt757.1 bt757.2.1 bt757.2.2.1) else (torchonlaw06_GridsShortest.j0 k bt775.1 bt783.1 true bt771.1 bt771.2 bt757.1 bt757.2.1 bt757.2.2.1)))))))))))) else ((grids_Check.f k a0_0 a0_1 a0_2).bind fun t767 => (if t767 = 2 then ((torchonlaw06_awake.f k).bind fun t768 => (some t768)) else (none))))) = some r := h
  clear h
  replace H := Option.bind_eq_some_iff.mp H
  obtain ⟨⟨t757, t758, t759, t760, t761, t762, t763, t764⟩, A30, H⟩ := H
  replace H : (if t764 = 0 then ((some (Int.tmod a1_0 1001)).bind fun z769 => ((some (Int.tmod a1_1 1001)).bind fun z770 => ((torchonlaw06_pt.f z769 z770).bind fun bt771 => ((torchonlaw06_pt.f 0 0).bind fun bt773 => ((grids_Square.f k a0_0 a0_1 a0_2 bt773.1 bt773.2 bt771.1 bt771.2).bind fun bt775 => ((torchonlaw06_pt.f 0 0).bind fun bt777 => ((some (Int.tmod t760 10001)).bind fun z779 => ((some (Int.tmod t762 10001)).bind fun z780 => ((torchonlaw06_pt.f z779 z780).bind fun bt781 => ((grids_Side.f k bt777.1 bt777.2 bt771.1 bt771.2 bt781.1 bt781.2).bind fun bt783 => (if bt775.2 = 0 then (torchonlaw06_GridsShortest.j0 k bt775.1 bt783.1 (bt783.2 != 0) bt771.1 bt771.2 t757 t758 t759) else (torchonlaw06_GridsShortest.j0 k bt775.1 bt783.1 true bt771.1 bt771.2 t757 t758 t759)))))))))))) else ((grids_Check.f k a0_0 a0_1 a0_2).bind fun t767 => (if t767 = 2 then ((torchonlaw06_awake.f k).bind fun t768 => (some t768)) else (none)))) = some r := H
  have A3 := Aside0.mk A30
  clear A30
  by_cases c4 : t764 = 0
  · rw [if_pos c4] at H
    have c4b0 : (t764 == 0) = true := beq_iff_eq.mpr c4
    have c4b1 : (t764 != 0) = false := bne_eq_false_iff_eq.mpr c4
    clear c4
    replace H := Option.bind_eq_some_iff.mp H
    obtain ⟨z769, E50, H⟩ := H
    replace H : ((some (Int.tmod a1_1 1001)).bind fun z770 => ((torchonlaw06_pt.f z769 z770).bind fun bt771 => ((torchonlaw06_pt.f 0 0).bind fun bt773 => ((grids_Square.f k a0_0 a0_1 a0_2 bt773.1 bt773.2 bt771.1 bt771.2).bind fun bt775 => ((torchonlaw06_pt.f 0 0).bind fun bt777 => ((some (Int.tmod t760 10001)).bind fun z779 => ((some (Int.tmod t762 10001)).bind fun z780 => ((torchonlaw06_pt.f z779 z780).bind fun bt781 => ((grids_Side.f k bt777.1 bt777.2 bt771.1 bt771.2 bt781.1 bt781.2).bind fun bt783 => (if bt775.2 = 0 then (torchonlaw06_GridsShortest.j0 k bt775.1 bt783.1 (bt783.2 != 0) bt771.1 bt771.2 t757 t758 t759) else (torchonlaw06_GridsShortest.j0 k bt775.1 bt783.1 true bt771.1 bt771.2 t757 t758 t759))))))))))) = some r := H
    replace E50 := Option.some.inj E50
    replace H := Option.bind_eq_some_iff.mp H
    obtain ⟨z770, E60, H⟩ := H
    replace H : ((torchonlaw06_pt.f z769 z770).bind fun bt771 => ((torchonlaw06_pt.f 0 0).bind fun bt773 => ((grids_Square.f k a0_0 a0_1 a0_2 bt773.1 bt773.2 bt771.1 bt771.2).bind fun bt775 => ((torchonlaw06_pt.f 0 0).bind fun bt777 => ((some (Int.tmod t760 10001)).bind fun z779 => ((some (Int.tmod t762 10001)).bind fun z780 => ((torchonlaw06_pt.f z779 z780).bind fun bt781 => ((grids_Side.f k bt777.1 bt777.2 bt771.1 bt771.2 bt781.1 bt781.2).bind fun bt783 => (if bt775.2 = 0 then (torchonlaw06_GridsShortest.j0 k bt775.1 bt783.1 (bt783.2 != 0) bt771.1 bt771.2 t757 t758 t759) else (torchonlaw06_GridsShortest.j0 k bt775.1 bt783.1 true bt771.1 bt771.2 t757 t758 t759)))))))))) = some r := H
    replace E60 := Option.some.inj E60
    replace H := Option.bind_eq_some_iff.mp H
    obtain ⟨⟨t771, t772⟩, A70, H⟩ := H
    replace H : ((torchonlaw06_pt.f 0 0).bind fun bt773 => ((grids_Square.f k a0_0 a0_1 a0_2 bt773.1 bt773.2 t771 t772).bind fun bt775 => ((torchonlaw06_pt.f 0 0).bind fun bt777 => ((some (Int.tmod t760 10001)).bind fun z779 => ((some (Int.tmod t762 10001)).bind fun z780 => ((torchonlaw06_pt.f z779 z780).bind fun bt781 => ((grids_Side.f k bt777.1 bt777.2 t771 t772 bt781.1 bt781.2).bind fun bt783 => (if bt775.2 = 0 then (torchonlaw06_GridsShortest.j0 k bt775.1 bt783.1 (bt783.2 != 0) t771 t772 t757 t758 t759) else (torchonlaw06_GridsShortest.j0 k bt775.1 bt783.1 true t771 t772 t757 t758 t759))))))))) = some r := H
    have A7 := Aside0.mk A70
    clear A70
    replace H := Option.bind_eq_some_iff.mp H
    obtain ⟨⟨t773, t774⟩, A80, H⟩ := H
    replace H : ((grids_Square.f k a0_0 a0_1 a0_2 t773 t774 t771 t772).bind fun bt775 => ((torchonlaw06_pt.f 0 0).bind fun bt777 => ((some (Int.tmod t760 10001)).bind fun z779 => ((some (Int.tmod t762 10001)).bind fun z780 => ((torchonlaw06_pt.f z779 z780).bind fun bt781 => ((grids_Side.f k bt777.1 bt777.2 t771 t772 bt781.1 bt781.2).bind fun bt783 => (if bt775.2 = 0 then (torchonlaw06_GridsShortest.j0 k bt775.1 bt783.1 (bt783.2 != 0) t771 t772 t757 t758 t759) else (torchonlaw06_GridsShortest.j0 k bt775.1 bt783.1 true t771 t772 t757 t758 t759)))))))) = some r := H
    have A8 := Aside0.mk A80
    clear A80
    replace H := Option.bind_eq_some_iff.mp H
    obtain ⟨⟨t775, t776⟩, A90, H⟩ := H
    replace H : ((torchonlaw06_pt.f 0 0).bind fun bt777 => ((some (Int.tmod t760 10001)).bind fun z779 => ((some (Int.tmod t762 10001)).bind fun z780 => ((torchonlaw06_pt.f z779 z780).bind fun bt781 => ((grids_Side.f k bt777.1 bt777.2 t771 t772 bt781.1 bt781.2).bind fun bt783 => (if t776 = 0 then (torchonlaw06_GridsShortest.j0 k t775 bt783.1 (bt783.2 != 0) t771 t772 t757 t758 t759) else (torchonlaw06_GridsShortest.j0 k t775 bt783.1 true t771 t772 t757 t758 t759))))))) = some r := H
    have A9 := Aside0.mk A90
    clear A90
    replace H := Option.bind_eq_some_iff.mp H
    obtain ⟨⟨t777, t778⟩, A100, H⟩ := H
    replace H : ((some (Int.tmod t760 10001)).bind fun z779 => ((some (Int.tmod t762 10001)).bind fun z780 => ((torchonlaw06_pt.f z779 z780).bind fun bt781 => ((grids_Side.f k t777 t778 t771 t772 bt781.1 bt781.2).bind fun bt783 => (if t776 = 0 then (torchonlaw06_GridsShortest.j0 k t775 bt783.1 (bt783.2 != 0) t771 t772 t757 t758 t759) else (torchonlaw06_GridsShortest.j0 k t775 bt783.1 true t771 t772 t757 t758 t759)))))) = some r := H
    have A10 := Aside0.mk A100
    clear A100
    replace H := Option.bind_eq_some_iff.mp H
    obtain ⟨z779, E110, H⟩ := H
    replace H : ((some (Int.tmod t762 10001)).bind fun z780 => ((torchonlaw06_pt.f z779 z780).bind fun bt781 => ((grids_Side.f k t777 t778 t771 t772 bt781.1 bt781.2).bind fun bt783 => (if t776 = 0 then (torchonlaw06_GridsShortest.j0 k t775 bt783.1 (bt783.2 != 0) t771 t772 t757 t758 t759) else (torchonlaw06_GridsShortest.j0 k t775 bt783.1 true t771 t772 t757 t758 t759))))) = some r := H
    replace E110 := Option.some.inj E110
    replace H := Option.bind_eq_some_iff.mp H
    obtain ⟨z780, E120, H⟩ := H
    replace H : ((torchonlaw06_pt.f z779 z780).bind fun bt781 => ((grids_Side.f k t777 t778 t771 t772 bt781.1 bt781.2).bind fun bt783 => (if t776 = 0 then (torchonlaw06_GridsShortest.j0 k t775 bt783.1 (bt783.2 != 0) t771 t772 t757 t758 t759) else (torchonlaw06_GridsShortest.j0 k t775 bt783.1 true t771 t772 t757 t758 t759)))) = some r := H
    replace E120 := Option.some.inj E120
    replace H := Option.bind_eq_some_iff.mp H
    obtain ⟨⟨t781, t782⟩, A130, H⟩ := H
    replace H : ((grids_Side.f k t777 t778 t771 t772 t781 t782).bind fun bt783 => (if t776 = 0 then (torchonlaw06_GridsShortest.j0 k t775 bt783.1 (bt783.2 != 0) t771 t772 t757 t758 t759) else (torchonlaw06_GridsShortest.j0 k t775 bt783.1 true t771 t772 t757 t758 t759))) = some r := H
    have A13 := Aside0.mk A130
    clear A130
    replace H := Option.bind_eq_some_iff.mp H
    obtain ⟨⟨t783, t784⟩, A140, H⟩ := H
    replace H : (if t776 = 0 then (torchonlaw06_GridsShortest.j0 k t775 t783 (t784 != 0) t771 t772 t757 t758 t759) else (torchonlaw06_GridsShortest.j0 k t775 t783 true t771 t772 t757 t758 t759)) = some r := H
    have A14 := Aside0.mk A140
    clear A140
    have HC15 := Aside0.mk H
    clear H
    go_enter Try.func6, Try.ntmps6
    try go_wp2_with (first | ((with_reducible refine gate_dst (N := 2) rfl ?_); refine bx 2 #[.int .i64 a0_0, .int .i64 a0_1, .int .i64 a0_2] 23 fun gb755 hg w16 BK755 hb => ?_; have GW755 := gw hg HB; have GE755 := gw hg HB; replace HB := bst HB hb; clear hb hg) | ((with_reducible refine gate_dst (N := 3) rfl ?_); refine bx 3 #[.int .i64 a1_0, .int .i64 a1_1] 37 fun gb756 hg w17 BK756 hb => ?_; have GW756 := gw hg HB; have GE756 := gw hg HB; have NB755_756 := nlt hg BK755; have NB756_755 := ngt hg BK755; replace BK755 := bb BK755 hb; replace HB := bst HB hb; clear hb hg; have hnb18 := NB755_756.out; have hnc18 := NB756_755.out; have ⟨hcz19_0, hcz19_1, hcz19_2, hfz19_0, hfz19_1, hfz19_2⟩ := cf3 BK755) | ((with_reducible refine gate_callee (f := 11) rfl ?_); refine gl 14 Try.func11 (grids_Reduce.calls k a0_0 a0_1 a0_2 t757 t758 t759 t760 t761 t762 t763 t764 _ A3.out) ?_; rintro e w20 ⟨rfl, hb⟩; refine ⟨_, rfl, ?_⟩; replace BK755 := bb BK755 hb; replace BK756 := bb BK756 hb; replace HB := bst HB hb; clear hb) | ((with_reducible refine gate_dst (N := 5) rfl ?_); refine bx 5 #[.int .i64 0, .int .i64 0, .int .i64 0] 23 fun gb765 hg w21 BK765 hb => ?_; have GW765 := gw hg HB; have GE765 := gw hg HB; have NB755_765 := nlt hg BK755; have NB765_755 := ngt hg BK755; have NB756_765 := nlt hg BK756; have NB765_756 := ngt hg BK756; replace BK755 := bb BK755 hb; replace BK756 := bb BK756 hb; replace HB := bst HB hb; clear hb hg) | ((with_reducible refine gate_dst (N := 6) rfl ?_); refine bx 6 #[.int .i64 0, .int .i64 0, .int .i64 0, .int .i64 0] 25 fun gb766 hg w22 BK766 hb => ?_; have GW766 := gw hg HB; have GE766 := gw hg HB; have NB755_766 := nlt hg BK755; have NB766_755 := ngt hg BK755; have NB756_766 := nlt hg BK756; have NB766_756 := ngt hg BK756; have NB765_766 := nlt hg BK765; have NB766_765 := ngt hg BK765; replace BK755 := bb BK755 hb; replace BK756 := bb BK756 hb; replace BK765 := bb BK765 hb; replace HB := bst HB hb; clear hb hg; have hnb23 := NB765_755.out; have hnc23 := NB755_765.out; have hnb24 := NB765_756.out; have hnc24 := NB756_765.out; have hnb25 := NB765_766.out; have hnc25 := NB766_765.out; have ⟨hcz26_0, hcz26_1, hcz26_2, hfz26_0, hfz26_1, hfz26_2⟩ := cf3 BK765) | ((with_reducible refine gate_store (t := 23) (p := 5) rfl ?_); refine sx 23 5 ((((w22.setCell ⟨gb765, 0, none⟩ (.int .i64 t757)).setCell ⟨gb765, 1, none⟩ (.int .i64 t758)).setCell ⟨gb765, 2, none⟩ (.int .i64 t759))) fun w27 hw => ?_; replace BK755 := fw hw BK755; replace BK756 := fw hw BK756; replace BK765 := pw3 hw BK765; replace BK766 := fw hw BK766; replace HB := bw hw HB; clear hw; have hnb28 := NB766_755.out; have hnc28 := NB755_766.out; have hnb29 := NB766_756.out; have hnc29 := NB756_766.out; have ⟨hcz30_0, hcz30_1, hcz30_2, hcz30_3, hfz30_0, hfz30_1, hfz30_2, hfz30_3⟩ := cf4 BK766) | ((with_reducible refine gate_store (t := 25) (p := 6) rfl ?_); refine sx 25 6 (((((w27.setCell ⟨gb766, 0, none⟩ (.int .i64 t760)).setCell ⟨gb766, 1, none⟩ (.int .i64 t761)).setCell ⟨gb766, 2, none⟩ (.int .i64 t762)).setCell ⟨gb766, 3, none⟩ (.int .i64 t763))) fun w31 hw => ?_; replace BK755 := fw hw BK755; replace BK756 := fw hw BK756; replace BK765 := fw hw BK765; replace BK766 := pw4 hw BK766; replace HB := bw hw HB; clear hw; have ⟨hcz32_0, hcz32_1, hfz32_0, hfz32_1⟩ := cf2 BK756) | ((with_reducible refine gate_callee (f := 19) rfl ?_); refine gl 32 Try.func19 (torchonlaw06_pt.calls z769 z770 t771 t772 _ A7.out) ?_; rintro e w33 ⟨rfl, hb⟩; refine ⟨_, rfl, ?_⟩; replace BK755 := bb BK755 hb; replace BK756 := bb BK756 hb; replace BK765 := bb BK765 hb; replace BK766 := bb BK766 hb; replace HB := bst HB hb; clear hb; have ⟨hcz34_0, hcz34_1, hfz34_0, hfz34_1⟩ := cf2 BK756))
    have n0_ : Aside0 (((w33.setCell ⟨gb756, 0, none⟩ (.int .i64 t771)).setCell ⟨gb756, 1, none⟩ (.int .i64 t772)).heap[gb755]? = some (.cells #[.int .i64 a0_0, .int .i64 a0_1, .int .i64 a0_2] 23 (0, 0))) := ff BK755
    have n1_ : Aside0 (((w33.setCell ⟨gb756, 0, none⟩ (.int .i64 t771)).setCell ⟨gb756, 1, none⟩ (.int .i64 t772)).heap[gb756]? = some (.cells #[.int .i64 t771, .int .i64 t772] 37 (0, 0))) := pf2 BK756
    have n2_ : Aside0 (((w33.setCell ⟨gb756, 0, none⟩ (.int .i64 t771)).setCell ⟨gb756, 1, none⟩ (.int .i64 t772)).heap[gb765]? = some (.cells #[.int .i64 t757, .int .i64 t758, .int .i64 t759] 23 (0, 0))) := ff BK765
    have n3_ : Aside0 (((w33.setCell ⟨gb756, 0, none⟩ (.int .i64 t771)).setCell ⟨gb756, 1, none⟩ (.int .i64 t772)).heap[gb766]? = some (.cells #[.int .i64 t760, .int .i64 t761, .int .i64 t762, .int .i64 t763] 25 (0, 0))) := ff BK766
    have n4_ : Aside0 (Below w.heap.size w ((w33.setCell ⟨gb756, 0, none⟩ (.int .i64 t771)).setCell ⟨gb756, 1, none⟩ (.int .i64 t772))) := ⟨bnow HB⟩
    (try clear BK755)
    (try clear BK756)
    (try clear BK765)
    (try clear BK766)
    (try clear HB)
    generalize ((w33.setCell ⟨gb756, 0, none⟩ (.int .i64 t771)).setCell ⟨gb756, 1, none⟩ (.int .i64 t772)) = w35 at n0_ n1_ n2_ n3_ n4_ ⊢
    have BK755 := n0_
    have BK756 := n1_
    have BK765 := n2_
    have BK766 := n3_
    have HB := n4_
    clear n0_ n1_ n2_ n3_ n4_
    replace BK755 := bd BK755
    replace BK756 := bd BK756
    replace BK765 := bd BK765
    replace BK766 := bd BK766
    replace HB := bdn HB
    refine start_ (n := 9) (S := fun w' => w'.cell? ⟨gb755, 0, none⟩ = some (.int .i64 a0_0) ∧ w'.cell? ⟨gb755, 1, none⟩ = some (.int .i64 a0_1) ∧ w'.cell? ⟨gb755, 2, none⟩ = some (.int .i64 a0_2) ∧ w'.cell? ⟨gb756, 0, none⟩ = some (.int .i64 t771) ∧ w'.cell? ⟨gb756, 1, none⟩ = some (.int .i64 t772)) (ds := []) #[false, false, false, false, false, false, false, false, false] (by kernel_rfl) rfl rfl ⟨(blk_cell BK755.out 0).trans rfl, (blk_cell BK755.out 1).trans rfl, (blk_cell BK755.out 2).trans rfl, (blk_cell BK756.out 0).trans rfl, (blk_cell BK756.out 1).trans rfl⟩ (fun hHeld => ?_); refine with_tabW torchonlaw06_GridsShortest.tab5 torchonlaw06_GridsShortest.bits5 (fun HT_ HW_ => ?_)
    generalize w35.drew = w36 at BK755 BK756 BK765 BK766 HB hHeld ⊢
    refine tz 0 34 HT_ HW_ hHeld ?_
    refine tz 2 36 HT_ HW_ hHeld ?_
    refine one_ (i := 1) (N := some 35) #[true, true, true, false, false, false, false, false, false] rfl rfl (one_of HT_.out (by kernel_rfl)) (by decide) (fun K hK => ?_)
    refine gs _ Try.func19 (torchonlaw06_pt.calls 0 0 t773 t774 _ A8.out) ?_
    rintro e w37 ⟨rfl, hb⟩
    refine ⟨_, rfl, ?_⟩
    replace BK755 := bb BK755 hb
    replace BK756 := bb BK756 hb
    replace BK765 := bb BK765 hb
    replace BK766 := bb BK766 hb
    replace HB := bst HB hb
    (try clear hb)
    (try clear hb2)
    (try clear hk)
    (try clear hi)
    refine hK.out _ _ ⟨(blk_cell BK755.out 0).trans rfl, (blk_cell BK755.out 1).trans rfl, (blk_cell BK755.out 2).trans rfl, (blk_cell BK756.out 0).trans rfl, (blk_cell BK756.out 1).trans rfl⟩ (fun hHeld => ?_)
    clear hK K
    refine norm_ (a' := ?_) ?_ ?_
    rotate_left
    · show Act.put _ (some 35) _ = _
      simp only [Act.put, List.setIfInBounds_toArray, List.set_cons_zero, List.set_cons_succ, i64_w, i32_w]
      rfl
    refine one_ (i := 3) (N := some 37) #[true, true, true, true, false, false, false, false, false] rfl rfl (one_of HT_.out (by kernel_rfl)) (by decide) (fun K hK => ?_)
    refine gs _ Try.func20 (grids_Square.calls k a0_0 a0_1 a0_2 t773 t774 t771 t772 t775 t776 _ A9.out) ?_
    rintro e w38 ⟨rfl, hb⟩
    refine ⟨_, rfl, ?_⟩
    replace BK755 := bb BK755 hb
    replace BK756 := bb BK756 hb
    replace BK765 := bb BK765 hb
    replace BK766 := bb BK766 hb
    replace HB := bst HB hb
    (try clear hb)
    (try clear hb2)
    (try clear hk)
    (try clear hi)
    refine hK.out _ _ ⟨(blk_cell BK755.out 0).trans rfl, (blk_cell BK755.out 1).trans rfl, (blk_cell BK755.out 2).trans rfl, (blk_cell BK756.out 0).trans rfl, (blk_cell BK756.out 1).trans rfl⟩ (fun hHeld => ?_)
    clear hK K
    refine norm_ (a' := ?_) ?_ ?_
    rotate_left
    · show Act.put _ (some 37) _ = _
      simp only [Act.put, List.setIfInBounds_toArray, List.set_cons_zero, List.set_cons_succ, i64_w, i32_w]
      rfl
    refine pz 4 33 HT_ ?_
    refine pz 5 38 HT_ ?_
    refine pz 6 39 HT_ ?_
    refine pz 7 8 HT_ ?_
    refine pz 8 9 HT_ ?_
    refine done_ (done_of HT_.out (by kernel_rfl)) ?_
    try go_wp2
    replace BK755 := bd BK755
    replace BK756 := bd BK756
    replace BK765 := bd BK765
    replace BK766 := bd BK766
    replace HB := bdn HB
    refine start_ (n := 15) (S := fun w' => w'.cell? ⟨gb756, 0, none⟩ = some (.int .i64 t771) ∧ w'.cell? ⟨gb756, 1, none⟩ = some (.int .i64 t772) ∧ w'.cell? ⟨gb766, 0, none⟩ = some (.int .i64 t760) ∧ w'.cell? ⟨gb766, 1, none⟩ = some (.int .i64 t761) ∧ w'.cell? ⟨gb766, 2, none⟩ = some (.int .i64 t762) ∧ w'.cell? ⟨gb766, 3, none⟩ = some (.int .i64 t763)) (ds := []) #[false, false, false, false, false, false, false, false, false, false, false, false, false, false, false] (by kernel_rfl) rfl rfl ⟨(blk_cell BK756.out 0).trans rfl, (blk_cell BK756.out 1).trans rfl, (blk_cell BK766.out 0).trans rfl, (blk_cell BK766.out 1).trans rfl, (blk_cell BK766.out 2).trans rfl, (blk_cell BK766.out 3).trans rfl⟩ (fun hHeld => ?_); refine with_tabW torchonlaw06_GridsShortest.tab6 torchonlaw06_GridsShortest.bits6 (fun HT_ HW_ => ?_)
    generalize w38.drew = w39 at BK755 BK756 BK765 BK766 HB hHeld ⊢
    refine pz 2 43 HT_ ?_
    refine pz 5 46 HT_ ?_
    refine tz 1 42 HT_ HW_ hHeld ?_
    refine tz 3 44 HT_ HW_ hHeld ?_
    refine pz 4 45 HT_ ?_
    refine tz 6 47 HT_ HW_ hHeld ?_
    refine pz 7 48 HT_ ?_
    refine one_ (i := 0) (N := some 41) #[true, true, true, true, true, true, true, true, false, false, false, false, false, false, false] rfl rfl (one_of HT_.out (by kernel_rfl)) (by decide) (fun K hK => ?_)
    refine gs _ Try.func19 (torchonlaw06_pt.calls 0 0 t777 t778 _ A10.out) ?_
    rintro e w40 ⟨rfl, hb⟩
    refine ⟨_, rfl, ?_⟩
    replace BK755 := bb BK755 hb
    replace BK756 := bb BK756 hb
    replace BK765 := bb BK765 hb
    replace BK766 := bb BK766 hb
    replace HB := bst HB hb
    (try clear hb)
    (try clear hb2)
    (try clear hk)
    (try clear hi)
    refine hK.out _ _ ⟨(blk_cell BK756.out 0).trans rfl, (blk_cell BK756.out 1).trans rfl, (blk_cell BK766.out 0).trans rfl, (blk_cell BK766.out 1).trans rfl, (blk_cell BK766.out 2).trans rfl, (blk_cell BK766.out 3).trans rfl⟩ (fun hHeld => ?_)
    clear hK K
    refine norm_ (a' := ?_) ?_ ?_
    rotate_left
    · show Act.put _ (some 41) _ = _
      simp only [Act.put, List.setIfInBounds_toArray, List.set_cons_zero, List.set_cons_succ, i64_w, i32_w]
      rfl
    refine one_ (i := 8) (N := some 49) #[true, true, true, true, true, true, true, true, true, false, false, false, false, false, false] rfl rfl (one_of HT_.out (by kernel_rfl)) (by decide) (fun K hK => ?_)
    refine gs _ Try.func19 (torchonlaw06_pt.calls z779 z780 t781 t782 _ A13.out) ?_
    rintro e w41 ⟨rfl, hb⟩
    refine ⟨_, rfl, ?_⟩
    replace BK755 := bb BK755 hb
    replace BK756 := bb BK756 hb
    replace BK765 := bb BK765 hb
    replace BK766 := bb BK766 hb
    replace HB := bst HB hb
    (try clear hb)
    (try clear hb2)
    (try clear hk)
    (try clear hi)
    refine hK.out _ _ ⟨(blk_cell BK756.out 0).trans rfl, (blk_cell BK756.out 1).trans rfl, (blk_cell BK766.out 0).trans rfl, (blk_cell BK766.out 1).trans rfl, (blk_cell BK766.out 2).trans rfl, (blk_cell BK766.out 3).trans rfl⟩ (fun hHeld => ?_)
    clear hK K
    refine norm_ (a' := ?_) ?_ ?_
    rotate_left
    · show Act.put _ (some 49) _ = _
      simp only [Act.put, List.setIfInBounds_toArray, List.set_cons_zero, List.set_cons_succ, i64_w, i32_w]
      rfl
    refine one_ (i := 9) (N := some 50) #[true, true, true, true, true, true, true, true, true, true, false, false, false, false, false] rfl rfl (one_of HT_.out (by kernel_rfl)) (by decide) (fun K hK => ?_)
    refine gs _ Try.func21 (grids_Side.calls k t777 t778 t771 t772 t781 t782 t783 t784 _ A14.out) ?_
    rintro e w42 ⟨rfl, hb⟩
    refine ⟨_, rfl, ?_⟩
    replace BK755 := bb BK755 hb
    replace BK756 := bb BK756 hb
    replace BK765 := bb BK765 hb
    replace BK766 := bb BK766 hb
    replace HB := bst HB hb
    (try clear hb)
    (try clear hb2)
    (try clear hk)
    (try clear hi)
    refine hK.out _ _ ⟨(blk_cell BK756.out 0).trans rfl, (blk_cell BK756.out 1).trans rfl, (blk_cell BK766.out 0).trans rfl, (blk_cell BK766.out 1).trans rfl, (blk_cell BK766.out 2).trans rfl, (blk_cell BK766.out 3).trans rfl⟩ (fun hHeld => ?_)
    clear hK K
    refine norm_ (a' := ?_) ?_ ?_
    rotate_left
    · show Act.put _ (some 50) _ = _
      simp only [Act.put, List.setIfInBounds_toArray, List.set_cons_zero, List.set_cons_succ, i64_w, i32_w]
      rfl
    refine pz 10 40 HT_ ?_
    refine pz 11 51 HT_ ?_
    refine pz 12 52 HT_ ?_
    refine pz 13 10 HT_ ?_
    refine pz 14 11 HT_ ?_
    refine done_ (done_of HT_.out (by kernel_rfl)) ?_
    go_upto_region 7 with (fail)
    go_cut [58] (fun v58 wc => ∃ (kq : Nat) (x58_14 : Bool), v58 = .bool x58_14 ∧ Aside0 (torchonlaw06_GridsShortest.j0 kq t775 t783 x58_14 t771 t772 t757 t758 t759 = some r) ∧ Aside0 (kq ≤ k) ∧ Aside0 (wc.heap[gb755]? = some (.cells #[.int .i64 a0_0, .int .i64 a0_1, .int .i64 a0_2] 23 (0, 0))) ∧ Aside0 (wc.heap[gb756]? = some (.cells #[.int .i64 t771, .int .i64 t772] 37 (0, 0))) ∧ Aside0 (wc.heap[gb765]? = some (.cells #[.int .i64 t757, .int .i64 t758, .int .i64 t759] 23 (0, 0))) ∧ Aside0 (wc.heap[gb766]? = some (.cells #[.int .i64 t760, .int .i64 t761, .int .i64 t762, .int .i64 t763] 25 (0, 0))) ∧ Aside0 (Below w.heap.size w wc))
    case first =>
      have H := HC15.out
      clear HC15
      by_cases c43 : t776 = 0
      · rw [if_pos c43] at H
        have c43b0 : (t776 == 0) = true := beq_iff_eq.mpr c43
        have c43b1 : (t776 != 0) = false := bne_eq_false_iff_eq.mpr c43
        clear c43
        (first | rw [c43b0] | (simp only [i64_w, i32_w]; rw [c43b0]) | skip)
        have H' := Aside0.mk H
        clear H
        go_wp2
        go_meet
        case rel => exact ⟨_, ((t784 != 0)), (by first | rfl | (simp; done) | (simp [*]; done)), H', ⟨by first | omega | exact Nat.le_refl _⟩, ⟨pk BK755⟩, ⟨pk BK756⟩, ⟨pk BK765⟩, ⟨pk BK766⟩, ⟨bnow HB⟩⟩
      · rw [if_neg c43] at H
        have c43b0 : (t776 == 0) = false := beq_eq_false_iff_ne.mpr c43
        have c43b1 : (t776 != 0) = true := bne_iff_ne.mpr c43
        (first | rw [c43b0] | (simp only [i64_w, i32_w]; rw [c43b0]) | skip)
        have H' := Aside0.mk H
        clear H
        go_wp2
        go_meet
        case rel => exact ⟨_, (true), (by first | rfl | (simp; done) | (simp [*]; done)), H', ⟨by first | omega | exact Nat.le_refl _⟩, ⟨pk BK755⟩, ⟨pk BK756⟩, ⟨pk BK765⟩, ⟨pk BK766⟩, ⟨bnow HB⟩⟩
    case rest =>
      clear HC15
      try clear c1; try clear c2; try clear p2; try clear c4; try clear c4b0; try clear c4b1; try clear c6; try clear c11; try clear c18; try clear c19; try clear c20; try clear c21; try clear c23; try clear c24; try clear c25; try clear c28; try clear c29; try clear c43; try clear c43b0; try clear c43b1; try clear hcz19_0; try clear hcz19_1; try clear hcz19_2; try clear hcz26_0; try clear hcz26_1; try clear hcz26_2; try clear hcz30_0; try clear hcz30_1; try clear hcz30_2; try clear hcz30_3; try clear hcz32_0; try clear hcz32_1; try clear hcz34_0; try clear hcz34_1; try clear hfz19_0; try clear hfz19_1; try clear hfz19_2; try clear hfz26_0; try clear hfz26_1; try clear hfz26_2; try clear hfz30_0; try clear hfz30_1; try clear hfz30_2; try clear hfz30_3; try clear hfz32_0; try clear hfz32_1; try clear hfz34_0; try clear hfz34_1
      obtain ⟨kq, x58_14, rfl, HA, HJ14, BK755, BK756, BK765, BK766, HB⟩ := hcut
      cases kq with
      | zero => exact absurd HA.out (by simp [torchonlaw06_GridsShortest.j0])
      | succ kj14 =>
        have H := HA.out
        clear HA
        simp only [torchonlaw06_GridsShortest.j0] at H
        by_cases c44 : x58_14 = true
        · subst c44
          have H1 : (none) = some r := by rw [if_pos rfl] at H; exact H
          clear H
          have H := H1
          clear H1
          exact absurd H (by simp)
        · replace c44 := Bool.eq_false_iff.mpr c44
          subst c44
          have H1 : ((torchonlaw06_pt.f 0 0).bind fun bt785 => (if (t771 == bt785.1 && (t772 == bt785.2)) = true then (if t783 = 0 then ((torchonlaw06_awake.f kj14).bind fun t787 => (some t787)) else (if t775 ≥ t759 then ((torchonlaw06_awake.f kj14).bind fun t788 => (some t788)) else (none))) else (if t775 ≥ t757 then (if t783 = 0 then ((torchonlaw06_awake.f kj14).bind fun t789 => (some t789)) else (if t775 ≥ t759 then ((torchonlaw06_awake.f kj14).bind fun t790 => (some t790)) else (none))) else (none)))) = some r := by rw [if_neg (show ¬ (false = true) by decide)] at H; exact H
          clear H
          have H := H1
          clear H1
          replace H := Option.bind_eq_some_iff.mp H
          obtain ⟨⟨t785, t786⟩, A450, H⟩ := H
          replace H : (if (t771 == t785 && (t772 == t786)) = true then (if t783 = 0 then ((torchonlaw06_awake.f kj14).bind fun t787 => (some t787)) else (if t775 ≥ t759 then ((torchonlaw06_awake.f kj14).bind fun t788 => (some t788)) else (none))) else (if t775 ≥ t757 then (if t783 = 0 then ((torchonlaw06_awake.f kj14).bind fun t789 => (some t789)) else (if t775 ≥ t759 then ((torchonlaw06_awake.f kj14).bind fun t790 => (some t790)) else (none))) else (none))) = some r := H
          have A45 := Aside0.mk A450
          clear A450
          by_cases c46 : (t771 == t785 && (t772 == t786)) = true
          · rw [if_pos c46] at H
            have c46b0 : (t771 == t785 && (t772 == t786)) = true := c46
            (try (have c46b1 : decide (t771 = t785 && (t772 == t786)) = true := by simpa using c46))
            (try (have c46b2 : (t771 == t785 && (t772 == t786)) = true := by simpa using c46))
            clear c46
            by_cases c47 : t783 = 0
            · rw [if_pos c47] at H
              have c47b0 : (t783 == 0) = true := beq_iff_eq.mpr c47
              have c47b1 : (t783 != 0) = false := bne_eq_false_iff_eq.mpr c47
              clear c47
              replace H := Option.bind_eq_some_iff.mp H
              obtain ⟨t787, A480, H⟩ := H
              replace H : (some t787) = some r := H
              have A48 := Aside0.mk A480
              clear A480
              obtain rfl := Option.some.inj H
              try go_wp2
              replace BK755 := bd BK755
              replace BK756 := bd BK756
              replace BK765 := bd BK765
              replace BK766 := bd BK766
              replace HB := bdn HB
              refine start_ (n := 23) (S := fun w' => w'.cell? ⟨gb756, 0, none⟩ = some (.int .i64 t771) ∧ w'.cell? ⟨gb756, 1, none⟩ = some (.int .i64 t772)) (ds := []) #[false, false, false, false, false, false, false, false, false, false, false, false, false, false, false, false, false, false, false, false, false, false, false] (by kernel_rfl) rfl rfl ⟨(blk_cell BK756.out 0).trans rfl, (blk_cell BK756.out 1).trans rfl⟩ (fun hHeld => ?_); refine with_tabW torchonlaw06_GridsShortest.tab9 torchonlaw06_GridsShortest.bits9 (fun HT_ HW_ => ?_)
              generalize wc.drew = w49 at BK755 BK756 BK765 BK766 HB hHeld ⊢
              refine tz 0 59 HT_ HW_ hHeld ?_
              refine one_ (i := 1) (N := some 60) #[true, true, false, false, false, false, false, false, false, false, false, false, false, false, false, false, false, false, false, false, false, false, false] rfl rfl (one_of HT_.out (by kernel_rfl)) (by decide) (fun K hK => ?_)
              refine gs _ Try.func19 (torchonlaw06_pt.calls 0 0 t785 t786 _ A45.out) ?_
              rintro e w50 ⟨rfl, hb⟩
              refine ⟨_, rfl, ?_⟩
              replace BK755 := bb BK755 hb
              replace BK756 := bb BK756 hb
              replace BK765 := bb BK765 hb
              replace BK766 := bb BK766 hb
              replace HB := bst HB hb
              (try clear hb)
              (try clear hb2)
              (try clear hk)
              (try clear hi)
              refine hK.out _ _ ⟨(blk_cell BK756.out 0).trans rfl, (blk_cell BK756.out 1).trans rfl⟩ (fun hHeld => ?_)
              clear hK K
              refine norm_ (a' := ?_) ?_ ?_
              rotate_left
              · show Act.put _ (some 60) _ = _
                simp only [Act.put, List.setIfInBounds_toArray, List.set_cons_zero, List.set_cons_succ, i64_w, i32_w]
                rfl
              refine pz 2 61 HT_ ?_
              refine pz 3 62 HT_ ?_
              refine pu 4 63 HT_ ?_
              refine pu 5 64 HT_ ?_
              refine pu 6 65 HT_ ?_
              refine pu 7 66 HT_ ?_
              refine pz 8 67 HT_ ?_
              refine pz 9 68 HT_ ?_
              refine pz 10 69 HT_ ?_
              refine pz 11 70 HT_ ?_
              refine pz 12 71 HT_ ?_
              refine pu 13 72 HT_ ?_
              refine pu 14 73 HT_ ?_
              refine pu 15 74 HT_ ?_
              refine pu 16 75 HT_ ?_
              refine pz 17 76 HT_ ?_
              refine pz 18 77 HT_ ?_
              refine pz 19 78 HT_ ?_
              refine one_ (i := 20) (N := some 79) #[true, true, true, true, true, true, true, true, true, true, true, true, true, true, true, true, true, true, true, true, true, false, false] rfl rfl (one_of HT_.out (by kernel_rfl)) (by decide) (fun K hK => ?_)
              refine gs _ Try.func13 (torchonlaw06_awake.calls kj14  t787 _ A48.out) ?_
              rintro e w51 ⟨rfl, hb⟩
              refine ⟨_, rfl, ?_⟩
              replace BK755 := bb BK755 hb
              replace BK756 := bb BK756 hb
              replace BK765 := bb BK765 hb
              replace BK766 := bb BK766 hb
              replace HB := bst HB hb
              (try clear hb)
              (try clear hb2)
              (try clear hk)
              (try clear hi)
              refine hK.out _ _ ⟨(blk_cell BK756.out 0).trans rfl, (blk_cell BK756.out 1).trans rfl⟩ (fun hHeld => ?_)
              clear hK K
              refine norm_ (a' := ?_) ?_ ?_
              rotate_left
              · show Act.put _ (some 79) _ = _
                simp only [Act.put, List.setIfInBounds_toArray, List.set_cons_zero, List.set_cons_succ, i64_w, i32_w]
                rfl
              refine pz 21 80 HT_ ?_
              refine pz 22 4 HT_ ?_
              refine done_ (done_of HT_.out (by kernel_rfl)) ?_
              try go_wp2
              go_ret
              exact rt HB
            · rw [if_neg c47] at H
              have c47b0 : (t783 == 0) = false := beq_eq_false_iff_ne.mpr c47
              have c47b1 : (t783 != 0) = true := bne_iff_ne.mpr c47
              by_cases c52 : t775 ≥ t759
              · rw [if_pos c52] at H
                have c52b0 : decide (t759 ≤ t775) = true := decide_eq_true c52
                clear c52
                replace H := Option.bind_eq_some_iff.mp H
                obtain ⟨t788, A530, H⟩ := H
                replace H : (some t788) = some r := H
                have A53 := Aside0.mk A530
                clear A530
                obtain rfl := Option.some.inj H
                try go_wp2
                replace BK755 := bd BK755
                replace BK756 := bd BK756
                replace BK765 := bd BK765
                replace BK766 := bd BK766
                replace HB := bdn HB
                refine start_ (n := 23) (S := fun w' => w'.cell? ⟨gb756, 0, none⟩ = some (.int .i64 t771) ∧ w'.cell? ⟨gb756, 1, none⟩ = some (.int .i64 t772) ∧ w'.cell? ⟨gb765, 0, none⟩ = some (.int .i64 t757) ∧ w'.cell? ⟨gb765, 1, none⟩ = some (.int .i64 t758) ∧ w'.cell? ⟨gb765, 2, none⟩ = some (.int .i64 t759)) (ds := []) #[false, false, false, false, false, false, false, false, false, false, false, false, false, false, false, false, false, false, false, false, false, false, false] (by kernel_rfl) rfl rfl ⟨(blk_cell BK756.out 0).trans rfl, (blk_cell BK756.out 1).trans rfl, (blk_cell BK765.out 0).trans rfl, (blk_cell BK765.out 1).trans rfl, (blk_cell BK765.out 2).trans rfl⟩ (fun hHeld => ?_); refine with_tabW torchonlaw06_GridsShortest.tab9 torchonlaw06_GridsShortest.bits9 (fun HT_ HW_ => ?_)
                generalize wc.drew = w54 at BK755 BK756 BK765 BK766 HB hHeld ⊢
                refine tz 0 59 HT_ HW_ hHeld ?_
                refine one_ (i := 1) (N := some 60) #[true, true, false, false, false, false, false, false, false, false, false, false, false, false, false, false, false, false, false, false, false, false, false] rfl rfl (one_of HT_.out (by kernel_rfl)) (by decide) (fun K hK => ?_)
                refine gs _ Try.func19 (torchonlaw06_pt.calls 0 0 t785 t786 _ A45.out) ?_
                rintro e w55 ⟨rfl, hb⟩
                refine ⟨_, rfl, ?_⟩
                replace BK755 := bb BK755 hb
                replace BK756 := bb BK756 hb
                replace BK765 := bb BK765 hb
                replace BK766 := bb BK766 hb
                replace HB := bst HB hb
                (try clear hb)
                (try clear hb2)
                (try clear hk)
                (try clear hi)
                refine hK.out _ _ ⟨(blk_cell BK756.out 0).trans rfl, (blk_cell BK756.out 1).trans rfl, (blk_cell BK765.out 0).trans rfl, (blk_cell BK765.out 1).trans rfl, (blk_cell BK765.out 2).trans rfl⟩ (fun hHeld => ?_)
                clear hK K
                refine norm_ (a' := ?_) ?_ ?_
                rotate_left
                · show Act.put _ (some 60) _ = _
                  simp only [Act.put, List.setIfInBounds_toArray, List.set_cons_zero, List.set_cons_succ, i64_w, i32_w]
                  rfl
                refine pz 2 61 HT_ ?_
                refine pz 3 62 HT_ ?_
                refine pu 4 63 HT_ ?_
                refine pu 5 64 HT_ ?_
                refine pu 6 65 HT_ ?_
                refine pu 7 66 HT_ ?_
                refine pz 8 67 HT_ ?_
                refine pz 9 68 HT_ ?_
                refine pz 10 69 HT_ ?_
                refine pz 11 70 HT_ ?_
                refine pz 12 71 HT_ ?_
                refine pz 13 72 HT_ ?_
                refine pz 14 73 HT_ ?_
                refine tz 15 74 HT_ HW_ hHeld ?_
                refine pz 16 75 HT_ ?_
                refine pz 17 76 HT_ ?_
                refine pz 18 77 HT_ ?_
                refine pz 19 78 HT_ ?_
                refine one_ (i := 20) (N := some 79) #[true, true, true, true, true, true, true, true, true, true, true, true, true, true, true, true, true, true, true, true, true, false, false] rfl rfl (one_of HT_.out (by kernel_rfl)) (by decide) (fun K hK => ?_)
                refine gs _ Try.func13 (torchonlaw06_awake.calls kj14  t788 _ A53.out) ?_
                rintro e w56 ⟨rfl, hb⟩
                refine ⟨_, rfl, ?_⟩
                replace BK755 := bb BK755 hb
                replace BK756 := bb BK756 hb
                replace BK765 := bb BK765 hb
                replace BK766 := bb BK766 hb
                replace HB := bst HB hb
                (try clear hb)
                (try clear hb2)
                (try clear hk)
                (try clear hi)
                refine hK.out _ _ ⟨(blk_cell BK756.out 0).trans rfl, (blk_cell BK756.out 1).trans rfl, (blk_cell BK765.out 0).trans rfl, (blk_cell BK765.out 1).trans rfl, (blk_cell BK765.out 2).trans rfl⟩ (fun hHeld => ?_)
                clear hK K
                refine norm_ (a' := ?_) ?_ ?_
                rotate_left
                · show Act.put _ (some 79) _ = _
                  simp only [Act.put, List.setIfInBounds_toArray, List.set_cons_zero, List.set_cons_succ, i64_w, i32_w]
                  rfl
                refine pz 21 80 HT_ ?_
                refine pz 22 4 HT_ ?_
                refine done_ (done_of HT_.out (by kernel_rfl)) ?_
                try go_wp2
                go_ret
                exact rt HB
              · rw [if_neg c52] at H
                have c52b0 : decide (t759 ≤ t775) = false := decide_eq_false c52
                clear c52
                exact absurd H (by simp)
          · rw [if_neg c46] at H
            have c46b0 : (t771 == t785 && (t772 == t786)) = false := by simpa using c46
            (try (have c46b1 : decide (t771 = t785 && (t772 == t786)) = false := by simpa using c46))
            (try (have c46b2 : (t771 == t785 && (t772 == t786)) = false := by simpa using c46))
            (try (have c46b3 : ¬ (t771 = t785 && (t772 == t786)) := by simpa using c46))
            clear c46
            by_cases c57 : t775 ≥ t757
            · rw [if_pos c57] at H
              have c57b0 : decide (t757 ≤ t775) = true := decide_eq_true c57
              clear c57
              by_cases c58 : t783 = 0
              · rw [if_pos c58] at H
                have c58b0 : (t783 == 0) = true := beq_iff_eq.mpr c58
                have c58b1 : (t783 != 0) = false := bne_eq_false_iff_eq.mpr c58
                clear c58
                replace H := Option.bind_eq_some_iff.mp H
                obtain ⟨t789, A590, H⟩ := H
                replace H : (some t789) = some r := H
                have A59 := Aside0.mk A590
                clear A590
                obtain rfl := Option.some.inj H
                try go_wp2
                replace BK755 := bd BK755
                replace BK756 := bd BK756
                replace BK765 := bd BK765
                replace BK766 := bd BK766
                replace HB := bdn HB
                refine start_ (n := 23) (S := fun w' => w'.cell? ⟨gb756, 0, none⟩ = some (.int .i64 t771) ∧ w'.cell? ⟨gb756, 1, none⟩ = some (.int .i64 t772) ∧ w'.cell? ⟨gb765, 0, none⟩ = some (.int .i64 t757) ∧ w'.cell? ⟨gb765, 1, none⟩ = some (.int .i64 t758) ∧ w'.cell? ⟨gb765, 2, none⟩ = some (.int .i64 t759)) (ds := []) #[false, false, false, false, false, false, false, false, false, false, false, false, false, false, false, false, false, false, false, false, false, false, false] (by kernel_rfl) rfl rfl ⟨(blk_cell BK756.out 0).trans rfl, (blk_cell BK756.out 1).trans rfl, (blk_cell BK765.out 0).trans rfl, (blk_cell BK765.out 1).trans rfl, (blk_cell BK765.out 2).trans rfl⟩ (fun hHeld => ?_); refine with_tabW torchonlaw06_GridsShortest.tab9 torchonlaw06_GridsShortest.bits9 (fun HT_ HW_ => ?_)
                generalize wc.drew = w60 at BK755 BK756 BK765 BK766 HB hHeld ⊢
                refine tz 0 59 HT_ HW_ hHeld ?_
                refine one_ (i := 1) (N := some 60) #[true, true, false, false, false, false, false, false, false, false, false, false, false, false, false, false, false, false, false, false, false, false, false] rfl rfl (one_of HT_.out (by kernel_rfl)) (by decide) (fun K hK => ?_)
                refine gs _ Try.func19 (torchonlaw06_pt.calls 0 0 t785 t786 _ A45.out) ?_
                rintro e w61 ⟨rfl, hb⟩
                refine ⟨_, rfl, ?_⟩
                replace BK755 := bb BK755 hb
                replace BK756 := bb BK756 hb
                replace BK765 := bb BK765 hb
                replace BK766 := bb BK766 hb
                replace HB := bst HB hb
                (try clear hb)
                (try clear hb2)
                (try clear hk)
                (try clear hi)
                refine hK.out _ _ ⟨(blk_cell BK756.out 0).trans rfl, (blk_cell BK756.out 1).trans rfl, (blk_cell BK765.out 0).trans rfl, (blk_cell BK765.out 1).trans rfl, (blk_cell BK765.out 2).trans rfl⟩ (fun hHeld => ?_)
                clear hK K
                refine norm_ (a' := ?_) ?_ ?_
                rotate_left
                · show Act.put _ (some 60) _ = _
                  simp only [Act.put, List.setIfInBounds_toArray, List.set_cons_zero, List.set_cons_succ, i64_w, i32_w]
                  rfl
                refine pz 2 61 HT_ ?_
                refine pz 3 62 HT_ ?_
                refine pz 4 63 HT_ ?_
                refine pz 5 64 HT_ ?_
                refine tz 6 65 HT_ HW_ hHeld ?_
                refine pz 7 66 HT_ ?_
                refine pz 8 67 HT_ ?_
                refine pz 9 68 HT_ ?_
                refine pz 10 69 HT_ ?_
                refine pz 11 70 HT_ ?_
                refine pz 12 71 HT_ ?_
                refine pu 13 72 HT_ ?_
                refine pu 14 73 HT_ ?_
                refine pu 15 74 HT_ ?_
                refine pu 16 75 HT_ ?_
                refine pz 17 76 HT_ ?_
                refine pz 18 77 HT_ ?_
                refine pz 19 78 HT_ ?_
                refine one_ (i := 20) (N := some 79) #[true, true, true, true, true, true, true, true, true, true, true, true, true, true, true, true, true, true, true, true, true, false, false] rfl rfl (one_of HT_.out (by kernel_rfl)) (by decide) (fun K hK => ?_)
                refine gs _ Try.func13 (torchonlaw06_awake.calls kj14  t789 _ A59.out) ?_
                rintro e w62 ⟨rfl, hb⟩
                refine ⟨_, rfl, ?_⟩
                replace BK755 := bb BK755 hb
                replace BK756 := bb BK756 hb
                replace BK765 := bb BK765 hb
                replace BK766 := bb BK766 hb
                replace HB := bst HB hb
                (try clear hb)
                (try clear hb2)
                (try clear hk)
                (try clear hi)
                refine hK.out _ _ ⟨(blk_cell BK756.out 0).trans rfl, (blk_cell BK756.out 1).trans rfl, (blk_cell BK765.out 0).trans rfl, (blk_cell BK765.out 1).trans rfl, (blk_cell BK765.out 2).trans rfl⟩ (fun hHeld => ?_)
                clear hK K
                refine norm_ (a' := ?_) ?_ ?_
                rotate_left
                · show Act.put _ (some 79) _ = _
                  simp only [Act.put, List.setIfInBounds_toArray, List.set_cons_zero, List.set_cons_succ, i64_w, i32_w]
                  rfl
                refine pz 21 80 HT_ ?_
                refine pz 22 4 HT_ ?_
                refine done_ (done_of HT_.out (by kernel_rfl)) ?_
                try go_wp2
                go_ret
                exact rt HB
              · rw [if_neg c58] at H
                have c58b0 : (t783 == 0) = false := beq_eq_false_iff_ne.mpr c58
                have c58b1 : (t783 != 0) = true := bne_iff_ne.mpr c58
                by_cases c63 : t775 ≥ t759
                · rw [if_pos c63] at H
                  have c63b0 : decide (t759 ≤ t775) = true := decide_eq_true c63
                  clear c63
                  replace H := Option.bind_eq_some_iff.mp H
                  obtain ⟨t790, A640, H⟩ := H
                  replace H : (some t790) = some r := H
                  have A64 := Aside0.mk A640
                  clear A640
                  obtain rfl := Option.some.inj H
                  try go_wp2
                  replace BK755 := bd BK755
                  replace BK756 := bd BK756
                  replace BK765 := bd BK765
                  replace BK766 := bd BK766
                  replace HB := bdn HB
                  refine start_ (n := 23) (S := fun w' => w'.cell? ⟨gb756, 0, none⟩ = some (.int .i64 t771) ∧ w'.cell? ⟨gb756, 1, none⟩ = some (.int .i64 t772) ∧ w'.cell? ⟨gb765, 0, none⟩ = some (.int .i64 t757) ∧ w'.cell? ⟨gb765, 1, none⟩ = some (.int .i64 t758) ∧ w'.cell? ⟨gb765, 2, none⟩ = some (.int .i64 t759)) (ds := []) #[false, false, false, false, false, false, false, false, false, false, false, false, false, false, false, false, false, false, false, false, false, false, false] (by kernel_rfl) rfl rfl ⟨(blk_cell BK756.out 0).trans rfl, (blk_cell BK756.out 1).trans rfl, (blk_cell BK765.out 0).trans rfl, (blk_cell BK765.out 1).trans rfl, (blk_cell BK765.out 2).trans rfl⟩ (fun hHeld => ?_); refine with_tabW torchonlaw06_GridsShortest.tab9 torchonlaw06_GridsShortest.bits9 (fun HT_ HW_ => ?_)
                  generalize wc.drew = w65 at BK755 BK756 BK765 BK766 HB hHeld ⊢
                  refine tz 0 59 HT_ HW_ hHeld ?_
                  refine one_ (i := 1) (N := some 60) #[true, true, false, false, false, false, false, false, false, false, false, false, false, false, false, false, false, false, false, false, false, false, false] rfl rfl (one_of HT_.out (by kernel_rfl)) (by decide) (fun K hK => ?_)
                  refine gs _ Try.func19 (torchonlaw06_pt.calls 0 0 t785 t786 _ A45.out) ?_
                  rintro e w66 ⟨rfl, hb⟩
                  refine ⟨_, rfl, ?_⟩
                  replace BK755 := bb BK755 hb
                  replace BK756 := bb BK756 hb
                  replace BK765 := bb BK765 hb
                  replace BK766 := bb BK766 hb
                  replace HB := bst HB hb
                  (try clear hb)
                  (try clear hb2)
                  (try clear hk)
                  (try clear hi)
                  refine hK.out _ _ ⟨(blk_cell BK756.out 0).trans rfl, (blk_cell BK756.out 1).trans rfl, (blk_cell BK765.out 0).trans rfl, (blk_cell BK765.out 1).trans rfl, (blk_cell BK765.out 2).trans rfl⟩ (fun hHeld => ?_)
                  clear hK K
                  refine norm_ (a' := ?_) ?_ ?_
                  rotate_left
                  · show Act.put _ (some 60) _ = _
                    simp only [Act.put, List.setIfInBounds_toArray, List.set_cons_zero, List.set_cons_succ, i64_w, i32_w]
                    rfl
                  refine pz 2 61 HT_ ?_
                  refine pz 3 62 HT_ ?_
                  refine pz 4 63 HT_ ?_
                  refine pz 5 64 HT_ ?_
                  refine tz 6 65 HT_ HW_ hHeld ?_
                  refine pz 7 66 HT_ ?_
                  refine pz 8 67 HT_ ?_
                  refine pz 9 68 HT_ ?_
                  refine pz 10 69 HT_ ?_
                  refine pz 11 70 HT_ ?_
                  refine pz 12 71 HT_ ?_
                  refine pz 13 72 HT_ ?_
                  refine pz 14 73 HT_ ?_
                  refine tz 15 74 HT_ HW_ hHeld ?_
                  refine pz 16 75 HT_ ?_
                  refine pz 17 76 HT_ ?_
                  refine pz 18 77 HT_ ?_
                  refine pz 19 78 HT_ ?_
                  refine one_ (i := 20) (N := some 79) #[true, true, true, true, true, true, true, true, true, true, true, true, true, true, true, true, true, true, true, true, true, false, false] rfl rfl (one_of HT_.out (by kernel_rfl)) (by decide) (fun K hK => ?_)
                  refine gs _ Try.func13 (torchonlaw06_awake.calls kj14  t790 _ A64.out) ?_
                  rintro e w67 ⟨rfl, hb⟩
                  refine ⟨_, rfl, ?_⟩
                  replace BK755 := bb BK755 hb
                  replace BK756 := bb BK756 hb
                  replace BK765 := bb BK765 hb
                  replace BK766 := bb BK766 hb
                  replace HB := bst HB hb
                  (try clear hb)
                  (try clear hb2)
                  (try clear hk)
                  (try clear hi)
                  refine hK.out _ _ ⟨(blk_cell BK756.out 0).trans rfl, (blk_cell BK756.out 1).trans rfl, (blk_cell BK765.out 0).trans rfl, (blk_cell BK765.out 1).trans rfl, (blk_cell BK765.out 2).trans rfl⟩ (fun hHeld => ?_)
                  clear hK K
                  refine norm_ (a' := ?_) ?_ ?_
                  rotate_left
                  · show Act.put _ (some 79) _ = _
                    simp only [Act.put, List.setIfInBounds_toArray, List.set_cons_zero, List.set_cons_succ, i64_w, i32_w]
                    rfl
                  refine pz 21 80 HT_ ?_
                  refine pz 22 4 HT_ ?_
                  refine done_ (done_of HT_.out (by kernel_rfl)) ?_
                  try go_wp2
                  go_ret
                  exact rt HB
                · rw [if_neg c63] at H
                  have c63b0 : decide (t759 ≤ t775) = false := decide_eq_false c63
                  clear c63
                  exact absurd H (by simp)
            · rw [if_neg c57] at H
              have c57b0 : decide (t757 ≤ t775) = false := decide_eq_false c57
              clear c57
              exact absurd H (by simp)
  · rw [if_neg c4] at H
    have c4b0 : (t764 == 0) = false := beq_eq_false_iff_ne.mpr c4
    have c4b1 : (t764 != 0) = true := bne_iff_ne.mpr c4
    replace H := Option.bind_eq_some_iff.mp H
    obtain ⟨t767, A680, H⟩ := H
    replace H : (if t767 = 2 then ((torchonlaw06_awake.f k).bind fun t768 => (some t768)) else (none)) = some r := H
    have A68 := Aside0.mk A680
    clear A680
    by_cases c69 : t767 = 2
    · rw [if_pos c69] at H
      have c69b0 : (t767 == 2) = true := beq_iff_eq.mpr c69
      have c69b1 : (t767 != 2) = false := bne_eq_false_iff_eq.mpr c69
      clear c69
      replace H := Option.bind_eq_some_iff.mp H
      obtain ⟨t768, A700, H⟩ := H
      replace H : (some t768) = some r := H
      have A70 := Aside0.mk A700
      clear A700
      obtain rfl := Option.some.inj H
      go_enter Try.func6, Try.ntmps6
      go_wp2_with (first | ((with_reducible refine gate_dst (N := 2) rfl ?_); refine bx 2 #[.int .i64 a0_0, .int .i64 a0_1, .int .i64 a0_2] 23 fun gb755 hg w71 BK755 hb => ?_; have GW755 := gw hg HB; have GE755 := gw hg HB; replace HB := bst HB hb; clear hb hg) | ((with_reducible refine gate_dst (N := 3) rfl ?_); refine bx 3 #[.int .i64 a1_0, .int .i64 a1_1] 37 fun gb756 hg w72 BK756 hb => ?_; have GW756 := gw hg HB; have GE756 := gw hg HB; have NB755_756 := nlt hg BK755; have NB756_755 := ngt hg BK755; replace BK755 := bb BK755 hb; replace HB := bst HB hb; clear hb hg; have hnb73 := NB755_756.out; have hnc73 := NB756_755.out; have ⟨hcz74_0, hcz74_1, hcz74_2, hfz74_0, hfz74_1, hfz74_2⟩ := cf3 BK755) | ((with_reducible refine gate_callee (f := 11) rfl ?_); refine gl 14 Try.func11 (grids_Reduce.calls k a0_0 a0_1 a0_2 t757 t758 t759 t760 t761 t762 t763 t764 _ A3.out) ?_; rintro e w75 ⟨rfl, hb⟩; refine ⟨_, rfl, ?_⟩; replace BK755 := bb BK755 hb; replace BK756 := bb BK756 hb; replace HB := bst HB hb; clear hb) | ((with_reducible refine gate_dst (N := 5) rfl ?_); refine bx 5 #[.int .i64 0, .int .i64 0, .int .i64 0] 23 fun gb765 hg w76 BK765 hb => ?_; have GW765 := gw hg HB; have GE765 := gw hg HB; have NB755_765 := nlt hg BK755; have NB765_755 := ngt hg BK755; have NB756_765 := nlt hg BK756; have NB765_756 := ngt hg BK756; replace BK755 := bb BK755 hb; replace BK756 := bb BK756 hb; replace HB := bst HB hb; clear hb hg) | ((with_reducible refine gate_dst (N := 6) rfl ?_); refine bx 6 #[.int .i64 0, .int .i64 0, .int .i64 0, .int .i64 0] 25 fun gb766 hg w77 BK766 hb => ?_; have GW766 := gw hg HB; have GE766 := gw hg HB; have NB755_766 := nlt hg BK755; have NB766_755 := ngt hg BK755; have NB756_766 := nlt hg BK756; have NB766_756 := ngt hg BK756; have NB765_766 := nlt hg BK765; have NB766_765 := ngt hg BK765; replace BK755 := bb BK755 hb; replace BK756 := bb BK756 hb; replace BK765 := bb BK765 hb; replace HB := bst HB hb; clear hb hg; have hnb78 := NB765_755.out; have hnc78 := NB755_765.out; have hnb79 := NB765_756.out; have hnc79 := NB756_765.out; have hnb80 := NB765_766.out; have hnc80 := NB766_765.out; have ⟨hcz81_0, hcz81_1, hcz81_2, hfz81_0, hfz81_1, hfz81_2⟩ := cf3 BK765) | ((with_reducible refine gate_store (t := 23) (p := 5) rfl ?_); refine sx 23 5 ((((w77.setCell ⟨gb765, 0, none⟩ (.int .i64 t757)).setCell ⟨gb765, 1, none⟩ (.int .i64 t758)).setCell ⟨gb765, 2, none⟩ (.int .i64 t759))) fun w82 hw => ?_; replace BK755 := fw hw BK755; replace BK756 := fw hw BK756; replace BK765 := pw3 hw BK765; replace BK766 := fw hw BK766; replace HB := bw hw HB; clear hw; have hnb83 := NB766_755.out; have hnc83 := NB755_766.out; have hnb84 := NB766_756.out; have hnc84 := NB756_766.out; have ⟨hcz85_0, hcz85_1, hcz85_2, hcz85_3, hfz85_0, hfz85_1, hfz85_2, hfz85_3⟩ := cf4 BK766) | ((with_reducible refine gate_store (t := 25) (p := 6) rfl ?_); refine sx 25 6 (((((w82.setCell ⟨gb766, 0, none⟩ (.int .i64 t760)).setCell ⟨gb766, 1, none⟩ (.int .i64 t761)).setCell ⟨gb766, 2, none⟩ (.int .i64 t762)).setCell ⟨gb766, 3, none⟩ (.int .i64 t763))) fun w86 hw => ?_; replace BK755 := fw hw BK755; replace BK756 := fw hw BK756; replace BK765 := fw hw BK765; replace BK766 := pw4 hw BK766; replace HB := bw hw HB; clear hw; have ⟨hcz87_0, hcz87_1, hcz87_2, hfz87_0, hfz87_1, hfz87_2⟩ := cf3 BK755) | ((with_reducible refine gate_callee (f := 14) rfl ?_); refine gl 21 Try.func14 (grids_Check.calls k a0_0 a0_1 a0_2 t767 _ A68.out) ?_; rintro e w88 ⟨rfl, hb⟩; refine ⟨_, rfl, ?_⟩; replace BK755 := bb BK755 hb; replace BK756 := bb BK756 hb; replace BK765 := bb BK765 hb; replace BK766 := bb BK766 hb; replace HB := bst HB hb; clear hb) | (go_at_call 13; (with_reducible refine (torchonlaw06_awake.calls k  t768 _ A70.out).mono ?_); rintro e w89 ⟨rfl, hb⟩; replace BK755 := bb BK755 hb; replace BK756 := bb BK756 hb; replace BK765 := bb BK765 hb; replace BK766 := bb BK766 hb; replace HB := bst HB hb; clear hb))
      go_ret
      exact rt HB
    · rw [if_neg c69] at H
      exact absurd H (by simp)
end
end Go.Proofs.Ytmcajdepoohlhaa.G
