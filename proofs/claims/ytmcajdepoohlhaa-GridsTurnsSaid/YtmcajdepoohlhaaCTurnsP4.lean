/- Functions of the program as plain Lean functions, and their contracts (printed by a program of this session). No condition beyond what each states. -/
import Derived.Test.YtmcajdepoohlhaaCTurnsP0
import Derived.Test.YtmcajdepoohlhaaCTurnsP2
import Derived.Test.YtmcajdepoohlhaaCTurnsP3
namespace Go.Proofs.Ytmcajdepoohlhaa.G
open Go.RowKit Go.Proofs.YtmcajdepoohlhaaW.PrintWords Go.Proofs.YtmcajdepoohlhaaW.PrintLast Go.Proofs.YtmcajdepoohlhaaW.PrintMore
attribute [local go_sem] max2_int min2_int max_two min_two max_three min_three max_four min_four
set_option linter.unusedVariables false
set_option linter.unusedSimpArgs false
section
attribute [local go_sem high] eqA23 eqA25 eqA37
/-! ### torchonlaw06_awake: function 13 -/
def torchonlaw06_awake.j0 : Nat → Int → Int → Int → List (S25) → Int → Bool → Int → Int → Int → Int → Int → Int → Int → Int → Int → Option (Bool)
  | 0, _, _, _, _, _, _, _, _, _, _, _, _, _, _, _ => none
  | k + 1, x2, x4, x6, x8, x12, x89, x623000, x623001, x638000, x638001, x638002, x639000, x639001, x639002, x639003 => if x89 = true then (none) else (if x2 = 6 then (if x4 = 1 then (if x6 = 1 then (if (x8.length : Int) = 12 then ((torchonlaw06_pt.f 1 5).bind fun bt639 => (if (x623000 == bt639.1 && (x623001 == bt639.2)) = true then (if x12 = 6 then (if (x638000 == 1 && (x638001 == 0 && (x638002 == 1))) = true then ((torchonlaw06_mat.f (-3) (-1) 2 1).bind fun bt641 => (some (x639000 == bt641.1 && (x639001 == bt641.2.1 && (x639002 == bt641.2.2.1 && (x639003 == bt641.2.2.2)))))) else (none)) else (none)) else (none))) else (none)) else (none)) else (none)) else (none))
def torchonlaw06_awake.f (k : Nat)  : Option (Bool) := (torchonlaw06_pt.f 0 0).bind fun bt583 => ((torchonlaw06_pt.f 1 1).bind fun bt585 => ((grids_Square.f k 2 1 2 bt583.1 bt583.2 bt585.1 bt585.2).bind fun bt587 => ((torchonlaw06_pt.f 0 0).bind fun bt589 => ((torchonlaw06_pt.f 1 0).bind fun bt591 => ((torchonlaw06_pt.f 0 1).bind fun bt593 => ((grids_Side.f k bt589.1 bt589.2 bt591.1 bt591.2 bt593.1 bt593.2).bind fun bt595 => ((torchonlaw06_pt.f 0 0).bind fun bt597 => ((torchonlaw06_pt.f 1 0).bind fun bt599 => ((torchonlaw06_pt.f 1 (-1)).bind fun bt601 => ((torchonlaw06_pt.f 0 1).bind fun bt603 => ((grids_Turn.f k bt597.1 bt597.2 bt599.1 bt599.2 bt601.1 bt601.2 bt603.1 bt603.2).bind fun bt605 => ((grids_Group.f k 2 1 2).bind fun bt607 => ((torchonlaw06_mat.f 0 (-1) 1 0).bind fun bt611 => ((torchonlaw06_pt.f 3 4).bind fun bt615 => ((torchonlaw06_pt.f 1 2).bind fun bt617 => ((grids_Apply.f k bt611.1 bt611.2.1 bt611.2.2.1 bt611.2.2.2 bt615.1 bt615.2 bt617.1 bt617.2).bind fun bt619 => ((torchonlaw06_mat.f 1 (-1) 1 0).bind fun bt623 => ((grids_Order.f k bt623.1 bt623.2.1 bt623.2.2.1 bt623.2.2.2).bind fun bt627 => ((grids_Reduce.f k 5 7 10).bind fun bt629 => (if bt587.2 = 0 then (if bt595.2 = 0 then (if bt605.2 = 0 then (if bt607.2 = 0 then (if bt619.2.2 = 0 then (if bt627.2 = 0 then (torchonlaw06_awake.j0 k bt587.1 bt595.1 bt605.1 bt607.1 bt627.1 (bt629.2.2.2.2.2.2.2 != 0) bt619.1 bt619.2.1 bt629.1 bt629.2.1 bt629.2.2.1 bt629.2.2.2.1 bt629.2.2.2.2.1 bt629.2.2.2.2.2.1 bt629.2.2.2.2.2.2.1) else (torchonlaw06_awake.j0 k bt587.1 bt595.1 bt605.1 bt607.1 bt627.1 true bt619.1 bt619.2.1 bt629.1 bt629.2.1 bt629.2.2.1 bt629.2.2.2.1 bt629.2.2.2.2.1 bt629.2.2.2.2.2.1 bt629.2.2.2.2.2.2.1)) else (torchonlaw06_awake.j0 k bt587.1 bt595.1 bt605.1 bt607.1 bt627.1 true bt619.1 bt619.2.1 bt629.1 bt629.2.1 bt629.2.2.1 bt629.2.2.2.1 bt629.2.2.2.2.1 bt629.2.2.2.2.2.1 bt629.2.2.2.2.2.2.1)) else (torchonlaw06_awake.j0 k bt587.1 bt595.1 bt605.1 bt607.1 bt627.1 true bt619.1 bt619.2.1 bt629.1 bt629.2.1 bt629.2.2.1 bt629.2.2.2.1 bt629.2.2.2.2.1 bt629.2.2.2.2.2.1 bt629.2.2.2.2.2.2.1)) else (torchonlaw06_awake.j0 k bt587.1 bt595.1 bt605.1 bt607.1 bt627.1 true bt619.1 bt619.2.1 bt629.1 bt629.2.1 bt629.2.2.1 bt629.2.2.2.1 bt629.2.2.2.2.1 bt629.2.2.2.2.2.1 bt629.2.2.2.2.2.2.1)) else (torchonlaw06_awake.j0 k bt587.1 bt595.1 bt605.1 bt607.1 bt627.1 true bt619.1 bt619.2.1 bt629.1 bt629.2.1 bt629.2.2.1 bt629.2.2.2.1 bt629.2.2.2.2.1 bt629.2.2.2.2.2.1 bt629.2.2.2.2.2.2.1)) else (torchonlaw06_awake.j0 k bt587.1 bt595.1 bt605.1 bt607.1 bt627.1 true bt619.1 bt619.2.1 bt629.1 bt629.2.1 bt629.2.2.1 bt629.2.2.2.1 bt629.2.2.2.2.1 bt629.2.2.2.2.2.1 bt629.2.2.2.2.2.2.1)))))))))))))))))))))
theorem torchonlaw06_awake.mono_l : ∀ k, (∀ y0 y1 y2 y3 y4 y5 y6 y7 y8 y9 y10 y11 y12 y13 y14, LeO (torchonlaw06_awake.j0 k y0 y1 y2 y3 y4 y5 y6 y7 y8 y9 y10 y11 y12 y13 y14) (torchonlaw06_awake.j0 (k + 1) y0 y1 y2 y3 y4 y5 y6 y7 y8 y9 y10 y11 y12 y13 y14))
  | 0 => fun _ _ _ _ _ _ _ _ _ _ _ _ _ _ _ r h => by simp [torchonlaw06_awake.j0] at h
  | k + 1 => by
    have ih0 := torchonlaw06_awake.mono_l k
    · intro y0 y1 y2 y3 y4 y5 y6 y7 y8 y9 y10 y11 y12 y13 y14
      unfold torchonlaw06_awake.j0
      repeat' first
      | (with_reducible exact ih0 _ _ _ _ _ _ _ _ _ _ _ _ _ _ _)
      | (with_reducible exact grids_Apply.mono _ _ _ _ _ _ _ _ _)
      | (with_reducible exact grids_Group.mono _ _ _ _)
      | (with_reducible exact grids_Order.mono _ _ _ _ _)
      | (with_reducible exact grids_Reduce.mono _ _ _ _)
      | (with_reducible exact grids_Side.mono _ _ _ _ _ _ _)
      | (with_reducible exact grids_Square.mono _ _ _ _ _ _ _ _)
      | (with_reducible exact grids_Turn.mono _ _ _ _ _ _ _ _ _)
      | (with_reducible exact LeO.refl _)
      | (with_reducible exact LeO.none _)
      | (with_reducible refine LeO.ite ?_ ?_)
      | (with_reducible refine LeO.bind ?_ (fun _ => ?_))
      | exact ih0 _ _ _ _ _ _ _ _ _ _ _ _ _ _ _
      | exact grids_Apply.mono _ _ _ _ _ _ _ _ _
      | exact grids_Group.mono _ _ _ _
      | exact grids_Order.mono _ _ _ _ _
      | exact grids_Reduce.mono _ _ _ _
      | exact grids_Side.mono _ _ _ _ _ _ _
      | exact grids_Square.mono _ _ _ _ _ _ _ _
      | exact grids_Turn.mono _ _ _ _ _ _ _ _ _
      | exact LeO.none _
      | refine LeO.ite ?_ ?_
      | refine LeO.bind ?_ (fun _ => ?_)
theorem torchonlaw06_awake.mono : ∀ k, LeO (torchonlaw06_awake.f k ) (torchonlaw06_awake.f (k + 1) ) := by
  intro  k
  have ih0 := torchonlaw06_awake.mono_l k
  unfold torchonlaw06_awake.f
  repeat' first
      | (with_reducible exact ih0 _ _ _ _ _ _ _ _ _ _ _ _ _ _ _)
      | (with_reducible exact grids_Apply.mono _ _ _ _ _ _ _ _ _)
      | (with_reducible exact grids_Group.mono _ _ _ _)
      | (with_reducible exact grids_Order.mono _ _ _ _ _)
      | (with_reducible exact grids_Reduce.mono _ _ _ _)
      | (with_reducible exact grids_Side.mono _ _ _ _ _ _ _)
      | (with_reducible exact grids_Square.mono _ _ _ _ _ _ _ _)
      | (with_reducible exact grids_Turn.mono _ _ _ _ _ _ _ _ _)
      | (with_reducible exact LeO.refl _)
      | (with_reducible exact LeO.none _)
      | (with_reducible refine LeO.ite ?_ ?_)
      | (with_reducible refine LeO.bind ?_ (fun _ => ?_))
      | exact ih0 _ _ _ _ _ _ _ _ _ _ _ _ _ _ _
      | exact grids_Apply.mono _ _ _ _ _ _ _ _ _
      | exact grids_Group.mono _ _ _ _
      | exact grids_Order.mono _ _ _ _ _
      | exact grids_Reduce.mono _ _ _ _
      | exact grids_Side.mono _ _ _ _ _ _ _
      | exact grids_Square.mono _ _ _ _ _ _ _ _
      | exact grids_Turn.mono _ _ _ _ _ _ _ _ _
      | exact LeO.none _
      | refine LeO.ite ?_ ?_
      | refine LeO.bind ?_ (fun _ => ?_)
def torchonlaw06_awake.T2 : Bool × List (List Nat × List Nat) := (true, [([], []), ([], []), ([1], []), ([0, 1, 2, 2], [0, 1, 2]), ([3], [3]), ([4], [4]), ([4], [4]), ([5, 3, 0, 1, 2, 3, 4, 5], [5]), ([6, 7, 0, 1, 2, 3, 4, 5, 6, 7], [6])])
def torchonlaw06_awake.B2 : List Nat := [0, 0, 2, 7, 15, 31, 31, 63, 255]
theorem torchonlaw06_awake.tab2 : rtab .any (opsOf Try.f13 2) = torchonlaw06_awake.T2 := by kernel_rfl
theorem torchonlaw06_awake.bits2 : waitsOk torchonlaw06_awake.T2.2 torchonlaw06_awake.B2 = true := by kernel_rfl
def torchonlaw06_awake.T11 : Bool × List (List Nat × List Nat) := (true, [([], []), ([0], [0]), ([1], [1]), ([2], [2]), ([3, 2], [2, 3]), ([2, 4], [2, 4]), ([5, 2], [5]), ([6], [6]), ([7, 6], [6, 7]), ([6, 8], [6, 8]), ([9, 6], [9]), ([10], [10]), ([11, 10], [10, 11]), ([12, 10], [10, 12]), ([10, 13], [10, 13]), ([14, 10], [14]), ([15], [15]), ([15, 15], [15]), ([16, 17, 15], [15, 16, 17]), ([15, 18], [15, 18]), ([19, 17], [19]), ([20], [20]), ([21, 20], [20, 21]), ([20, 22], [20, 22]), ([23, 20], [23]), ([24], [24]), ([24], [24]), ([25, 26, 24], [24, 25, 26]), ([24, 27], [24, 27]), ([28, 24], [28]), ([29], [29]), ([29, 29], [29]), ([30, 31, 29], [29, 30, 31]), ([29, 32], [29, 32]), ([33, 31, 0, 1, 2, 3, 4, 5, 6, 7, 8, 9, 10, 11, 12, 13, 14, 15, 16, 17, 18, 19, 20, 21, 22, 23, 24, 25, 26, 27, 28, 29, 30, 31, 32, 33], [33])])
def torchonlaw06_awake.B11 : List Nat := [0, 1, 3, 7, 15, 31, 63, 127, 255, 511, 1023, 2047, 4095, 8191, 16383, 32767, 65535, 65535, 262143, 524287, 1048575, 2097151, 4194303, 8388607, 16777215, 33554431, 33554431, 134217727, 268435455, 536870911, 1073741823, 1073741823, 4294967295, 8589934591, 17179869183]
theorem torchonlaw06_awake.tab11 : rtab .any (opsOf Try.f13 11) = torchonlaw06_awake.T11 := by kernel_rfl
theorem torchonlaw06_awake.bits11 : waitsOk torchonlaw06_awake.T11.2 torchonlaw06_awake.B11 = true := by kernel_rfl
set_option maxHeartbeats 8000000 in
set_option maxRecDepth 100000 in
theorem torchonlaw06_awake.calls (k : Nat)  (r : Bool) (w : World) (h : torchonlaw06_awake.f k  = some r) :
    Calls Try.prog 13 #[] w fun e w' => e = .returned (.bool r) ∧ Below w.heap.size w w' := by
  have hu23 := Try.underlying23
  have hu55 := Try.underlying55
  have hu37 := Try.underlying37
  have hu25 := Try.underlying25
  have HB := Aside0.mk (Below.refl w.heap.size w)
  have H : ((torchonlaw06_pt.f 0 0).bind fun bt583 => ((torchonlaw06_pt.f 1 1).bind fun bt585 => ((grids_Square.f k 2 1 2 bt583.1 bt583.2 bt585.1 bt585.2).bind fun bt587 => ((torchonlaw06_pt.f 0 0).bind fun bt589 => ((torchonlaw06_pt.f 1 0).bind fun bt591 => ((torchonlaw06_pt.f 0 1).bind fun bt593 => ((grids_Side.f k bt589.1 bt589.2 bt591.1 bt591.2 bt593.1 bt593.2).bind fun bt595 => ((torchonlaw06_pt.f 0 0).bind fun bt597 => ((torchonlaw06_pt.f 1 0).bind fun bt599 => ((torchonlaw06_pt.f 1 (-1)).bind fun bt601 => ((torchonlaw06_pt.f 0 1).bind fun bt603 => ((grids_Turn.f k bt597.1 bt597.2 bt599.1 bt599.2 bt601.1 bt601.2 bt603.1 bt603.2).bind fun bt605 => ((grids_Group.f k 2 1 2).bind fun bt607 => ((torchonlaw06_mat.f 0 (-1) 1 0).bind fun bt611 => ((torchonlaw06_pt.f 3 4).bind fun bt615 => ((torchonlaw06_pt.f 1 2).bind fun bt617 => ((grids_Apply.f k bt611.1 bt611.2.1 bt611.2.2.1 bt611.2.2.2 bt615.1 bt615.2 bt617.1 bt617.2).bind fun bt619 => ((torchonlaw06_mat.f 1 (-1) 1 0).bind fun bt623 => ((grids_Order.f k bt623.1 bt623.2.1 bt623.2.2.1 bt623.2.2.2).bind fun bt627 => ((grids_Reduce.f k 5 7 10).bind fun bt629 => (if bt587.2 = 0 then (if bt595.2 = 0 then (if bt605.2 = 0 then (if bt607.2 = 0 then (if bt619.2.2 = 0 then (if bt627.2 = 0 then (torchonlaw06_awake.j0 k bt587.1 bt595.1 bt605.1 bt607.1 bt627.1 (bt629.2.2.2.2.2.2.2 != 0) bt619.1 bt619.2.1 bt629.1 bt629.2.1 bt629.2.2.1 bt629.2.2.2.1 bt629.2.2.2.2.1 bt629.2.2.2.2.2.1 bt629.2.2.2.2.2.2.1) else (torchonlaw06_awake.j0 k bt587.1 bt595.1 bt605.1 bt607.1 bt627.1 true bt619.1 bt619.2.1 bt629.1 bt629.2.1 bt629.2.2.1 bt629.2.2.2.1 bt629.2.2.2.2.1 bt629.2.2.2.2.2.1 bt629.2.2.2.2.2.2.1)) else (torchonlaw06_awake.j0 k bt587.1 bt595.1 bt605.1 bt607.1 bt627.1 true bt619.1 bt619.2.1 bt629.1 bt629.2.1 bt629.2.2.1 bt629.2.2.2.1 bt629.2.2.2.2.1 bt629.2.2.2.2.2.1 bt629.2.2.2.2.2.2.1)) else (torchonlaw06_awake.j0 k bt587.1 bt595.1 bt605.1 bt607.1 bt627.1 true bt619.1 bt619.2.1 bt629.1 bt629.2.1 bt629.2.2.1 bt629.2.2.2.1 bt629.2.2.2.2.1 bt629.2.2.2.2.2.1 bt629.2.2.2.2.2.2.1)) else (torchonlaw06_awake.j0 k bt587.1 bt595.1 bt605.1 bt607.1 bt627.1 true bt619.1 bt619.2.1 bt629.1 bt629.2.1 bt629.2.2.1 bt629.2.2.2.1 bt629.2.2.2.2.1 bt629.2.2.2.2.2.1 bt629.2.2.2.2.2.2.1)) else (torchonlaw06_awake.j0 k bt587.1 bt595.1 bt605.1 bt607.1 bt627.1 true bt619.1 bt619.2.1 bt629.1 bt629.2.1 bt629.2.2.1 bt629.2.2.2.1 bt629.2.2.2.2.1 bt629.2.2.2.2.2.1 bt629.2.2.2.2.2.2.1)) else (torchonlaw06_awake.j0 k bt587.1 bt595.1 bt605.1 bt607.1 bt627.1 true bt619.1 bt619.2.1 bt629.1 bt629.2.1 bt629.2.2.1 bt629.2.2.2.1 bt629.2.2.2.2.1 bt629.2.2.2.2.2.1 bt629.2.2.2.2.2.2.1)))))))))))))))))))))) = some r := h
  clear h
  replace H := Option.bind_eq_some_iff.mp H
  obtain ⟨⟨t583, t584⟩, A10, H⟩ := H
  replace H : ((torchonlaw06_pt.f 1 1).bind fun bt585 => ((grids_Square.f k 2 1 2 t583 t584 bt585.1 bt585.2).bind fun bt587 => ((torchonlaw06_pt.f 0 0).bind fun bt589 => ((torchonlaw06_pt.f 1 0).bind fun bt591 => ((torchonlaw06_pt.f 0 1).bind fun bt593 => ((grids_Side.f k bt589.1 bt589.2 bt591.1 bt591.2 bt593.1 bt593.2).bind fun bt595 => ((torchonlaw06_pt.f 0 0).bind fun bt597 => ((torchonlaw06_pt.f 1 0).bind fun bt599 => ((torchonlaw06_pt.f 1 (-1)).bind fun bt601 => ((torchonlaw06_pt.f 0 1).bind fun bt603 => ((grids_Turn.f k bt597.1 bt597.2 bt599.1 bt599.2 bt601.1 bt601.2 bt603.1 bt603.2).bind fun bt605 => ((grids_Group.f k 2 1 2).bind fun bt607 => ((torchonlaw06_mat.f 0 (-1) 1 0).bind fun bt611 => ((torchonlaw06_pt.f 3 4).bind fun bt615 => ((torchonlaw06_pt.f 1 2).bind fun bt617 => ((grids_Apply.f k bt611.1 bt611.2.1 bt611.2.2.1 bt611.2.2.2 bt615.1 bt615.2 bt617.1 bt617.2).bind fun bt619 => ((torchonlaw06_mat.f 1 (-1) 1 0).bind fun bt623 => ((grids_Order.f k bt623.1 bt623.2.1 bt623.2.2.1 bt623.2.2.2).bind fun bt627 => ((grids_Reduce.f k 5 7 10).bind fun bt629 => (if bt587.2 = 0 then (if bt595.2 = 0 then (if bt605.2 = 0 then (if bt607.2 = 0 then (if bt619.2.2 = 0 then (if bt627.2 = 0 then (torchonlaw06_awake.j0 k bt587.1 bt595.1 bt605.1 bt607.1 bt627.1 (bt629.2.2.2.2.2.2.2 != 0) bt619.1 bt619.2.1 bt629.1 bt629.2.1 bt629.2.2.1 bt629.2.2.2.1 bt629.2.2.2.2.1 bt629.2.2.2.2.2.1 bt629.2.2.2.2.2.2.1) else (torchonlaw06_awake.j0 k bt587.1 bt595.1 bt605.1 bt607.1 bt627.1 true bt619.1 bt619.2.1 bt629.1 bt629.2.1 bt629.2.2.1 bt629.2.2.2.1 bt629.2.2.2.2.1 bt629.2.2.2.2.2.1 bt629.2.2.2.2.2.2.1)) else (torchonlaw06_awake.j0 k bt587.1 bt595.1 bt605.1 bt607.1 bt627.1 true bt619.1 bt619.2.1 bt629.1 bt629.2.1 bt629.2.2.1 bt629.2.2.2.1 bt629.2.2.2.2.1 bt629.2.2.2.2.2.1 bt629.2.2.2.2.2.2.1)) else (torchonlaw06_awake.j0 k bt587.1 bt595.1 bt605.1 bt607.1 bt627.1 true bt619.1 bt619.2.1 bt629.1 bt629.2.1 bt629.2.2.1 bt629.2.2.2.1 bt629.2.2.2.2.1 bt629.2.2.2.2.2.1 bt629.2.2.2.2.2.2.1)) else (torchonlaw06_awake.j0 k bt587.1 bt595.1 bt605.1 bt607.1 bt627.1 true bt619.1 bt619.2.1 bt629.1 bt629.2.1 bt629.2.2.1 bt629.2.2.2.1 bt629.2.2.2.2.1 bt629.2.2.2.2.2.1 bt629.2.2.2.2.2.2.1)) else (torchonlaw06_awake.j0 k bt587.1 bt595.1 bt605.1 bt607.1 bt627.1 true bt619.1 bt619.2.1 bt629.1 bt629.2.1 bt629.2.2.1 bt629.2.2.2.1 bt629.2.2.2.2.1 bt629.2.2.2.2.2.1 bt629.2.2.2.2.2.2.1)) else (torchonlaw06_awake.j0 k bt587.1 bt595.1 bt605.1 bt607.1 bt627.1 true bt619.1 bt619.2.1 bt629.1 bt629.2.1 bt629.2.2.1 bt629.2.2.2.1 bt629.2.2.2.2.1 bt629.2.2.2.2.2.1 bt629.2.2.2.2.2.2.1))))))))))))))))))))) = some r := H
  have A1 := Aside0.mk A10
  clear A10
  replace H := Option.bind_eq_some_iff.mp H
  obtain ⟨⟨t585, t586⟩, A20, H⟩ := H
  replace H : ((grids_Square.f k 2 1 2 t583 t584 t585 t586).bind fun bt587 => ((torchonlaw06_pt.f 0 0).bind fun bt589 => ((torchonlaw06_pt.f 1 0).bind fun bt591 => ((torchonlaw06_pt.f 0 1).bind fun bt593 => ((grids_Side.f k bt589.1 bt589.2 bt591.1 bt591.2 bt593.1 bt593.2).bind fun bt595 => ((torchonlaw06_pt.f 0 0).bind fun bt597 => ((torchonlaw06_pt.f 1 0).bind fun bt599 => ((torchonlaw06_pt.f 1 (-1)).bind fun bt601 => ((torchonlaw06_pt.f 0 1).bind fun bt603 => ((grids_Turn.f k bt597.1 bt597.2 bt599.1 bt599.2 bt601.1 bt601.2 bt603.1 bt603.2).bind fun bt605 => ((grids_Group.f k 2 1 2).bind fun bt607 => ((torchonlaw06_mat.f 0 (-1) 1 0).bind fun bt611 => ((torchonlaw06_pt.f 3 4).bind fun bt615 => ((torchonlaw06_pt.f 1 2).bind fun bt617 => ((grids_Apply.f k bt611.1 bt611.2.1 bt611.2.2.1 bt611.2.2.2 bt615.1 bt615.2 bt617.1 bt617.2).bind fun bt619 => ((torchonlaw06_mat.f 1 (-1) 1 0).bind fun bt623 => ((grids_Order.f k bt623.1 bt623.2.1 bt623.2.2.1 bt623.2.2.2).bind fun bt627 => ((grids_Reduce.f k 5 7 10).bind fun bt629 => (if bt587.2 = 0 then (if bt595.2 = 0 then (if bt605.2 = 0 then (if bt607.2 = 0 then (if bt619.2.2 = 0 then (if bt627.2 = 0 then (torchonlaw06_awake.j0 k bt587.1 bt595.1 bt605.1 bt607.1 bt627.1 (bt629.2.2.2.2.2.2.2 != 0) bt619.1 bt619.2.1 bt629.1 bt629.2.1 bt629.2.2.1 bt629.2.2.2.1 bt629.2.2.2.2.1 bt629.2.2.2.2.2.1 bt629.2.2.2.2.2.2.1) else (torchonlaw06_awake.j0 k bt587.1 bt595.1 bt605.1 bt607.1 bt627.1 true bt619.1 bt619.2.1 bt629.1 bt629.2.1 bt629.2.2.1 bt629.2.2.2.1 bt629.2.2.2.2.1 bt629.2.2.2.2.2.1 bt629.2.2.2.2.2.2.1)) else (torchonlaw06_awake.j0 k bt587.1 bt595.1 bt605.1 bt607.1 bt627.1 true bt619.1 bt619.2.1 bt629.1 bt629.2.1 bt629.2.2.1 bt629.2.2.2.1 bt629.2.2.2.2.1 bt629.2.2.2.2.2.1 bt629.2.2.2.2.2.2.1)) else (torchonlaw06_awake.j0 k bt587.1 bt595.1 bt605.1 bt607.1 bt627.1 true bt619.1 bt619.2.1 bt629.1 bt629.2.1 bt629.2.2.1 bt629.2.2.2.1 bt629.2.2.2.2.1 bt629.2.2.2.2.2.1 bt629.2.2.2.2.2.2.1)) else (torchonlaw06_awake.j0 k bt587.1 bt595.1 bt605.1 bt607.1 bt627.1 true bt619.1 bt619.2.1 bt629.1 bt629.2.1 bt629.2.2.1 bt629.2.2.2.1 bt629.2.2.2.2.1 bt629.2.2.2.2.2.1 bt629.2.2.2.2.2.2.1)) else (torchonlaw06_awake.j0 k bt587.1 bt595.1 bt605.1 bt607.1 bt627.1 true bt619.1 bt619.2.1 bt629.1 bt629.2.1 bt629.2.2.1 bt629.2.2.2.1 bt629.2.2.2.2.1 bt629.2.2.2.2.2.1 bt629.2.2.2.2.2.2.1)) else (torchonlaw06_awake.j0 k bt587.1 bt595.1 bt605.1 bt607.1 bt627.1 true bt619.1 bt619.2.1 bt629.1 bt629.2.1 bt629.2.2.1 bt629.2.2.2.1 bt629.2.2.2.2.1 bt629.2.2.2.2.2.1 bt629.2.2.2.2.2.2.1)))))))))))))))))))) = some r := H
  have A2 := Aside0.mk A20
  clear A20
  replace H := Option.bind_eq_some_iff.mp H
  obtain ⟨⟨t587, t588⟩, A30, H⟩ := H
  replace H : ((torchonlaw06_pt.f 0 0).bind fun bt589 => ((torchonlaw06_pt.f 1 0).bind fun bt591 => ((torchonlaw06_pt.f 0 1).bind fun bt593 => ((grids_Side.f k bt589.1 bt589.2 bt591.1 bt591.2 bt593.1 bt593.2).bind fun bt595 => ((torchonlaw06_pt.f 0 0).bind fun bt597 => ((torchonlaw06_pt.f 1 0).bind fun bt599 => ((torchonlaw06_pt.f 1 (-1)).bind fun bt601 => ((torchonlaw06_pt.f 0 1).bind fun bt603 => ((grids_Turn.f k bt597.1 bt597.2 bt599.1 bt599.2 bt601.1 bt601.2 bt603.1 bt603.2).bind fun bt605 => ((grids_Group.f k 2 1 2).bind fun bt607 => ((torchonlaw06_mat.f 0 (-1) 1 0).bind fun bt611 => ((torchonlaw06_pt.f 3 4).bind fun bt615 => ((torchonlaw06_pt.f 1 2).bind fun bt617 => ((grids_Apply.f k bt611.1 bt611.2.1 bt611.2.2.1 bt611.2.2.2 bt615.1 bt615.2 bt617.1 bt617.2).bind fun bt619 => ((torchonlaw06_mat.f 1 (-1) 1 0).bind fun bt623 => ((grids_Order.f k bt623.1 bt623.2.1 bt623.2.2.1 bt623.2.2.2).bind fun bt627 => ((grids_Reduce.f k 5 7 10).bind fun bt629 => (if t588 = 0 then (if bt595.2 = 0 then (if bt605.2 = 0 then (if bt607.2 = 0 then (if bt619.2.2 = 0 then (if bt627.2 = 0 then (torchonlaw06_awake.j0 k t587 bt595.1 bt605.1 bt607.1 bt627.1 (bt629.2.2.2.2.2.2.2 != 0) bt619.1 bt619.2.1 bt629.1 bt629.2.1 bt629.2.2.1 bt629.2.2.2.1 bt629.2.2.2.2.1 bt629.2.2.2.2.2.1 bt629.2.2.2.2.2.2.1) else (torchonlaw06_awake.j0 k t587 bt595.1 bt605.1 bt607.1 bt627.1 true bt619.1 bt619.2.1 bt629.1 bt629.2.1 bt629.2.2.1 bt629.2.2.2.1 bt629.2.2.2.2.1 bt629.2.2.2.2.2.1 bt629.2.2.2.2.2.2.1)) else (torchonlaw06_awake.j0 k t587 bt595.1 bt605.1 bt607.1 bt627.1 true bt619.1 bt619.2.1 bt629.1 bt629.2.1 bt629.2.2.1 bt629.2.2.2.1 bt629.2.2.2.2.1 bt629.2.2.2.2.2.1 bt629.2.2.2.2.2.2.1)) else (torchonlaw06_awake.j0 k t587 bt595.1 bt605.1 bt607.1 bt627.1 true bt619.1 bt619.2.1 bt629.1 bt629.2.1 bt629.2.2.1 bt629.2.2.2.1 bt629.2.2.2.2.1 bt629.2.2.2.2.2.1 bt629.2.2.2.2.2.2.1)) else (torchonlaw06_awake.j0 k t587 bt595.1 bt605.1 bt607.1 bt627.1 true bt619.1 bt619.2.1 bt629.1 bt629.2.1 bt629.2.2.1 bt629.2.2.2.1 bt629.2.2.2.2.1 bt629.2.2.2.2.2.1 bt629.2.2.2.2.2.2.1)) else (torchonlaw06_awake.j0 k t587 bt595.1 bt605.1 bt607.1 bt627.1 true bt619.1 bt619.2.1 bt629.1 bt629.2.1 bt629.2.2.1 bt629.2.2.2.1 bt629.2.2.2.2.1 bt629.2.2.2.2.2.1 bt629.2.2.2.2.2.2.1)) else (torchonlaw06_awake.j0 k t587 bt595.1 bt605.1 bt607.1 bt627.1 true bt619.1 bt619.2.1 bt629.1 bt629.2.1 bt629.2.2.1 bt629.2.2.2.1 bt629.2.2.2.2.1 bt629.2.2.2.2.2.1 bt629.2.2.2.2.2.2.1))))))))))))))))))) = some r := H
  have A3 := Aside0.mk A30
  clear A30
  replace H := Option.bind_eq_some_iff.mp H
  obtain ⟨⟨t589, t590⟩, A40, H⟩ := H
  replace H : ((torchonlaw06_pt.f 1 0).bind fun bt591 => ((torchonlaw06_pt.f 0 1).bind fun bt593 => ((grids_Side.f k t589 t590 bt591.1 bt591.2 bt593.1 bt593.2).bind fun bt595 => ((torchonlaw06_pt.f 0 0).bind fun bt597 => ((torchonlaw06_pt.f 1 0).bind fun bt599 => ((torchonlaw06_pt.f 1 (-1)).bind fun bt601 => ((torchonlaw06_pt.f 0 1).bind fun bt603 => ((grids_Turn.f k bt597.1 bt597.2 bt599.1 bt599.2 bt601.1 bt601.2 bt603.1 bt603.2).bind fun bt605 => ((grids_Group.f k 2 1 2).bind fun bt607 => ((torchonlaw06_mat.f 0 (-1) 1 0).bind fun bt611 => ((torchonlaw06_pt.f 3 4).bind fun bt615 => ((torchonlaw06_pt.f 1 2).bind fun bt617 => ((grids_Apply.f k bt611.1 bt611.2.1 bt611.2.2.1 bt611.2.2.2 bt615.1 bt615.2 bt617.1 bt617.2).bind fun bt619 => ((torchonlaw06_mat.f 1 (-1) 1 0).bind fun bt623 => ((grids_Order.f k bt623.1 bt623.2.1 bt623.2.2.1 bt623.2.2.2).bind fun bt627 => ((grids_Reduce.f k 5 7 10).bind fun bt629 => (if t588 = 0 then (if bt595.2 = 0 then (if bt605.2 = 0 then (if bt607.2 = 0 then (if bt619.2.2 = 0 then (if bt627.2 = 0 then (torchonlaw06_awake.j0 k t587 bt595.1 bt605.1 bt607.1 bt627.1 (bt629.2.2.2.2.2.2.2 != 0) bt619.1 bt619.2.1 bt629.1 bt629.2.1 bt629.2.2.1 bt629.2.2.2.1 bt629.2.2.2.2.1 bt629.2.2.2.2.2.1 bt629.2.2.2.2.2.2.1) else (torchonlaw06_awake.j0 k t587 bt595.1 bt605.1 bt607.1 bt627.1 true bt619.1 bt619.2.1 bt629.1 bt629.2.1 bt629.2.2.1 bt629.2.2.2.1 bt629.2.2.2.2.1 bt629.2.2.2.2.2.1 bt629.2.2.2.2.2.2.1)) else (torchonlaw06_awake.j0 k t587 bt595.1 bt605.1 bt607.1 bt627.1 true bt619.1 bt619.2.1 bt629.1 bt629.2.1 bt629.2.2.1 bt629.2.2.2.1 bt629.2.2.2.2.1 bt629.2.2.2.2.2.1 bt629.2.2.2.2.2.2.1)) else (torchonlaw06_awake.j0 k t587 bt595.1 bt605.1 bt607.1 bt627.1 true bt619.1 bt619.2.1 bt629.1 bt629.2.1 bt629.2.2.1 bt629.2.2.2.1 bt629.2.2.2.2.1 bt629.2.2.2.2.2.1 bt629.2.2.2.2.2.2.1)) else (torchonlaw06_awake.j0 k t587 bt595.1 bt605.1 bt607.1 bt627.1 true bt619.1 bt619.2.1 bt629.1 bt629.2.1 bt629.2.2.1 bt629.2.2.2.1 bt629.2.2.2.2.1 bt629.2.2.2.2.2.1 bt629.2.2.2.2.2.2.1)) else (torchonlaw06_awake.j0 k t587 bt595.1 bt605.1 bt607.1 bt627.1 true bt619.1 bt619.2.1 bt629.1 bt629.2.1 bt629.2.2.1 bt629.2.2.2.1 bt629.2.2.2.2.1 bt629.2.2.2.2.2.1 bt629.2.2.2.2.2.2.1)) else (torchonlaw06_awake.j0 k t587 bt595.1 bt605.1 bt607.1 bt627.1 true bt619.1 bt619.2.1 bt629.1 bt629.2.1 bt629.2.2.1 bt629.2.2.2.1 bt629.2.2.2.2.1 bt629.2.2.2.2.2.1 bt629.2.2.2.2.2.2.1)))))))))))))))))) = some r := H
  have A4 := Aside0.mk A40
  clear A40
  replace H := Option.bind_eq_some_iff.mp H
  obtain ⟨⟨t591, t592⟩, A50, H⟩ := H
  replace H : ((torchonlaw06_pt.f 0 1).bind fun bt593 => ((grids_Side.f k t589 t590 t591 t592 bt593.1 bt593.2).bind fun bt595 => ((torchonlaw06_pt.f 0 0).bind fun bt597 => ((torchonlaw06_pt.f 1 0).bind fun bt599 => ((torchonlaw06_pt.f 1 (-1)).bind fun bt601 => ((torchonlaw06_pt.f 0 1).bind fun bt603 => ((grids_Turn.f k bt597.1 bt597.2 bt599.1 bt599.2 bt601.1 bt601.2 bt603.1 bt603.2).bind fun bt605 => ((grids_Group.f k 2 1 2).bind fun bt607 => ((torchonlaw06_mat.f 0 (-1) 1 0).bind fun bt611 => ((torchonlaw06_pt.f 3 4).bind fun bt615 => ((torchonlaw06_pt.f 1 2).bind fun bt617 => ((grids_Apply.f k bt611.1 bt611.2.1 bt611.2.2.1 bt611.2.2.2 bt615.1 bt615.2 bt617.1 bt617.2).bind fun bt619 => ((torchonlaw06_mat.f 1 (-1) 1 0).bind fun bt623 => ((grids_Order.f k bt623.1 bt623.2.1 bt623.2.2.1 bt623.2.2.2).bind fun bt627 => ((grids_Reduce.f k 5 7 10).bind fun bt629 => (if t588 = 0 then (if bt595.2 = 0 then (if bt605.2 = 0 then (if bt607.2 = 0 then (if bt619.2.2 = 0 then (if bt627.2 = 0 then (torchonlaw06_awake.j0 k t587 bt595.1 bt605.1 bt607.1 bt627.1 (bt629.2.2.2.2.2.2.2 != 0) bt619.1 bt619.2.1 bt629.1 bt629.2.1 bt629.2.2.1 bt629.2.2.2.1 bt629.2.2.2.2.1 bt629.2.2.2.2.2.1 bt629.2.2.2.2.2.2.1) else (torchonlaw06_awake.j0 k t587 bt595.1 bt605.1 bt607.1 bt627.1 true bt619.1 bt619.2.1 bt629.1 bt629.2.1 bt629.2.2.1 bt629.2.2.2.1 bt629.2.2.2.2.1 bt629.2.2.2.2.2.1 bt629.2.2.2.2.2.2.1)) else (torchonlaw06_awake.j0 k t587 bt595.1 bt605.1 bt607.1 bt627.1 true bt619.1 bt619.2.1 bt629.1 bt629.2.1 bt629.2.2.1 bt629.2.2.2.1 bt629.2.2.2.2.1 bt629.2.2.2.2.2.1 bt629.2.2.2.2.2.2.1)) else (torchonlaw06_awake.j0 k t587 bt595.1 bt605.1 bt607.1 bt627.1 true bt619.1 bt619.2.1 bt629.1 bt629.2.1 bt629.2.2.1 bt629.2.2.2.1 bt629.2.2.2.2.1 bt629.2.2.2.2.2.1 bt629.2.2.2.2.2.2.1)) else (torchonlaw06_awake.j0 k t587 bt595.1 bt605.1 bt607.1 bt627.1 true bt619.1 bt619.2.1 bt629.1 bt629.2.1 bt629.2.2.1 bt629.2.2.2.1 bt629.2.2.2.2.1 bt629.2.2.2.2.2.1 bt629.2.2.2.2.2.2.1)) else (torchonlaw06_awake.j0 k t587 bt595.1 bt605.1 bt607.1 bt627.1 true bt619.1 bt619.2.1 bt629.1 bt629.2.1 bt629.2.2.1 bt629.2.2.2.1 bt629.2.2.2.2.1 bt629.2.2.2.2.2.1 bt629.2.2.2.2.2.2.1)) else (torchonlaw06_awake.j0 k t587 bt595.1 bt605.1 bt607.1 bt627.1 true bt619.1 bt619.2.1 bt629.1 bt629.2.1 bt629.2.2.1 bt629.2.2.2.1 bt629.2.2.2.2.1 bt629.2.2.2.2.2.1 bt629.2.2.2.2.2.2.1))))))))))))))))) = some r := H
  have A5 := Aside0.mk A50
  clear A50
  replace H := Option.bind_eq_some_iff.mp H
  obtain ⟨⟨t593, t594⟩, A60, H⟩ := H
  replace H : ((grids_Side.f k t589 t590 t591 t592 t593 t594).bind fun bt595 => ((torchonlaw06_pt.f 0 0).bind fun bt597 => ((torchonlaw06_pt.f 1 0).bind fun bt599 => ((torchonlaw06_pt.f 1 (-1)).bind fun bt601 => ((torchonlaw06_pt.f 0 1).bind fun bt603 => ((grids_Turn.f k bt597.1 bt597.2 bt599.1 bt599.2 bt601.1 bt601.2 bt603.1 bt603.2).bind fun bt605 => ((grids_Group.f k 2 1 2).bind fun bt607 => ((torchonlaw06_mat.f 0 (-1) 1 0).bind fun bt611 => ((torchonlaw06_pt.f 3 4).bind fun bt615 => ((torchonlaw06_pt.f 1 2).bind fun bt617 => ((grids_Apply.f k bt611.1 bt611.2.1 bt611.2.2.1 bt611.2.2.2 bt615.1 bt615.2 bt617.1 bt617.2).bind fun bt619 => ((torchonlaw06_mat.f 1 (-1) 1 0).bind fun bt623 => ((grids_Order.f k bt623.1 bt623.2.1 bt623.2.2.1 bt623.2.2.2).bind fun bt627 => ((grids_Reduce.f k 5 7 10).bind fun bt629 => (if t588 = 0 then (if bt595.2 = 0 then (if bt605.2 = 0 then (if bt607.2 = 0 then (if bt619.2.2 = 0 then (if bt627.2 = 0 then (torchonlaw06_awake.j0 k t587 bt595.1 bt605.1 bt607.1 bt627.1 (bt629.2.2.2.2.2.2.2 != 0) bt619.1 bt619.2.1 bt629.1 bt629.2.1 bt629.2.2.1 bt629.2.2.2.1 bt629.2.2.2.2.1 bt629.2.2.2.2.2.1 bt629.2.2.2.2.2.2.1) else (torchonlaw06_awake.j0 k t587 bt595.1 bt605.1 bt607.1 bt627.1 true bt619.1 bt619.2.1 bt629.1 bt629.2.1 bt629.2.2.1 bt629.2.2.2.1 bt629.2.2.2.2.1 bt629.2.2.2.2.2.1 bt629.2.2.2.2.2.2.1)) else (torchonlaw06_awake.j0 k t587 bt595.1 bt605.1 bt607.1 bt627.1 true bt619.1 bt619.2.1 bt629.1 bt629.2.1 bt629.2.2.1 bt629.2.2.2.1 bt629.2.2.2.2.1 bt629.2.2.2.2.2.1 bt629.2.2.2.2.2.2.1)) else (torchonlaw06_awake.j0 k t587 bt595.1 bt605.1 bt607.1 bt627.1 true bt619.1 bt619.2.1 bt629.1 bt629.2.1 bt629.2.2.1 bt629.2.2.2.1 bt629.2.2.2.2.1 bt629.2.2.2.2.2.1 bt629.2.2.2.2.2.2.1)) else (torchonlaw06_awake.j0 k t587 bt595.1 bt605.1 bt607.1 bt627.1 true bt619.1 bt619.2.1 bt629.1 bt629.2.1 bt629.2.2.1 bt629.2.2.2.1 bt629.2.2.2.2.1 bt629.2.2.2.2.2.1 bt629.2.2.2.2.2.2.1)) else (torchonlaw06_awake.j0 k t587 bt595.1 bt605.1 bt607.1 bt627.1 true bt619.1 bt619.2.1 bt629.1 bt629.2.1 bt629.2.2.1 bt629.2.2.2.1 bt629.2.2.2.2.1 bt629.2.2.2.2.2.1 bt629.2.2.2.2.2.2.1)) else (torchonlaw06_awake.j0 k t587 bt595.1 bt605.1 bt607.1 bt627.1 true bt619.1 bt619.2.1 bt629.1 bt629.2.1 bt629.2.2.1 bt629.2.2.2.1 bt629.2.2.2.2.1 bt629.2.2.2.2.2.1 bt629.2.2.2.2.2.2.1)))))))))))))))) = some r := H
  have A6 := Aside0.mk A60
  clear A60
  replace H := Option.bind_eq_some_iff.mp H
  obtain ⟨⟨t595, t596⟩, A70, H⟩ := H
  replace H : ((torchonlaw06_pt.f 0 0).bind fun bt597 => ((torchonlaw06_pt.f 1 0).bind fun bt599 => ((torchonlaw06_pt.f 1 (-1)).bind fun bt601 => ((torchonlaw06_pt.f 0 1).bind fun bt603 => ((grids_Turn.f k bt597.1 bt597.2 bt599.1 bt599.2 bt601.1 bt601.2 bt603.1 bt603.2).bind fun bt605 => ((grids_Group.f k 2 1 2).bind fun bt607 => ((torchonlaw06_mat.f 0 (-1) 1 0).bind fun bt611 => ((torchonlaw06_pt.f 3 4).bind fun bt615 => ((torchonlaw06_pt.f 1 2).bind fun bt617 => ((grids_Apply.f k bt611.1 bt611.2.1 bt611.2.2.1 bt611.2.2.2 bt615.1 bt615.2 bt617.1 bt617.2).bind fun bt619 => ((torchonlaw06_mat.f 1 (-1) 1 0).bind fun bt623 => ((grids_Order.f k bt623.1 bt623.2.1 bt623.2.2.1 bt623.2.2.2).bind fun bt627 => ((grids_Reduce.f k 5 7 10).bind fun bt629 => (if t588 = 0 then (if t596 = 0 then (if bt605.2 = 0 then (if bt607.2 = 0 then (if bt619.2.2 = 0 then (if bt627.2 = 0 then (torchonlaw06_awake.j0 k t587 t595 bt605.1 bt607.1 bt627.1 (bt629.2.2.2.2.2.2.2 != 0) bt619.1 bt619.2.1 bt629.1 bt629.2.1 bt629.2.2.1 bt629.2.2.2.1 bt629.2.2.2.2.1 bt629.2.2.2.2.2.1 bt629.2.2.2.2.2.2.1) else (torchonlaw06_awake.j0 k t587 t595 bt605.1 bt607.1 bt627.1 true bt619.1 bt619.2.1 bt629.1 bt629.2.1 bt629.2.2.1 bt629.2.2.2.1 bt629.2.2.2.2.1 bt629.2.2.2.2.2.1 bt629.2.2.2.2.2.2.1)) else (torchonlaw06_awake.j0 k t587 t595 bt605.1 bt607.1 bt627.1 true bt619.1 bt619.2.1 bt629.1 bt629.2.1 bt629.2.2.1 bt629.2.2.2.1 bt629.2.2.2.2.1 bt629.2.2.2.2.2.1 bt629.2.2.2.2.2.2.1)) else (torchonlaw06_awake.j0 k t587 t595 bt605.1 bt607.1 bt627.1 true bt619.1 bt619.2.1 bt629.1 bt629.2.1 bt629.2.2.1 bt629.2.2.2.1 bt629.2.2.2.2.1 bt629.2.2.2.2.2.1 bt629.2.2.2.2.2.2.1)) else (torchonlaw06_awake.j0 k t587 t595 bt605.1 bt607.1 bt627.1 true bt619.1 bt619.2.1 bt629.1 bt629.2.1 bt629.2.2.1 bt629.2.2.2.1 bt629.2.2.2.2.1 bt629.2.2.2.2.2.1 bt629.2.2.2.2.2.2.1)) else (torchonlaw06_awake.j0 k t587 t595 bt605.1 bt607.1 bt627.1 true bt619.1 bt619.2.1 bt629.1 bt629.2.1 bt629.2.2.1 bt629.2.2.2.1 bt629.2.2.2.2.1 bt629.2.2.2.2.2.1 bt629.2.2.2.2.2.2.1)) else (torchonlaw06_awake.j0 k t587 t595 bt605.1 bt607.1 bt627.1 true bt619.1 bt619.2.1 bt629.1 bt629.2.1 bt629.2.2.1 bt629.2.2.2.1 bt629.2.2.2.2.1 bt629.2.2.2.2.2.1 bt629.2.2.2.2.2.2.1))))))))))))))) = some r := H
  have A7 := Aside0.mk A70
  clear A70
  replace H := Option.bind_eq_some_iff.mp H
  obtain ⟨⟨t597, t598⟩, A80, H⟩ := H
  replace H : ((torchonlaw06_pt.f 1 0).bind fun bt599 => ((torchonlaw06_pt.f 1 (-1)).bind fun bt601 => ((torchonlaw06_pt.f 0 1).bind fun bt603 => ((grids_Turn.f k t597 t598 bt599.1 bt599.2 bt601.1 bt601.2 bt603.1 bt603.2).bind fun bt605 => ((grids_Group.f k 2 1 2).bind fun bt607 => ((torchonlaw06_mat.f 0 (-1) 1 0).bind fun bt611 => ((torchonlaw06_pt.f 3 4).bind fun bt615 => ((torchonlaw06_pt.f 1 2).bind fun bt617 => ((grids_Apply.f k bt611.1 bt611.2.1 bt611.2.2.1 bt611.2.2.2 bt615.1 bt615.2 bt617.1 bt617.2).bind fun bt619 => ((torchonlaw06_mat.f 1 (-1) 1 0).bind fun bt623 => ((grids_Order.f k bt623.1 bt623.2.1 bt623.2.2.1 bt623.2.2.2).bind fun bt627 => ((grids_Reduce.f k 5 7 10).bind fun bt629 => (if t588 = 0 then (if t596 = 0 then (if bt605.2 = 0 then (if bt607.2 = 0 then (if bt619.2.2 = 0 then (if bt627.2 = 0 then (torchonlaw06_awake.j0 k t587 t595 bt605.1 bt607.1 bt627.1 (bt629.2.2.2.2.2.2.2 != 0) bt619.1 bt619.2.1 bt629.1 bt629.2.1 bt629.2.2.1 bt629.2.2.2.1 bt629.2.2.2.2.1 bt629.2.2.2.2.2.1 bt629.2.2.2.2.2.2.1) else (torchonlaw06_awake.j0 k t587 t595 bt605.1 bt607.1 bt627.1 true bt619.1 bt619.2.1 bt629.1 bt629.2.1 bt629.2.2.1 bt629.2.2.2.1 bt629.2.2.2.2.1 bt629.2.2.2.2.2.1 bt629.2.2.2.2.2.2.1)) else (torchonlaw06_awake.j0 k t587 t595 bt605.1 bt607.1 bt627.1 true bt619.1 bt619.2.1 bt629.1 bt629.2.1 bt629.2.2.1 bt629.2.2.2.1 bt629.2.2.2.2.1 bt629.2.2.2.2.2.1 bt629.2.2.2.2.2.2.1)) else (torchonlaw06_awake.j0 k t587 t595 bt605.1 bt607.1 bt627.1 true bt619.1 bt619.2.1 bt629.1 bt629.2.1 bt629.2.2.1 bt629.2.2.2.1 bt629.2.2.2.2.1 bt629.2.2.2.2.2.1 bt629.2.2.2.2.2.2.1)) else (torchonlaw06_awake.j0 k t587 t595 bt605.1 bt607.1 bt627.1 true bt619.1 bt619.2.1 bt629.1 bt629.2.1 bt629.2.2.1 bt629.2.2.2.1 bt629.2.2.2.2.1 bt629.2.2.2.2.2.1 bt629.2.2.2.2.2.2.1)) else (torchonlaw06_awake.j0 k t587 t595 bt605.1 bt607.1 bt627.1 true bt619.1 bt619.2.1 bt629.1 bt629.2.1 bt629.2.2.1 bt629.2.2.2.1 bt629.2.2.2.2.1 bt629.2.2.2.2.2.1 bt629.2.2.2.2.2.2.1)) else (torchonlaw06_awake.j0 k t587 t595 bt605.1 bt607.1 bt627.1 true bt619.1 bt619.2.1 bt629.1 bt629.2.1 bt629.2.2.1 bt629.2.2.2.1 bt629.2.2.2.2.1 bt629.2.2.2.2.2.1 bt629.2.2.2.2.2.2.1)))))))))))))) = some r := H
  have A8 := Aside0.mk A80
  clear A80
  replace H := Option.bind_eq_some_iff.mp H
  obtain ⟨⟨t599, t600⟩, A90, H⟩ := H
  replace H : ((torchonlaw06_pt.f 1 (-1)).bind fun bt601 => ((torchonlaw06_pt.f 0 1).bind fun bt603 => ((grids_Turn.f k t597 t598 t599 t600 bt601.1 bt601.2 bt603.1 bt603.2).bind fun bt605 => ((grids_Group.f k 2 1 2).bind fun bt607 => ((torchonlaw06_mat.f 0 (-1) 1 0).bind fun bt611 => ((torchonlaw06_pt.f 3 4).bind fun bt615 => ((torchonlaw06_pt.f 1 2).bind fun bt617 => ((grids_Apply.f k bt611.1 bt611.2.1 bt611.2.2.1 bt611.2.2.2 bt615.1 bt615.2 bt617.1 bt617.2).bind fun bt619 => ((torchonlaw06_mat.f 1 (-1) 1 0).bind fun bt623 => ((grids_Order.f k bt623.1 bt623.2.1 bt623.2.2.1 bt623.2.2.2).bind fun bt627 => ((grids_Reduce.f k 5 7 10).bind fun bt629 => (if t588 = 0 then (if t596 = 0 then (if bt605.2 = 0 then (if bt607.2 = 0 then (if bt619.2.2 = 0 then (if bt627.2 = 0 then (torchonlaw06_awake.j0 k t587 t595 bt605.1 bt607.1 bt627.1 (bt629.2.2.2.2.2.2.2 != 0) bt619.1 bt619.2.1 bt629.1 bt629.2.1 bt629.2.2.1 bt629.2.2.2.1 bt629.2.2.2.2.1 bt629.2.2.2.2.2.1 bt629.2.2.2.2.2.2.1) else (torchonlaw06_awake.j0 k t587 t595 bt605.1 bt607.1 bt627.1 true bt619.1 bt619.2.1 bt629.1 bt629.2.1 bt629.2.2.1 bt629.2.2.2.1 bt629.2.2.2.2.1 bt629.2.2.2.2.2.1 bt629.2.2.2.2.2.2.1)) else (torchonlaw06_awake.j0 k t587 t595 bt605.1 bt607.1 bt627.1 true bt619.1 bt619.2.1 bt629.1 bt629.2.1 bt629.2.2.1 bt629.2.2.2.1 bt629.2.2.2.2.1 bt629.2.2.2.2.2.1 bt629.2.2.2.2.2.2.1)) else (torchonlaw06_awake.j0 k t587 t595 bt605.1 bt607.1 bt627.1 true bt619.1 bt619.2.1 bt629.1 bt629.2.1 bt629.2.2.1 bt629.2.2.2.1 bt629.2.2.2.2.1 bt629.2.2.2.2.2.1 bt629.2.2.2.2.2.2.1)) else (torchonlaw06_awake.j0 k t587 t595 bt605.1 bt607.1 bt627.1 true bt619.1 bt619.2.1 bt629.1 bt629.2.1 bt629.2.2.1 bt629.2.2.2.1 bt629.2.2.2.2.1 bt629.2.2.2.2.2.1 bt629.2.2.2.2.2.2.1)) else (torchonlaw06_awake.j0 k t587 t595 bt605.1 bt607.1 bt627.1 true bt619.1 bt619.2.1 bt629.1 bt629.2.1 bt629.2.2.1 bt629.2.2.2.1 bt629.2.2.2.2.1 bt629.2.2.2.2.2.1 bt629.2.2.2.2.2.2.1)) else (torchonlaw06_awake.j0 k t587 t595 bt605.1 bt607.1 bt627.1 true bt619.1 bt619.2.1 bt629.1 bt629.2.1 bt629.2.2.1 bt629.2.2.2.1 bt629.2.2.2.2.1 bt629.2.2.2.2.2.1 bt629.2.2.2.2.2.2.1))))))))))))) = some r := H
  have A9 := Aside0.mk A90
  clear A90
  replace H := Option.bind_eq_some_iff.mp H
  obtain ⟨⟨t601, t602⟩, A100, H⟩ := H
  replace H : ((torchonlaw06_pt.f 0 1).bind fun bt603 => ((grids_Turn.f k t597 t598 t599 t600 t601 t602 bt603.1 bt603.2).bind fun bt605 => ((grids_Group.f k 2 1 2).bind fun bt607 => ((torchonlaw06_mat.f 0 (-1) 1 0).bind fun bt611 => ((torchonlaw06_pt.f 3 4).bind fun bt615 => ((torchonlaw06_pt.f 1 2).bind fun bt617 => ((grids_Apply.f k bt611.1 bt611.2.1 bt611.2.2.1 bt611.2.2.2 bt615.1 bt615.2 bt617.1 bt617.2).bind fun bt619 => ((torchonlaw06_mat.f 1 (-1) 1 0).bind fun bt623 => ((grids_Order.f k bt623.1 bt623.2.1 bt623.2.2.1 bt623.2.2.2).bind fun bt627 => ((grids_Reduce.f k 5 7 10).bind fun bt629 => (if t588 = 0 then (if t596 = 0 then (if bt605.2 = 0 then (if bt607.2 = 0 then (if bt619.2.2 = 0 then (if bt627.2 = 0 then (torchonlaw06_awake.j0 k t587 t595 bt605.1 bt607.1 bt627.1 (bt629.2.2.2.2.2.2.2 != 0) bt619.1 bt619.2.1 bt629.1 bt629.2.1 bt629.2.2.1 bt629.2.2.2.1 bt629.2.2.2.2.1 bt629.2.2.2.2.2.1 bt629.2.2.2.2.2.2.1) else (torchonlaw06_awake.j0 k t587 t595 bt605.1 bt607.1 bt627.1 true bt619.1 bt619.2.1 bt629.1 bt629.2.1 bt629.2.2.1 bt629.2.2.2.1 bt629.2.2.2.2.1 bt629.2.2.2.2.2.1 bt629.2.2.2.2.2.2.1)) else (torchonlaw06_awake.j0 k t587 t595 bt605.1 bt607.1 bt627.1 true bt619.1 bt619.2.1 bt629.1 bt629.2.1 bt629.2.2.1 bt629.2.2.2.1 bt629.2.2.2.2.1 bt629.2.2.2.2.2.1 bt629.2.2.2.2.2.2.1)) else (torchonlaw06_awake.j0 k t587 t595 bt605.1 bt607.1 bt627.1 true bt619.1 bt619.2.1 bt629.1 bt629.2.1 bt629.2.2.1 bt629.2.2.2.1 bt629.2.2.2.2.1 bt629.2.2.2.2.2.1 bt629.2.2.2.2.2.2.1)) else (torchonlaw06_awake.j0 k t587 t595 bt605.1 bt607.1 bt627.1 true bt619.1 bt619.2.1 bt629.1 bt629.2.1 bt629.2.2.1 bt629.2.2.2.1 bt629.2.2.2.2.1 bt629.2.2.2.2.2.1 bt629.2.2.2.2.2.2.1)) else (torchonlaw06_awake.j0 k t587 t595 bt605.1 bt607.1 bt627.1 true bt619.1 bt619.2.1 bt629.1 bt629.2.1 bt629.2.2.1 bt629.2.2.2.1 bt629.2.2.2.2.1 bt629.2.2.2.2.2.1 bt629.2.2.2.2.2.2.1)) else (torchonlaw06_awake.j0 k t587 t595 bt605.1 bt607.1 bt627.1 true bt619.1 bt619.2.1 bt629.1 bt629.2.1 bt629.2.2.1 bt629.2.2.2.1 bt629.2.2.2.2.1 bt629.2.2.2.2.2.1 bt629.2.2.2.2.2.2.1)))))))))))) = some r := H
  have A10 := Aside0.mk A100
  clear A100
  replace H := Option.bind_eq_some_iff.mp H
  obtain ⟨⟨t603, t604⟩, A110, H⟩ := H
  replace H : ((grids_Turn.f k t597 t598 t599 t600 t601 t602 t603 t604).bind fun bt605 => ((grids_Group.f k 2 1 2).bind fun bt607 => ((torchonlaw06_mat.f 0 (-1) 1 0).bind fun bt611 => ((torchonlaw06_pt.f 3 4).bind fun bt615 => ((torchonlaw06_pt.f 1 2).bind fun bt617 => ((grids_Apply.f k bt611.1 bt611.2.1 bt611.2.2.1 bt611.2.2.2 bt615.1 bt615.2 bt617.1 bt617.2).bind fun bt619 => ((torchonlaw06_mat.f 1 (-1) 1 0).bind fun bt623 => ((grids_Order.f k bt623.1 bt623.2.1 bt623.2.2.1 bt623.2.2.2).bind fun bt627 => ((grids_Reduce.f k 5 7 10).bind fun bt629 => (if t588 = 0 then (if t596 = 0 then (if bt605.2 = 0 then (if bt607.2 = 0 then (if bt619.2.2 = 0 then (if bt627.2 = 0 then (torchonlaw06_awake.j0 k t587 t595 bt605.1 bt607.1 bt627.1 (bt629.2.2.2.2.2.2.2 != 0) bt619.1 bt619.2.1 bt629.1 bt629.2.1 bt629.2.2.1 bt629.2.2.2.1 bt629.2.2.2.2.1 bt629.2.2.2.2.2.1 bt629.2.2.2.2.2.2.1) else (torchonlaw06_awake.j0 k t587 t595 bt605.1 bt607.1 bt627.1 true bt619.1 bt619.2.1 bt629.1 bt629.2.1 bt629.2.2.1 bt629.2.2.2.1 bt629.2.2.2.2.1 bt629.2.2.2.2.2.1 bt629.2.2.2.2.2.2.1)) else (torchonlaw06_awake.j0 k t587 t595 bt605.1 bt607.1 bt627.1 true bt619.1 bt619.2.1 bt629.1 bt629.2.1 bt629.2.2.1 bt629.2.2.2.1 bt629.2.2.2.2.1 bt629.2.2.2.2.2.1 bt629.2.2.2.2.2.2.1)) else (torchonlaw06_awake.j0 k t587 t595 bt605.1 bt607.1 bt627.1 true bt619.1 bt619.2.1 bt629.1 bt629.2.1 bt629.2.2.1 bt629.2.2.2.1 bt629.2.2.2.2.1 bt629.2.2.2.2.2.1 bt629.2.2.2.2.2.2.1)) else (torchonlaw06_awake.j0 k t587 t595 bt605.1 bt607.1 bt627.1 true bt619.1 bt619.2.1 bt629.1 bt629.2.1 bt629.2.2.1 bt629.2.2.2.1 bt629.2.2.2.2.1 bt629.2.2.2.2.2.1 bt629.2.2.2.2.2.2.1)) else (torchonlaw06_awake.j0 k t587 t595 bt605.1 bt607.1 bt627.1 true bt619.1 bt619.2.1 bt629.1 bt629.2.1 bt629.2.2.1 bt629.2.2.2.1 bt629.2.2.2.2.1 bt629.2.2.2.2.2.1 bt629.2.2.2.2.2.2.1)) else (torchonlaw06_awake.j0 k t587 t595 bt605.1 bt607.1 bt627.1 true bt619.1 bt619.2.1 bt629.1 bt629.2.1 bt629.2.2.1 bt629.2.2.2.1 bt629.2.2.2.2.1 bt629.2.2.2.2.2.1 bt629.2.2.2.2.2.2.1))))))))))) = some r := H
  have A11 := Aside0.mk A110
  clear A110
  replace H := Option.bind_eq_some_iff.mp H
  obtain ⟨⟨t605, t606⟩, A120, H⟩ := H
  replace H : ((grids_Group.f k 2 1 2).bind fun bt607 => ((torchonlaw06_mat.f 0 (-1) 1 0).bind fun bt611 => ((torchonlaw06_pt.f 3 4).bind fun bt615 => ((torchonlaw06_pt.f 1 2).bind fun bt617 => ((grids_Apply.f k bt611.1 bt611.2.1 bt611.2.2.1 bt611.2.2.2 bt615.1 bt615.2 bt617.1 bt617.2).bind fun bt619 => ((torchonlaw06_mat.f 1 (-1) 1 0).bind fun bt623 => ((grids_Order.f k bt623.1 bt623.2.1 bt623.2.2.1 bt623.2.2.2).bind fun bt627 => ((grids_Reduce.f k 5 7 10).bind fun bt629 => (if t588 = 0 then (if t596 = 0 then (if t606 = 0 then (if bt607.2 = 0 then (if bt619.2.2 = 0 then (if bt627.2 = 0 then (torchonlaw06_awake.j0 k t587 t595 t605 bt607.1 bt627.1 (bt629.2.2.2.2.2.2.2 != 0) bt619.1 bt619.2.1 bt629.1 bt629.2.1 bt629.2.2.1 bt629.2.2.2.1 bt629.2.2.2.2.1 bt629.2.2.2.2.2.1 bt629.2.2.2.2.2.2.1) else (torchonlaw06_awake.j0 k t587 t595 t605 bt607.1 bt627.1 true bt619.1 bt619.2.1 bt629.1 bt629.2.1 bt629.2.2.1 bt629.2.2.2.1 bt629.2.2.2.2.1 bt629.2.2.2.2.2.1 bt629.2.2.2.2.2.2.1)) else (torchonlaw06_awake.j0 k t587 t595 t605 bt607.1 bt627.1 true bt619.1 bt619.2.1 bt629.1 bt629.2.1 bt629.2.2.1 bt629.2.2.2.1 bt629.2.2.2.2.1 bt629.2.2.2.2.2.1 bt629.2.2.2.2.2.2.1)) else (torchonlaw06_awake.j0 k t587 t595 t605 bt607.1 bt627.1 true bt619.1 bt619.2.1 bt629.1 bt629.2.1 bt629.2.2.1 bt629.2.2.2.1 bt629.2.2.2.2.1 bt629.2.2.2.2.2.1 bt629.2.2.2.2.2.2.1)) else (torchonlaw06_awake.j0 k t587 t595 t605 bt607.1 bt627.1 true bt619.1 bt619.2.1 bt629.1 bt629.2.1 bt629.2.2.1 bt629.2.2.2.1 bt629.2.2.2.2.1 bt629.2.2.2.2.2.1 bt629.2.2.2.2.2.2.1)) else (torchonlaw06_awake.j0 k t587 t595 t605 bt607.1 bt627.1 true bt619.1 bt619.2.1 bt629.1 bt629.2.1 bt629.2.2.1 bt629.2.2.2.1 bt629.2.2.2.2.1 bt629.2.2.2.2.2.1 bt629.2.2.2.2.2.2.1)) else (torchonlaw06_awake.j0 k t587 t595 t605 bt607.1 bt627.1 true bt619.1 bt619.2.1 bt629.1 bt629.2.1 bt629.2.2.1 bt629.2.2.2.1 bt629.2.2.2.2.1 bt629.2.2.2.2.2.1 bt629.2.2.2.2.2.2.1)))))))))) = some r := H
  have A12 := Aside0.mk A120
  clear A120
  replace H := Option.bind_eq_some_iff.mp H
  obtain ⟨⟨t607, t610⟩, A130, H⟩ := H
  replace H : ((torchonlaw06_mat.f 0 (-1) 1 0).bind fun bt611 => ((torchonlaw06_pt.f 3 4).bind fun bt615 => ((torchonlaw06_pt.f 1 2).bind fun bt617 => ((grids_Apply.f k bt611.1 bt611.2.1 bt611.2.2.1 bt611.2.2.2 bt615.1 bt615.2 bt617.1 bt617.2).bind fun bt619 => ((torchonlaw06_mat.f 1 (-1) 1 0).bind fun bt623 => ((grids_Order.f k bt623.1 bt623.2.1 bt623.2.2.1 bt623.2.2.2).bind fun bt627 => ((grids_Reduce.f k 5 7 10).bind fun bt629 => (if t588 = 0 then (if t596 = 0 then (if t606 = 0 then (if t610 = 0 then (if bt619.2.2 = 0 then (if bt627.2 = 0 then (torchonlaw06_awake.j0 k t587 t595 t605 t607 bt627.1 (bt629.2.2.2.2.2.2.2 != 0) bt619.1 bt619.2.1 bt629.1 bt629.2.1 bt629.2.2.1 bt629.2.2.2.1 bt629.2.2.2.2.1 bt629.2.2.2.2.2.1 bt629.2.2.2.2.2.2.1) else (torchonlaw06_awake.j0 k t587 t595 t605 t607 bt627.1 true bt619.1 bt619.2.1 bt629.1 bt629.2.1 bt629.2.2.1 bt629.2.2.2.1 bt629.2.2.2.2.1 bt629.2.2.2.2.2.1 bt629.2.2.2.2.2.2.1)) else (torchonlaw06_awake.j0 k t587 t595 t605 t607 bt627.1 true bt619.1 bt619.2.1 bt629.1 bt629.2.1 bt629.2.2.1 bt629.2.2.2.1 bt629.2.2.2.2.1 bt629.2.2.2.2.2.1 bt629.2.2.2.2.2.2.1)) else (torchonlaw06_awake.j0 k t587 t595 t605 t607 bt627.1 true bt619.1 bt619.2.1 bt629.1 bt629.2.1 bt629.2.2.1 bt629.2.2.2.1 bt629.2.2.2.2.1 bt629.2.2.2.2.2.1 bt629.2.2.2.2.2.2.1)) else (torchonlaw06_awake.j0 k t587 t595 t605 t607 bt627.1 true bt619.1 bt619.2.1 bt629.1 bt629.2.1 bt629.2.2.1 bt629.2.2.2.1 bt629.2.2.2.2.1 bt629.2.2.2.2.2.1 bt629.2.2.2.2.2.2.1)) else (torchonlaw06_awake.j0 k t587 t595 t605 t607 bt627.1 true bt619.1 bt619.2.1 bt629.1 bt629.2.1 bt629.2.2.1 bt629.2.2.2.1 bt629.2.2.2.2.1 bt629.2.2.2.2.2.1 bt629.2.2.2.2.2.2.1)) else (torchonlaw06_awake.j0 k t587 t595 t605 t607 bt627.1 true bt619.1 bt619.2.1 bt629.1 bt629.2.1 bt629.2.2.1 bt629.2.2.2.1 bt629.2.2.2.2.1 bt629.2.2.2.2.2.1 bt629.2.2.2.2.2.2.1))))))))) = some r := H
  have A13 := Aside0.mk A130
  clear A130
  replace H := Option.bind_eq_some_iff.mp H
  obtain ⟨⟨t611, t612, t613, t614⟩, A140, H⟩ := H
  replace H : ((torchonlaw06_pt.f 3 4).bind fun bt615 => ((torchonlaw06_pt.f 1 2).bind fun bt617 => ((grids_Apply.f k t611 t612 t613 t614 bt615.1 bt615.2 bt617.1 bt617.2).bind fun bt619 => ((torchonlaw06_mat.f 1 (-1) 1 0).bind fun bt623 => ((grids_Order.f k bt623.1 bt623.2.1 bt623.2.2.1 bt623.2.2.2).bind fun bt627 => ((grids_Reduce.f k 5 7 10).bind fun bt629 => (if t588 = 0 then (if t596 = 0 then (if t606 = 0 then (if t610 = 0 then (if bt619.2.2 = 0 then (if bt627.2 = 0 then (torchonlaw06_awake.j0 k t587 t595 t605 t607 bt627.1 (bt629.2.2.2.2.2.2.2 != 0) bt619.1 bt619.2.1 bt629.1 bt629.2.1 bt629.2.2.1 bt629.2.2.2.1 bt629.2.2.2.2.1 bt629.2.2.2.2.2.1 bt629.2.2.2.2.2.2.1) else (torchonlaw06_awake.j0 k t587 t595 t605 t607 bt627.1 true bt619.1 bt619.2.1 bt629.1 bt629.2.1 bt629.2.2.1 bt629.2.2.2.1 bt629.2.2.2.2.1 bt629.2.2.2.2.2.1 bt629.2.2.2.2.2.2.1)) else (torchonlaw06_awake.j0 k t587 t595 t605 t607 bt627.1 true bt619.1 bt619.2.1 bt629.1 bt629.2.1 bt629.2.2.1 bt629.2.2.2.1 bt629.2.2.2.2.1 bt629.2.2.2.2.2.1 bt629.2.2.2.2.2.2.1)) else (torchonlaw06_awake.j0 k t587 t595 t605 t607 bt627.1 true bt619.1 bt619.2.1 bt629.1 bt629.2.1 bt629.2.2.1 bt629.2.2.2.1 bt629.2.2.2.2.1 bt629.2.2.2.2.2.1 bt629.2.2.2.2.2.2.1)) else (torchonlaw06_awake.j0 k t587 t595 t605 t607 bt627.1 true bt619.1 bt619.2.1 bt629.1 bt629.2.1 bt629.2.2.1 bt629.2.2.2.1 bt629.2.2.2.2.1 bt629.2.2.2.2.2.1 bt629.2.2.2.2.2.2.1)) else (torchonlaw06_awake.j0 k t587 t595 t605 t607 bt627.1 true bt619.1 bt619.2.1 bt629.1 bt629.2.1 bt629.2.2.1 bt629.2.2.2.1 bt629.2.2.2.2.1 bt629.2.2.2.2.2.1 bt629.2.2.2.2.2.2.1)) else (torchonlaw06_awake.j0 k t587 t595 t605 t607 bt627.1 true bt619.1 bt619.2.1 bt629.1 bt629.2.1 bt629.2.2.1 bt629.2.2.2.1 bt629.2.2.2.2.1 bt629.2.2.2.2.2.1 bt629.2.2.2.2.2.2.1)))))))) = some r := H
  have A14 := Aside0.mk A140
  clear A140
  replace H := Option.bind_eq_some_iff.mp H
  obtain ⟨⟨t615, t616⟩, A150, H⟩ := H
  replace H : ((torchonlaw06_pt.f 1 2).bind fun bt617 => ((grids_Apply.f k t611 t612 t613 t614 t615 t616 bt617.1 bt617.2).bind fun bt619 => ((torchonlaw06_mat.f 1 (-1) 1 0).bind fun bt623 => ((grids_Order.f k bt623.1 bt623.2.1 bt623.2.2.1 bt623.2.2.2).bind fun bt627 => ((grids_Reduce.f k 5 7 10).bind fun bt629 => (if t588 = 0 then (if t596 = 0 then (if t606 = 0 then (if t610 = 0 then (if bt619.2.2 = 0 then (if bt627.2 = 0 then (torchonlaw06_awake.j0 k t587 t595 t605 t607 bt627.1 (bt629.2.2.2.2.2.2.2 != 0) bt619.1 bt619.2.1 bt629.1 bt629.2.1 bt629.2.2.1 bt629.2.2.2.1 bt629.2.2.2.2.1 bt629.2.2.2.2.2.1 bt629.2.2.2.2.2.2.1) else (torchonlaw06_awake.j0 k t587 t595 t605 t607 bt627.1 true bt619.1 bt619.2.1 bt629.1 bt629.2.1 bt629.2.2.1 bt629.2.2.2.1 bt629.2.2.2.2.1 bt629.2.2.2.2.2.1 bt629.2.2.2.2.2.2.1)) else (torchonlaw06_awake.j0 k t587 t595 t605 t607 bt627.1 true bt619.1 bt619.2.1 bt629.1 bt629.2.1 bt629.2.2.1 bt629.2.2.2.1 bt629.2.2.2.2.1 bt629.2.2.2.2.2.1 bt629.2.2.2.2.2.2.1)) else (torchonlaw06_awake.j0 k t587 t595 t605 t607 bt627.1 true bt619.1 bt619.2.1 bt629.1 bt629.2.1 bt629.2.2.1 bt629.2.2.2.1 bt629.2.2.2.2.1 bt629.2.2.2.2.2.1 bt629.2.2.2.2.2.2.1)) else (torchonlaw06_awake.j0 k t587 t595 t605 t607 bt627.1 true bt619.1 bt619.2.1 bt629.1 bt629.2.1 bt629.2.2.1 bt629.2.2.2.1 bt629.2.2.2.2.1 bt629.2.2.2.2.2.1 bt629.2.2.2.2.2.2.1)) else (torchonlaw06_awake.j0 k t587 t595 t605 t607 bt627.1 true bt619.1 bt619.2.1 bt629.1 bt629.2.1 bt629.2.2.1 bt629.2.2.2.1 bt629.2.2.2.2.1 bt629.2.2.2.2.2.1 bt629.2.2.2.2.2.2.1)) else (torchonlaw06_awake.j0 k t587 t595 t605 t607 bt627.1 true bt619.1 bt619.2.1 bt629.1 bt629.2.1 bt629.2.2.1 bt629.2.2.2.1 bt629.2.2.2.2.1 bt629.2.2.2.2.2.1 bt629.2.2.2.2.2.2.1))))))) = some r := H
  have A15 := Aside0.mk A150
  clear A150
  replace H := Option.bind_eq_some_iff.mp H
  obtain ⟨⟨t617, t618⟩, A160, H⟩ := H
  replace H : ((grids_Apply.f k t611 t612 t613 t614 t615 t616 t617 t618).bind fun bt619 => ((torchonlaw06_mat.f 1 (-1) 1 0).bind fun bt623 => ((grids_Order.f k bt623.1 bt623.2.1 bt623.2.2.1 bt623.2.2.2).bind fun bt627 => ((grids_Reduce.f k 5 7 10).bind fun bt629 => (if t588 = 0 then (if t596 = 0 then (if t606 = 0 then (if t610 = 0 then (if bt619.2.2 = 0 then (if bt627.2 = 0 then (torchonlaw06_awake.j0 k t587 t595 t605 t607 bt627.1 (bt629.2.2.2.2.2.2.2 != 0) bt619.1 bt619.2.1 bt629.1 bt629.2.1 bt629.2.2.1 bt629.2.2.2.1 bt629.2.2.2.2.1 bt629.2.2.2.2.2.1 bt629.2.2.2.2.2.2.1) else (torchonlaw06_awake.j0 k t587 t595 t605 t607 bt627.1 true bt619.1 bt619.2.1 bt629.1 bt629.2.1 bt629.2.2.1 bt629.2.2.2.1 bt629.2.2.2.2.1 bt629.2.2.2.2.2.1 bt629.2.2.2.2.2.2.1)) else (torchonlaw06_awake.j0 k t587 t595 t605 t607 bt627.1 true bt619.1 bt619.2.1 bt629.1 bt629.2.1 bt629.2.2.1 bt629.2.2.2.1 bt629.2.2.2.2.1 bt629.2.2.2.2.2.1 bt629.2.2.2.2.2.2.1)) else (torchonlaw06_awake.j0 k t587 t595 t605 t607 bt627.1 true bt619.1 bt619.2.1 bt629.1 bt629.2.1 bt629.2.2.1 bt629.2.2.2.1 bt629.2.2.2.2.1 bt629.2.2.2.2.2.1 bt629.2.2.2.2.2.2.1)) else (torchonlaw06_awake.j0 k t587 t595 t605 t607 bt627.1 true bt619.1 bt619.2.1 bt629.1 bt629.2.1 bt629.2.2.1 bt629.2.2.2.1 bt629.2.2.2.2.1 bt629.2.2.2.2.2.1 bt629.2.2.2.2.2.2.1)) else (torchonlaw06_awake.j0 k t587 t595 t605 t607 bt627.1 true bt619.1 bt619.2.1 bt629.1 bt629.2.1 bt629.2.2.1 bt629.2.2.2.1 bt629.2.2.2.2.1 bt629.2.2.2.2.2.1 bt629.2.2.2.2.2.2.1)) else (torchonlaw06_awake.j0 k t587 t595 t605 t607 bt627.1 true bt619.1 bt619.2.1 bt629.1 bt629.2.1 bt629.2.2.1 bt629.2.2.2.1 bt629.2.2.2.2.1 bt629.2.2.2.2.2.1 bt629.2.2.2.2.2.2.1)))))) = some r := H
  have A16 := Aside0.mk A160
  clear A160
  replace H := Option.bind_eq_some_iff.mp H
  obtain ⟨⟨t619, t620, t621⟩, A170, H⟩ := H
  replace H : ((torchonlaw06_mat.f 1 (-1) 1 0).bind fun bt623 => ((grids_Order.f k bt623.1 bt623.2.1 bt623.2.2.1 bt623.2.2.2).bind fun bt627 => ((grids_Reduce.f k 5 7 10).bind fun bt629 => (if t588 = 0 then (if t596 = 0 then (if t606 = 0 then (if t610 = 0 then (if t621 = 0 then (if bt627.2 = 0 then (torchonlaw06_awake.j0 k t587 t595 t605 t607 bt627.1 (bt629.2.2.2.2.2.2.2 != 0) t619 t620 bt629.1 bt629.2.1 bt629.2.2.1 bt629.2.2.2.1 bt629.2.2.2.2.1 bt629.2.2.2.2.2.1 bt629.2.2.2.2.2.2.1) else (torchonlaw06_awake.j0 k t587 t595 t605 t607 bt627.1 true t619 t620 bt629.1 bt629.2.1 bt629.2.2.1 bt629.2.2.2.1 bt629.2.2.2.2.1 bt629.2.2.2.2.2.1 bt629.2.2.2.2.2.2.1)) else (torchonlaw06_awake.j0 k t587 t595 t605 t607 bt627.1 true t619 t620 bt629.1 bt629.2.1 bt629.2.2.1 bt629.2.2.2.1 bt629.2.2.2.2.1 bt629.2.2.2.2.2.1 bt629.2.2.2.2.2.2.1)) else (torchonlaw06_awake.j0 k t587 t595 t605 t607 bt627.1 true t619 t620 bt629.1 bt629.2.1 bt629.2.2.1 bt629.2.2.2.1 bt629.2.2.2.2.1 bt629.2.2.2.2.2.1 bt629.2.2.2.2.2.2.1)) else (torchonlaw06_awake.j0 k t587 t595 t605 t607 bt627.1 true t619 t620 bt629.1 bt629.2.1 bt629.2.2.1 bt629.2.2.2.1 bt629.2.2.2.2.1 bt629.2.2.2.2.2.1 bt629.2.2.2.2.2.2.1)) else (torchonlaw06_awake.j0 k t587 t595 t605 t607 bt627.1 true t619 t620 bt629.1 bt629.2.1 bt629.2.2.1 bt629.2.2.2.1 bt629.2.2.2.2.1 bt629.2.2.2.2.2.1 bt629.2.2.2.2.2.2.1)) else (torchonlaw06_awake.j0 k t587 t595 t605 t607 bt627.1 true t619 t620 bt629.1 bt629.2.1 bt629.2.2.1 bt629.2.2.2.1 bt629.2.2.2.2.1 bt629.2.2.2.2.2.1 bt629.2.2.2.2.2.2.1))))) = some r := H
  have A17 := Aside0.mk A170
  clear A170
  replace H := Option.bind_eq_some_iff.mp H
  obtain ⟨⟨t623, t624, t625, t626⟩, A180, H⟩ := H
  replace H : ((grids_Order.f k t623 t624 t625 t626).bind fun bt627 => ((grids_Reduce.f k 5 7 10).bind fun bt629 => (if t588 = 0 then (if t596 = 0 then (if t606 = 0 then (if t610 = 0 then (if t621 = 0 then (if bt627.2 = 0 then (torchonlaw06_awake.j0 k t587 t595 t605 t607 bt627.1 (bt629.2.2.2.2.2.2.2 != 0) t619 t620 bt629.1 bt629.2.1 bt629.2.2.1 bt629.2.2.2.1 bt629.2.2.2.2.1 bt629.2.2.2.2.2.1 bt629.2.2.2.2.2.2.1) else (torchonlaw06_awake.j0 k t587 t595 t605 t607 bt627.1 true t619 t620 bt629.1 bt629.2.1 bt629.2.2.1 bt629.2.2.2.1 bt629.2.2.2.2.1 bt629.2.2.2.2.2.1 bt629.2.2.2.2.2.2.1)) else (torchonlaw06_awake.j0 k t587 t595 t605 t607 bt627.1 true t619 t620 bt629.1 bt629.2.1 bt629.2.2.1 bt629.2.2.2.1 bt629.2.2.2.2.1 bt629.2.2.2.2.2.1 bt629.2.2.2.2.2.2.1)) else (torchonlaw06_awake.j0 k t587 t595 t605 t607 bt627.1 true t619 t620 bt629.1 bt629.2.1 bt629.2.2.1 bt629.2.2.2.1 bt629.2.2.2.2.1 bt629.2.2.2.2.2.1 bt629.2.2.2.2.2.2.1)) else (torchonlaw06_awake.j0 k t587 t595 t605 t607 bt627.1 true t619 t620 bt629.1 bt629.2.1 bt629.2.2.1 bt629.2.2.2.1 bt629.2.2.2.2.1 bt629.2.2.2.2.2.1 bt629.2.2.2.2.2.2.1)) else (torchonlaw06_awake.j0 k t587 t595 t605 t607 bt627.1 true t619 t620 bt629.1 bt629.2.1 bt629.2.2.1 bt629.2.2.2.1 bt629.2.2.2.2.1 bt629.2.2.2.2.2.1 bt629.2.2.2.2.2.2.1)) else (torchonlaw06_awake.j0 k t587 t595 t605 t607 bt627.1 true t619 t620 bt629.1 bt629.2.1 bt629.2.2.1 bt629.2.2.2.1 bt629.2.2.2.2.1 bt629.2.2.2.2.2.1 bt629.2.2.2.2.2.2.1)))) = some r := H
  have A18 := Aside0.mk A180
  clear A180
  replace H := Option.bind_eq_some_iff.mp H
  obtain ⟨⟨t627, t628⟩, A190, H⟩ := H
  replace H : ((grids_Reduce.f k 5 7 10).bind fun bt629 => (if t588 = 0 then (if t596 = 0 then (if t606 = 0 then (if t610 = 0 then (if t621 = 0 then (if t628 = 0 then (torchonlaw06_awake.j0 k t587 t595 t605 t607 t627 (bt629.2.2.2.2.2.2.2 != 0) t619 t620 bt629.1 bt629.2.1 bt629.2.2.1 bt629.2.2.2.1 bt629.2.2.2.2.1 bt629.2.2.2.2.2.1 bt629.2.2.2.2.2.2.1) else (torchonlaw06_awake.j0 k t587 t595 t605 t607 t627 true t619 t620 bt629.1 bt629.2.1 bt629.2.2.1 bt629.2.2.2.1 bt629.2.2.2.2.1 bt629.2.2.2.2.2.1 bt629.2.2.2.2.2.2.1)) else (torchonlaw06_awake.j0 k t587 t595 t605 t607 t627 true t619 t620 bt629.1 bt629.2.1 bt629.2.2.1 bt629.2.2.2.1 bt629.2.2.2.2.1 bt629.2.2.2.2.2.1 bt629.2.2.2.2.2.2.1)) else (torchonlaw06_awake.j0 k t587 t595 t605 t607 t627 true t619 t620 bt629.1 bt629.2.1 bt629.2.2.1 bt629.2.2.2.1 bt629.2.2.2.2.1 bt629.2.2.2.2.2.1 bt629.2.2.2.2.2.2.1)) else (torchonlaw06_awake.j0 k t587 t595 t605 t607 t627 true t619 t620 bt629.1 bt629.2.1 bt629.2.2.1 bt629.2.2.2.1 bt629.2.2.2.2.1 bt629.2.2.2.2.2.1 bt629.2.2.2.2.2.2.1)) else (torchonlaw06_awake.j0 k t587 t595 t605 t607 t627 true t619 t620 bt629.1 bt629.2.1 bt629.2.2.1 bt629.2.2.2.1 bt629.2.2.2.2.1 bt629.2.2.2.2.2.1 bt629.2.2.2.2.2.2.1)) else (torchonlaw06_awake.j0 k t587 t595 t605 t607 t627 true t619 t620 bt629.1 bt629.2.1 bt629.2.2.1 bt629.2.2.2.1 bt629.2.2.2.2.1 bt629.2.2.2.2.2.1 bt629.2.2.2.2.2.2.1))) = some r := H
  have A19 := Aside0.mk A190
  clear A190
  replace H := Option.bind_eq_some_iff.mp H
  obtain ⟨⟨t629, t630, t631, t632, t633, t634, t635, t636⟩, A200, H⟩ := H
  replace H : (if t588 = 0 then (if t596 = 0 then (if t606 = 0 then (if t610 = 0 then (if t621 = 0 then (if t628 = 0 then (torchonlaw06_awake.j0 k t587 t595 t605 t607 t627 (t636 != 0) t619 t620 t629 t630 t631 t632 t633 t634 t635) else (torchonlaw06_awake.j0 k t587 t595 t605 t607 t627 true t619 t620 t629 t630 t631 t632 t633 t634 t635)) else (torchonlaw06_awake.j0 k t587 t595 t605 t607 t627 true t619 t620 t629 t630 t631 t632 t633 t634 t635)) else (torchonlaw06_awake.j0 k t587 t595 t605 t607 t627 true t619 t620 t629 t630 t631 t632 t633 t634 t635)) else (torchonlaw06_awake.j0 k t587 t595 t605 t607 t627 true t619 t620 t629 t630 t631 t632 t633 t634 t635)) else (torchonlaw06_awake.j0 k t587 t595 t605 t607 t627 true t619 t620 t629 t630 t631 t632 t633 t634 t635)) else (torchonlaw06_awake.j0 k t587 t595 t605 t607 t627 true t619 t620 t629 t630 t631 t632 t633 t634 t635)) = some r := H
  have A20 := Aside0.mk A200
  clear A200
  have HC21 := Aside0.mk H
  clear H
  go_enter Try.func13, Try.ntmps13
  try go_wp2_with (first | ((with_reducible refine gate_dst (N := 1) rfl ?_); (try (refine gate_guard (by rfl) ?_; dsimp only)); refine box_event ?hg (N := 1) ?hd (cs := #[.int .i64 0, .int .i64 0, .int .i64 0]) (t := 23) ?hr ?_; (case hd => rfl); (case hg => rfl); (case hr => first | (go_simp; done) | (go_simp; rfl)); intro gb582 hg w22 hbox hb; have BK582 := Aside0.mk (hbox); have GW582 := Aside0.mk ((by rw [hg]; exact (below_size (bnow HB)) : w.heap.size ≤ gb582)); have GE582 := Aside0.mk ((by rw [hg]; exact (below_size (bnow HB)) : w.heap.size ≤ gb582)); replace HB := bst HB hb; clear hb hbox hg; have hcz23_0 : w22.cell? ⟨gb582, 0, none⟩ = some (.int .i64 0) := (blk_cell BK582.out 0).trans rfl; have hcz23_1 : w22.cell? ⟨gb582, 1, none⟩ = some (.int .i64 0) := (blk_cell BK582.out 1).trans rfl; have hcz23_2 : w22.cell? ⟨gb582, 2, none⟩ = some (.int .i64 0) := (blk_cell BK582.out 2).trans rfl; have hfz23_0 := blk_frozen BK582.out 0; have hfz23_1 := blk_frozen BK582.out 1; have hfz23_2 := blk_frozen BK582.out 2) | ((with_reducible refine gate_store (t := 23) (p := 1) rfl ?_); refine store_event (t := 23) (p := 1) (v := ?vo_w24) (w1 := (((w22.setCell ⟨gb582, 0, none⟩ (.int .i64 2)).setCell ⟨gb582, 1, none⟩ (.int .i64 1)).setCell ⟨gb582, 2, none⟩ (.int .i64 2))) ?hg ?ho ?hn ?hr ?_; (case ho => rfl); (case hg => rfl); (case hn => rfl); (case hr => first | (go_simp; done) | (go_simp; rfl)); intro w24 hw; have n0_ : Aside0 (w24.heap[gb582]? = some (.cells #[.int .i64 2, .int .i64 1, .int .i64 2] 23 (0, 0))) := ⟨(by rw [hw]; exact (by (with_reducible repeat (first | refine blk_drewN ?_ _ | refine blk_drew ?_ | refine blk_alloc ?_ _)); refine blk_put (cs := #[.int .i64 2, .int .i64 1, .int .i64 0]) ?_ 2 _ rfl; (with_reducible repeat (first | refine blk_drewN ?_ _ | refine blk_drew ?_ | refine blk_alloc ?_ _)); refine blk_put (cs := #[.int .i64 2, .int .i64 0, .int .i64 0]) ?_ 1 _ rfl; (with_reducible repeat (first | refine blk_drewN ?_ _ | refine blk_drew ?_ | refine blk_alloc ?_ _)); refine blk_put (cs := #[.int .i64 0, .int .i64 0, .int .i64 0]) ?_ 0 _ rfl; (with_reducible repeat (first | refine blk_drewN ?_ _ | refine blk_drew ?_ | refine blk_alloc ?_ _)); exact BK582.out))⟩; have n1_ : Aside0 (Below w.heap.size w w24) := ⟨(by rw [hw]; exact (bnow HB))⟩; clear hw; clear BK582; clear HB; have BK582 := n0_; have HB := n1_; clear n0_ n1_))
  have n0_ := Aside0.mk (blk_drew BK582.out)
  have n1_ := Aside0.mk (below_drew1 HB.out)
  clear BK582
  clear HB
  have BK582 := n0_
  have HB := n1_
  clear n0_ n1_
  refine start_ (n := 9) (S := fun w' => w'.cell? ⟨gb582, 0, none⟩ = some (.int .i64 2) ∧ w'.cell? ⟨gb582, 1, none⟩ = some (.int .i64 1) ∧ w'.cell? ⟨gb582, 2, none⟩ = some (.int .i64 2)) (ds := []) #[false, false, false, false, false, false, false, false, false] (by kernel_rfl) rfl rfl ⟨(blk_cell BK582.out 0).trans rfl, (blk_cell BK582.out 1).trans rfl, (blk_cell BK582.out 2).trans rfl⟩ (fun hHeld => ?_); refine with_tabW torchonlaw06_awake.tab2 torchonlaw06_awake.bits2 (fun HT_ HW_ => ?_)
  generalize w24.drew = w25 at BK582 HB hHeld ⊢
  refine take_ (i := 0) (N := some 19) (v := ?_) (a' := ?_) #[true, false, false, false, false, false, false, false, false] rfl rfl (take_ofW HT_.out HW_.out (by kernel_rfl)) (fun _ _ _ h => h) (Or.inl ⟨by rfl, ?_⟩) hHeld ?_ ?_
  rotate_left
  · rintro w' ⟨s0, s1, s2⟩
    go_simp
    with_reducible rfl
  rotate_left
  · simp only [Act.put, List.setIfInBounds_toArray, List.set_cons_zero, List.set_cons_succ, i64_w, i32_w]
    rfl
  refine one_ (i := 1) (N := some 20) #[true, true, false, false, false, false, false, false, false] rfl rfl (one_of HT_.out (by kernel_rfl)) (by decide) (fun K hK => ?_)
  refine goes_ Try.func19 (by kernel_rfl) rfl #[.int .i64 0, .int .i64 0] (by rfl) rfl rfl am ?_
  with_reducible refine (torchonlaw06_pt.calls 0 0 t583 t584 _ A1.out).mono ?_
  rintro e w26 ⟨rfl, hb⟩
  refine ⟨_, rfl, ?_⟩
  replace BK582 := bb BK582 hb
  replace HB := bst HB hb
  (try clear hb)
  (try clear hb2)
  (try clear hk)
  (try clear hi)
  refine hK.out _ _ ⟨(blk_cell BK582.out 0).trans rfl, (blk_cell BK582.out 1).trans rfl, (blk_cell BK582.out 2).trans rfl⟩ (fun hHeld => ?_)
  clear hK K
  refine norm_ (a' := ?_) ?_ ?_
  rotate_left
  · show Act.put _ (some 20) _ = _
    simp only [Act.put, List.setIfInBounds_toArray, List.set_cons_zero, List.set_cons_succ, i64_w, i32_w]
    rfl
  refine one_ (i := 2) (N := some 21) #[true, true, true, false, false, false, false, false, false] rfl rfl (one_of HT_.out (by kernel_rfl)) (by decide) (fun K hK => ?_)
  refine goes_ Try.func19 (by kernel_rfl) rfl #[.int .i64 1, .int .i64 1] (by rfl) rfl rfl am ?_
  with_reducible refine (torchonlaw06_pt.calls 1 1 t585 t586 _ A2.out).mono ?_
  rintro e w27 ⟨rfl, hb⟩
  refine ⟨_, rfl, ?_⟩
  replace BK582 := bb BK582 hb
  replace HB := bst HB hb
  (try clear hb)
  (try clear hb2)
  (try clear hk)
  (try clear hi)
  refine hK.out _ _ ⟨(blk_cell BK582.out 0).trans rfl, (blk_cell BK582.out 1).trans rfl, (blk_cell BK582.out 2).trans rfl⟩ (fun hHeld => ?_)
  clear hK K
  refine norm_ (a' := ?_) ?_ ?_
  rotate_left
  · show Act.put _ (some 21) _ = _
    simp only [Act.put, List.setIfInBounds_toArray, List.set_cons_zero, List.set_cons_succ, i64_w, i32_w]
    rfl
  refine one_ (i := 3) (N := some 22) #[true, true, true, true, false, false, false, false, false] rfl rfl (one_of HT_.out (by kernel_rfl)) (by decide) (fun K hK => ?_)
  refine goes_ Try.func20 (by kernel_rfl) rfl #[.agg #[.int .i64 2, .int .i64 1, .int .i64 2], .agg #[.int .i64 t583, .int .i64 t584], .agg #[.int .i64 t585, .int .i64 t586]] (by rfl) rfl rfl am ?_
  with_reducible refine (grids_Square.calls k 2 1 2 t583 t584 t585 t586 t587 t588 _ A3.out).mono ?_
  rintro e w28 ⟨rfl, hb⟩
  refine ⟨_, rfl, ?_⟩
  replace BK582 := bb BK582 hb
  replace HB := bst HB hb
  (try clear hb)
  (try clear hb2)
  (try clear hk)
  (try clear hi)
  refine hK.out _ _ ⟨(blk_cell BK582.out 0).trans rfl, (blk_cell BK582.out 1).trans rfl, (blk_cell BK582.out 2).trans rfl⟩ (fun hHeld => ?_)
  clear hK K
  refine norm_ (a' := ?_) ?_ ?_
  rotate_left
  · show Act.put _ (some 22) _ = _
    simp only [Act.put, List.setIfInBounds_toArray, List.set_cons_zero, List.set_cons_succ, i64_w, i32_w]
    rfl
  refine pure_ (i := 4) (N := some 18) (v := ?_) (a' := ?_) #[true, true, true, true, true, false, false, false, false] rfl rfl (any_of HT_.out (by kernel_rfl)) (fun _ _ _ h => h) (Or.inl ⟨by rfl, ?_⟩) ?_ ?_
  rotate_left
  · intro w'
    go_simp
    with_reducible rfl
  rotate_left
  · simp only [Act.put, List.setIfInBounds_toArray, List.set_cons_zero, List.set_cons_succ, i64_w, i32_w]
    rfl
  refine pure_ (i := 5) (N := some 23) (v := ?_) (a' := ?_) #[true, true, true, true, true, true, false, false, false] rfl rfl (any_of HT_.out (by kernel_rfl)) (fun _ _ _ h => h) (Or.inl ⟨by rfl, ?_⟩) ?_ ?_
  rotate_left
  · intro w'
    go_simp
    with_reducible rfl
  rotate_left
  · simp only [Act.put, List.setIfInBounds_toArray, List.set_cons_zero, List.set_cons_succ, i64_w, i32_w]
    rfl
  refine pure_ (i := 6) (N := some 24) (v := ?_) (a' := ?_) #[true, true, true, true, true, true, true, false, false] rfl rfl (any_of HT_.out (by kernel_rfl)) (fun _ _ _ h => h) (Or.inl ⟨by rfl, ?_⟩) ?_ ?_
  rotate_left
  · intro w'
    go_simp
    with_reducible rfl
  rotate_left
  · simp only [Act.put, List.setIfInBounds_toArray, List.set_cons_zero, List.set_cons_succ, i64_w, i32_w]
    rfl
  refine pure_ (i := 7) (N := some 2) (v := ?_) (a' := ?_) #[true, true, true, true, true, true, true, true, false] rfl rfl (any_of HT_.out (by kernel_rfl)) (fun _ _ _ h => h) (Or.inl ⟨by rfl, ?_⟩) ?_ ?_
  rotate_left
  · intro w'
    go_simp
    with_reducible rfl
  rotate_left
  · simp only [Act.put, List.setIfInBounds_toArray, List.set_cons_zero, List.set_cons_succ, i64_w, i32_w]
    rfl
  refine pure_ (i := 8) (N := some 3) (v := ?_) (a' := ?_) #[true, true, true, true, true, true, true, true, true] rfl rfl (any_of HT_.out (by kernel_rfl)) (fun _ _ _ h => h) (Or.inl ⟨by rfl, ?_⟩) ?_ ?_
  rotate_left
  · intro w'
    go_simp
    with_reducible rfl
  rotate_left
  · simp only [Act.put, List.setIfInBounds_toArray, List.set_cons_zero, List.set_cons_succ, i64_w, i32_w]
    rfl
  refine done_ (done_of HT_.out (by kernel_rfl)) ?_
  go_upto_region 9 with (first | ((with_reducible refine gate_callee (f := 19) rfl ?_); refine goesL_ (some 26) rfl rfl Try.func19 (by kernel_rfl) rfl #[.int .i64 0, .int .i64 0] rfl am ?_; (with_reducible refine (torchonlaw06_pt.calls 0 0 t589 t590 _ A4.out).mono ?_); rintro e w29 ⟨rfl, hb⟩; refine ⟨_, rfl, ?_⟩; replace BK582 := bb BK582 hb; replace HB := bst HB hb; clear hb) | ((with_reducible refine gate_callee (f := 19) rfl ?_); refine goesL_ (some 27) rfl rfl Try.func19 (by kernel_rfl) rfl #[.int .i64 1, .int .i64 0] rfl am ?_; (with_reducible refine (torchonlaw06_pt.calls 1 0 t591 t592 _ A5.out).mono ?_); rintro e w30 ⟨rfl, hb⟩; refine ⟨_, rfl, ?_⟩; replace BK582 := bb BK582 hb; replace HB := bst HB hb; clear hb) | ((with_reducible refine gate_callee (f := 19) rfl ?_); refine goesL_ (some 28) rfl rfl Try.func19 (by kernel_rfl) rfl #[.int .i64 0, .int .i64 1] rfl am ?_; (with_reducible refine (torchonlaw06_pt.calls 0 1 t593 t594 _ A6.out).mono ?_); rintro e w31 ⟨rfl, hb⟩; refine ⟨_, rfl, ?_⟩; replace BK582 := bb BK582 hb; replace HB := bst HB hb; clear hb) | ((with_reducible refine gate_callee (f := 21) rfl ?_); refine goesL_ (some 29) rfl rfl Try.func21 (by kernel_rfl) rfl #[.agg #[.int .i64 t589, .int .i64 t590], .agg #[.int .i64 t591, .int .i64 t592], .agg #[.int .i64 t593, .int .i64 t594]] rfl am ?_; (with_reducible refine (grids_Side.calls k t589 t590 t591 t592 t593 t594 t595 t596 _ A7.out).mono ?_); rintro e w32 ⟨rfl, hb⟩; refine ⟨_, rfl, ?_⟩; replace BK582 := bb BK582 hb; replace HB := bst HB hb; clear hb) | ((with_reducible refine gate_callee (f := 19) rfl ?_); refine goesL_ (some 33) rfl rfl Try.func19 (by kernel_rfl) rfl #[.int .i64 0, .int .i64 0] rfl am ?_; (with_reducible refine (torchonlaw06_pt.calls 0 0 t597 t598 _ A8.out).mono ?_); rintro e w33 ⟨rfl, hb⟩; refine ⟨_, rfl, ?_⟩; replace BK582 := bb BK582 hb; replace HB := bst HB hb; clear hb) | ((with_reducible refine gate_callee (f := 19) rfl ?_); refine goesL_ (some 34) rfl rfl Try.func19 (by kernel_rfl) rfl #[.int .i64 1, .int .i64 0] rfl am ?_; (with_reducible refine (torchonlaw06_pt.calls 1 0 t599 t600 _ A9.out).mono ?_); rintro e w34 ⟨rfl, hb⟩; refine ⟨_, rfl, ?_⟩; replace BK582 := bb BK582 hb; replace HB := bst HB hb; clear hb) | ((with_reducible refine gate_callee (f := 19) rfl ?_); refine goesL_ (some 35) rfl rfl Try.func19 (by kernel_rfl) rfl #[.int .i64 1, .int .i64 (-1)] rfl am ?_; (with_reducible refine (torchonlaw06_pt.calls 1 (-1) t601 t602 _ A10.out).mono ?_); rintro e w35 ⟨rfl, hb⟩; refine ⟨_, rfl, ?_⟩; replace BK582 := bb BK582 hb; replace HB := bst HB hb; clear hb) | ((with_reducible refine gate_callee (f := 19) rfl ?_); refine goesL_ (some 36) rfl rfl Try.func19 (by kernel_rfl) rfl #[.int .i64 0, .int .i64 1] rfl am ?_; (with_reducible refine (torchonlaw06_pt.calls 0 1 t603 t604 _ A11.out).mono ?_); rintro e w36 ⟨rfl, hb⟩; refine ⟨_, rfl, ?_⟩; replace BK582 := bb BK582 hb; replace HB := bst HB hb; clear hb) | ((with_reducible refine gate_callee (f := 18) rfl ?_); refine goesL_ (some 37) rfl rfl Try.func18 (by kernel_rfl) rfl #[.agg #[.int .i64 t597, .int .i64 t598], .agg #[.int .i64 t599, .int .i64 t600], .agg #[.int .i64 t601, .int .i64 t602], .agg #[.int .i64 t603, .int .i64 t604]] rfl am ?_; (with_reducible refine (grids_Turn.calls k t597 t598 t599 t600 t601 t602 t603 t604 t605 t606 _ A12.out).mono ?_); rintro e w37 ⟨rfl, hb⟩; refine ⟨_, rfl, ?_⟩; replace BK582 := bb BK582 hb; replace HB := bst HB hb; clear hb; have hcz38_0 : w37.cell? ⟨gb582, 0, none⟩ = some (.int .i64 2) := (blk_cell BK582.out 0).trans rfl; have hcz38_1 : w37.cell? ⟨gb582, 1, none⟩ = some (.int .i64 1) := (blk_cell BK582.out 1).trans rfl; have hcz38_2 : w37.cell? ⟨gb582, 2, none⟩ = some (.int .i64 2) := (blk_cell BK582.out 2).trans rfl; have hfz38_0 := blk_frozen BK582.out 0; have hfz38_1 := blk_frozen BK582.out 1; have hfz38_2 := blk_frozen BK582.out 2) | ((with_reducible refine gate_callee (f := 22) rfl ?_); refine goesL_ (some 42) rfl rfl Try.func22 (by kernel_rfl) rfl #[.agg #[.int .i64 2, .int .i64 1, .int .i64 2]] rfl am ?_; (with_reducible refine (grids_Group.calls k 2 1 2 t607 t610 _ A13.out).mono ?_); rintro e w39 ⟨v608, rfl, ho0, hb⟩; refine ⟨_, rfl, ?_⟩; have HO609 := Aside0.mk (Kd.R_lower ho0 (below_size (bnow HB))); replace BK582 := bb BK582 hb; replace HB := bst HB hb; (try clear hb); (try clear hb2); (try clear hk); (try clear hi); (try clear ho0)) | ((with_reducible refine gate_callee (f := 17) rfl ?_); refine goesL_ (some 46) rfl rfl Try.func17 (by kernel_rfl) rfl #[.int .i64 0, .int .i64 (-1), .int .i64 1, .int .i64 0] rfl am ?_; (with_reducible refine (torchonlaw06_mat.calls 0 (-1) 1 0 t611 t612 t613 t614 _ A14.out).mono ?_); rintro e w40 ⟨rfl, hb⟩; refine ⟨_, rfl, ?_⟩; have n0_ := Aside0.mk (Kd.R_below (by (with_reducible repeat (first | apply Kd.R_alloc | apply Kd.R_drewN | apply Kd.R_drew)); exact HO609.out) hb); have n1_ := bb BK582 hb; have n2_ := bst HB hb; clear HO609; clear BK582; clear HB; have HO609 := n0_; have BK582 := n1_; have HB := n2_; clear n0_ n1_ n2_; (try clear hb); (try clear hb2); (try clear hk); (try clear hi)) | ((with_reducible refine gate_callee (f := 19) rfl ?_); refine goesL_ (some 47) rfl rfl Try.func19 (by kernel_rfl) rfl #[.int .i64 3, .int .i64 4] rfl am ?_; (with_reducible refine (torchonlaw06_pt.calls 3 4 t615 t616 _ A15.out).mono ?_); rintro e w41 ⟨rfl, hb⟩; refine ⟨_, rfl, ?_⟩; have n0_ := Aside0.mk (Kd.R_below (by (with_reducible repeat (first | apply Kd.R_alloc | apply Kd.R_drewN | apply Kd.R_drew)); exact HO609.out) hb); have n1_ := bb BK582 hb; have n2_ := bst HB hb; clear HO609; clear BK582; clear HB; have HO609 := n0_; have BK582 := n1_; have HB := n2_; clear n0_ n1_ n2_; (try clear hb); (try clear hb2); (try clear hk); (try clear hi)) | ((with_reducible refine gate_callee (f := 19) rfl ?_); refine goesL_ (some 49) rfl rfl Try.func19 (by kernel_rfl) rfl #[.int .i64 1, .int .i64 2] rfl am ?_; (with_reducible refine (torchonlaw06_pt.calls 1 2 t617 t618 _ A16.out).mono ?_); rintro e w42 ⟨rfl, hb⟩; refine ⟨_, rfl, ?_⟩; have n0_ := Aside0.mk (Kd.R_below (by (with_reducible repeat (first | apply Kd.R_alloc | apply Kd.R_drewN | apply Kd.R_drew)); exact HO609.out) hb); have n1_ := bb BK582 hb; have n2_ := bst HB hb; clear HO609; clear BK582; clear HB; have HO609 := n0_; have BK582 := n1_; have HB := n2_; clear n0_ n1_ n2_; (try clear hb); (try clear hb2); (try clear hk); (try clear hi)) | ((with_reducible refine gate_callee (f := 27) rfl ?_); refine goesL_ (some 50) rfl rfl Try.func27 (by kernel_rfl) rfl #[.agg #[.int .i64 t611, .int .i64 t612, .int .i64 t613, .int .i64 t614, .int .i64 t615, .int .i64 t616], .agg #[.int .i64 t617, .int .i64 t618]] rfl am ?_; (with_reducible refine (grids_Apply.calls k t611 t612 t613 t614 t615 t616 t617 t618 t619 t620 t621 _ A17.out).mono ?_); rintro e w43 ⟨rfl, hb⟩; refine ⟨_, rfl, ?_⟩; have n0_ := Aside0.mk (Kd.R_below (by (with_reducible repeat (first | apply Kd.R_alloc | apply Kd.R_drewN | apply Kd.R_drew)); exact HO609.out) hb); have n1_ := bb BK582 hb; have n2_ := bst HB hb; clear HO609; clear BK582; clear HB; have HO609 := n0_; have BK582 := n1_; have HB := n2_; clear n0_ n1_ n2_; (try clear hb); (try clear hb2); (try clear hk); (try clear hi)) | ((with_reducible refine gate_dst (N := 10) rfl ?_); (try (refine gate_guard (by rfl) ?_; dsimp only)); refine box_event ?hg (N := 10) ?hd (cs := #[.int .i64 0, .int .i64 0]) (t := 37) ?hr ?_; (case hd => rfl); (case hg => rfl); (case hr => first | (go_simp; done) | (go_simp; rfl)); intro gb622 hg w44 hbox hb; have n0_ := Aside0.mk (Kd.R_below (by (with_reducible repeat (first | apply Kd.R_alloc | apply Kd.R_drewN | apply Kd.R_drew)); exact HO609.out) hb); have n1_ := bb BK582 hb; have n2_ := bst HB hb; have n3_ := Aside0.mk (hbox); have n4_ := Aside0.mk ((by rw [hg]; exact (below_size (bnow HB)) : w.heap.size ≤ gb622)); have n5_ := Aside0.mk ((by rw [hg]; exact (below_size (bnow HB)) : w.heap.size ≤ gb622)); have n6_ := Aside0.mk ((by rw [hg]; exact Nat.ne_of_lt (blk_lt (g := gb582) (o := .cells #[.int .i64 2, .int .i64 1, .int .i64 2] 23 (0, 0)) (pk BK582)) : gb582 ≠ gb622)); have n7_ := Aside0.mk ((by rw [hg]; exact Nat.ne_of_gt (blk_lt (g := gb582) (o := .cells #[.int .i64 2, .int .i64 1, .int .i64 2] 23 (0, 0)) (pk BK582)) : gb622 ≠ gb582)); clear HO609; clear BK582; clear HB; have HO609 := n0_; have BK582 := n1_; have HB := n2_; have BK622 := n3_; have GW622 := n4_; have GE622 := n5_; have NB582_622 := n6_; have NB622_582 := n7_; clear n0_ n1_ n2_ n3_ n4_ n5_ n6_ n7_; clear hb hbox hg; have hnb45 := NB622_582.out; have hnc45 := NB582_622.out; have hcz46_0 : w44.cell? ⟨gb622, 0, none⟩ = some (.int .i64 0) := (blk_cell BK622.out 0).trans rfl; have hcz46_1 : w44.cell? ⟨gb622, 1, none⟩ = some (.int .i64 0) := (blk_cell BK622.out 1).trans rfl; have hfz46_0 := blk_frozen BK622.out 0; have hfz46_1 := blk_frozen BK622.out 1) | ((with_reducible refine gate_callee (f := 17) rfl ?_); refine goesL_ (some 54) rfl rfl Try.func17 (by kernel_rfl) rfl #[.int .i64 1, .int .i64 (-1), .int .i64 1, .int .i64 0] rfl am ?_; (with_reducible refine (torchonlaw06_mat.calls 1 (-1) 1 0 t623 t624 t625 t626 _ A18.out).mono ?_); rintro e w47 ⟨rfl, hb⟩; refine ⟨_, rfl, ?_⟩; have n0_ := Aside0.mk (Kd.R_below (by (with_reducible repeat (first | apply Kd.R_alloc | apply Kd.R_drewN | apply Kd.R_drew)); exact (Kd.R_mono (Kd.R_far (p := ⟨gb622, 1, none⟩) (Kd.R_far (p := ⟨gb622, 0, none⟩) (Kd.R_types HO609.out BK622.out (by decide)) (fun _ hk => hk.2) (.int .i64 t619)) (fun _ hk => hk.2) (.int .i64 t620)) (fun _ h_ => h_.1))) hb); have n1_ := Aside0.mk (blk_below (g := gb582) (o := .cells #[.int .i64 2, .int .i64 1, .int .i64 2] 23 (0, 0)) (by (with_reducible repeat (first | refine blk_drewN ?_ _ | refine blk_drew ?_ | refine blk_alloc ?_ _)); refine blk_far ?_ NB582_622.out _; (with_reducible repeat (first | refine blk_drewN ?_ _ | refine blk_drew ?_ | refine blk_alloc ?_ _)); refine blk_far ?_ NB582_622.out _; (with_reducible repeat (first | refine blk_drewN ?_ _ | refine blk_drew ?_ | refine blk_alloc ?_ _)); exact BK582.out) hb); have n2_ := Aside0.mk (blk_below (g := gb622) (o := .cells #[.int .i64 t619, .int .i64 t620] 37 (0, 0)) (by (with_reducible repeat (first | refine blk_drewN ?_ _ | refine blk_drew ?_ | refine blk_alloc ?_ _)); refine blk_put (cs := #[.int .i64 t619, .int .i64 0]) ?_ 1 _ rfl; (with_reducible repeat (first | refine blk_drewN ?_ _ | refine blk_drew ?_ | refine blk_alloc ?_ _)); refine blk_put (cs := #[.int .i64 0, .int .i64 0]) ?_ 0 _ rfl; (with_reducible repeat (first | refine blk_drewN ?_ _ | refine blk_drew ?_ | refine blk_alloc ?_ _)); exact BK622.out) hb); have n3_ := bst HB hb; clear HO609; clear BK582; clear BK622; clear HB; have HO609 := n0_; have BK582 := n1_; have BK622 := n2_; have HB := n3_; clear n0_ n1_ n2_ n3_; (try clear hb); (try clear hb2); (try clear hk); (try clear hi)) | ((with_reducible refine gate_callee (f := 33) rfl ?_); refine goesL_ (some 55) rfl rfl Try.func33 (by kernel_rfl) rfl #[.agg #[.int .i64 t623, .int .i64 t624, .int .i64 t625, .int .i64 t626]] rfl am ?_; (with_reducible refine (grids_Order.calls k t623 t624 t625 t626 t627 t628 _ A19.out).mono ?_); rintro e w48 ⟨rfl, hb⟩; refine ⟨_, rfl, ?_⟩; have n0_ := Aside0.mk (Kd.R_below (by (with_reducible repeat (first | apply Kd.R_alloc | apply Kd.R_drewN | apply Kd.R_drew)); exact HO609.out) hb); have n1_ := bb BK582 hb; have n2_ := bb BK622 hb; have n3_ := bst HB hb; clear HO609; clear BK582; clear BK622; clear HB; have HO609 := n0_; have BK582 := n1_; have BK622 := n2_; have HB := n3_; clear n0_ n1_ n2_ n3_; (try clear hb); (try clear hb2); (try clear hk); (try clear hi)) | ((with_reducible refine gate_callee (f := 11) rfl ?_); refine goesL_ (some 60) rfl rfl Try.func11 (by kernel_rfl) rfl #[.agg #[.int .i64 5, .int .i64 7, .int .i64 10]] rfl am ?_; (with_reducible refine (grids_Reduce.calls k 5 7 10 t629 t630 t631 t632 t633 t634 t635 t636 _ A20.out).mono ?_); rintro e w49 ⟨rfl, hb⟩; refine ⟨_, rfl, ?_⟩; have n0_ := Aside0.mk (Kd.R_below (by (with_reducible repeat (first | apply Kd.R_alloc | apply Kd.R_drewN | apply Kd.R_drew)); exact HO609.out) hb); have n1_ := bb BK582 hb; have n2_ := bb BK622 hb; have n3_ := bst HB hb; clear HO609; clear BK582; clear BK622; clear HB; have HO609 := n0_; have BK582 := n1_; have BK622 := n2_; have HB := n3_; clear n0_ n1_ n2_ n3_; (try clear hb); (try clear hb2); (try clear hk); (try clear hi)) | ((with_reducible refine gate_dst (N := 14) rfl ?_); (try (refine gate_guard (by rfl) ?_; dsimp only)); refine box_event ?hg (N := 14) ?hd (cs := #[.int .i64 0, .int .i64 0, .int .i64 0]) (t := 23) ?hr ?_; (case hd => rfl); (case hg => rfl); (case hr => first | (go_simp; done) | (go_simp; rfl)); intro gb637 hg w50 hbox hb; have n0_ := Aside0.mk (Kd.R_below (by (with_reducible repeat (first | apply Kd.R_alloc | apply Kd.R_drewN | apply Kd.R_drew)); exact HO609.out) hb); have n1_ := bb BK582 hb; have n2_ := bb BK622 hb; have n3_ := bst HB hb; have n4_ := Aside0.mk (hbox); have n5_ := Aside0.mk ((by rw [hg]; exact (below_size (bnow HB)) : w.heap.size ≤ gb637)); have n6_ := Aside0.mk ((by rw [hg]; exact (below_size (bnow HB)) : w.heap.size ≤ gb637)); have n7_ := Aside0.mk ((by rw [hg]; exact Nat.ne_of_lt (blk_lt (g := gb582) (o := .cells #[.int .i64 2, .int .i64 1, .int .i64 2] 23 (0, 0)) (pk BK582)) : gb582 ≠ gb637)); have n8_ := Aside0.mk ((by rw [hg]; exact Nat.ne_of_gt (blk_lt (g := gb582) (o := .cells #[.int .i64 2, .int .i64 1, .int .i64 2] 23 (0, 0)) (pk BK582)) : gb637 ≠ gb582)); have n9_ := Aside0.mk ((by rw [hg]; exact Nat.ne_of_lt (blk_lt (g := gb622) (o := .cells #[.int .i64 t619, .int .i64 t620] 37 (0, 0)) (pk BK622)) : gb622 ≠ gb637)); have n10_ := Aside0.mk ((by rw [hg]; exact Nat.ne_of_gt (blk_lt (g := gb622) (o := .cells #[.int .i64 t619, .int .i64 t620] 37 (0, 0)) (pk BK622)) : gb637 ≠ gb622)); clear HO609; clear BK582; clear BK622; clear HB; have HO609 := n0_; have BK582 := n1_; have BK622 := n2_; have HB := n3_; have BK637 := n4_; have GW637 := n5_; have GE637 := n6_; have NB582_637 := n7_; have NB637_582 := n8_; have NB622_637 := n9_; have NB637_622 := n10_; clear n0_ n1_ n2_ n3_ n4_ n5_ n6_ n7_ n8_ n9_ n10_; clear hb hbox hg) | ((with_reducible refine gate_dst (N := 15) rfl ?_); (try (refine gate_guard (by rfl) ?_; dsimp only)); refine box_event ?hg (N := 15) ?hd (cs := #[.int .i64 0, .int .i64 0, .int .i64 0, .int .i64 0]) (t := 25) ?hr ?_; (case hd => rfl); (case hg => rfl); (case hr => first | (go_simp; done) | (go_simp; rfl)); intro gb638 hg w51 hbox hb; have n0_ := Aside0.mk (Kd.R_below (Kd.R_elderB (by (with_reducible repeat (first | apply Kd.R_alloc | apply Kd.R_drewN | apply Kd.R_drew)); exact HO609.out) gb638 (Nat.le_of_eq hg.symm)) hb); have n1_ := bb BK582 hb; have n2_ := bb BK622 hb; have n3_ := bb BK637 hb; have n4_ := bst HB hb; have n5_ := Aside0.mk (hbox); have n6_ := Aside0.mk ((by rw [hg]; exact (below_size (bnow HB)) : w.heap.size ≤ gb638)); have n7_ := Aside0.mk ((by rw [hg]; exact (below_size (bnow HB)) : w.heap.size ≤ gb638)); have n8_ := Aside0.mk ((by rw [hg]; exact Nat.ne_of_lt (blk_lt (g := gb582) (o := .cells #[.int .i64 2, .int .i64 1, .int .i64 2] 23 (0, 0)) (pk BK582)) : gb582 ≠ gb638)); have n9_ := Aside0.mk ((by rw [hg]; exact Nat.ne_of_gt (blk_lt (g := gb582) (o := .cells #[.int .i64 2, .int .i64 1, .int .i64 2] 23 (0, 0)) (pk BK582)) : gb638 ≠ gb582)); have n10_ := Aside0.mk ((by rw [hg]; exact Nat.ne_of_lt (blk_lt (g := gb622) (o := .cells #[.int .i64 t619, .int .i64 t620] 37 (0, 0)) (pk BK622)) : gb622 ≠ gb638)); have n11_ := Aside0.mk ((by rw [hg]; exact Nat.ne_of_gt (blk_lt (g := gb622) (o := .cells #[.int .i64 t619, .int .i64 t620] 37 (0, 0)) (pk BK622)) : gb638 ≠ gb622)); have n12_ := Aside0.mk ((by rw [hg]; exact Nat.ne_of_lt (blk_lt (g := gb637) (o := .cells #[.int .i64 0, .int .i64 0, .int .i64 0] 23 (0, 0)) (pk BK637)) : gb637 ≠ gb638)); have n13_ := Aside0.mk ((by rw [hg]; exact Nat.ne_of_gt (blk_lt (g := gb637) (o := .cells #[.int .i64 0, .int .i64 0, .int .i64 0] 23 (0, 0)) (pk BK637)) : gb638 ≠ gb637)); clear HO609; clear BK582; clear BK622; clear BK637; clear HB; have HO609 := n0_; have BK582 := n1_; have BK622 := n2_; have BK637 := n3_; have HB := n4_; have BK638 := n5_; have GW638 := n6_; have GE638 := n7_; have NB582_638 := n8_; have NB638_582 := n9_; have NB622_638 := n10_; have NB638_622 := n11_; have NB637_638 := n12_; have NB638_637 := n13_; clear n0_ n1_ n2_ n3_ n4_ n5_ n6_ n7_ n8_ n9_ n10_ n11_ n12_ n13_; clear hb hbox hg; have hnb52 := NB637_582.out; have hnc52 := NB582_637.out; have hnb53 := NB637_622.out; have hnc53 := NB622_637.out; have hnb54 := NB637_638.out; have hnc54 := NB638_637.out; have hcz55_0 : w51.cell? ⟨gb637, 0, none⟩ = some (.int .i64 0) := (blk_cell BK637.out 0).trans rfl; have hcz55_1 : w51.cell? ⟨gb637, 1, none⟩ = some (.int .i64 0) := (blk_cell BK637.out 1).trans rfl; have hcz55_2 : w51.cell? ⟨gb637, 2, none⟩ = some (.int .i64 0) := (blk_cell BK637.out 2).trans rfl; have hfz55_0 := blk_frozen BK637.out 0; have hfz55_1 := blk_frozen BK637.out 1; have hfz55_2 := blk_frozen BK637.out 2) | ((with_reducible refine gate_store (t := 23) (p := 14) rfl ?_); refine store_event (t := 23) (p := 14) (v := ?vo_w56) (w1 := (((w51.setCell ⟨gb637, 0, none⟩ (.int .i64 t629)).setCell ⟨gb637, 1, none⟩ (.int .i64 t630)).setCell ⟨gb637, 2, none⟩ (.int .i64 t631))) ?hg ?ho ?hn ?hr ?_; (case ho => rfl); (case hg => rfl); (case hn => rfl); (case hr => first | (go_simp; done) | (go_simp; rfl)); intro w56 hw; have n0_ : Aside0 (Kd.R k25 25 w56 w.heap.size (fun k_ => k_ ≠ gb638) v608 t607) := ⟨(by rw [hw]; exact (by (with_reducible repeat (first | apply Kd.R_alloc | apply Kd.R_drewN | apply Kd.R_drew)); exact Kd.R_mono (Kd.R_far (p := ⟨gb637, 2, none⟩) (Kd.R_far (p := ⟨gb637, 1, none⟩) (Kd.R_far (p := ⟨gb637, 0, none⟩) (Kd.R_types HO609.out BK637.out (by decide)) (fun _ hk => hk.2) (.int .i64 t629)) (fun _ hk => hk.2) (.int .i64 t630)) (fun _ hk => hk.2) (.int .i64 t631)) (fun _ hk => hk.1.2)))⟩; have n1_ : Aside0 (w56.heap[gb582]? = some (.cells #[.int .i64 2, .int .i64 1, .int .i64 2] 23 (0, 0))) := ⟨(by rw [hw]; exact (by (with_reducible repeat (first | refine blk_drewN ?_ _ | refine blk_drew ?_ | refine blk_alloc ?_ _)); refine blk_far ?_ NB582_637.out _; (with_reducible repeat (first | refine blk_drewN ?_ _ | refine blk_drew ?_ | refine blk_alloc ?_ _)); refine blk_far ?_ NB582_637.out _; (with_reducible repeat (first | refine blk_drewN ?_ _ | refine blk_drew ?_ | refine blk_alloc ?_ _)); refine blk_far ?_ NB582_637.out _; (with_reducible repeat (first | refine blk_drewN ?_ _ | refine blk_drew ?_ | refine blk_alloc ?_ _)); exact BK582.out))⟩; have n2_ : Aside0 (w56.heap[gb622]? = some (.cells #[.int .i64 t619, .int .i64 t620] 37 (0, 0))) := ⟨(by rw [hw]; exact (by (with_reducible repeat (first | refine blk_drewN ?_ _ | refine blk_drew ?_ | refine blk_alloc ?_ _)); refine blk_far ?_ NB622_637.out _; (with_reducible repeat (first | refine blk_drewN ?_ _ | refine blk_drew ?_ | refine blk_alloc ?_ _)); refine blk_far ?_ NB622_637.out _; (with_reducible repeat (first | refine blk_drewN ?_ _ | refine blk_drew ?_ | refine blk_alloc ?_ _)); refine blk_far ?_ NB622_637.out _; (with_reducible repeat (first | refine blk_drewN ?_ _ | refine blk_drew ?_ | refine blk_alloc ?_ _)); exact BK622.out))⟩; have n3_ : Aside0 (w56.heap[gb637]? = some (.cells #[.int .i64 t629, .int .i64 t630, .int .i64 t631] 23 (0, 0))) := ⟨(by rw [hw]; exact (by (with_reducible repeat (first | refine blk_drewN ?_ _ | refine blk_drew ?_ | refine blk_alloc ?_ _)); refine blk_put (cs := #[.int .i64 t629, .int .i64 t630, .int .i64 0]) ?_ 2 _ rfl; (with_reducible repeat (first | refine blk_drewN ?_ _ | refine blk_drew ?_ | refine blk_alloc ?_ _)); refine blk_put (cs := #[.int .i64 t629, .int .i64 0, .int .i64 0]) ?_ 1 _ rfl; (with_reducible repeat (first | refine blk_drewN ?_ _ | refine blk_drew ?_ | refine blk_alloc ?_ _)); refine blk_put (cs := #[.int .i64 0, .int .i64 0, .int .i64 0]) ?_ 0 _ rfl; (with_reducible repeat (first | refine blk_drewN ?_ _ | refine blk_drew ?_ | refine blk_alloc ?_ _)); exact BK637.out))⟩; have n4_ : Aside0 (w56.heap[gb638]? = some (.cells #[.int .i64 0, .int .i64 0, .int .i64 0, .int .i64 0] 25 (0, 0))) := ⟨(by rw [hw]; exact (by (with_reducible repeat (first | refine blk_drewN ?_ _ | refine blk_drew ?_ | refine blk_alloc ?_ _)); refine blk_far ?_ NB638_637.out _; (with_reducible repeat (first | refine blk_drewN ?_ _ | refine blk_drew ?_ | refine blk_alloc ?_ _)); refine blk_far ?_ NB638_637.out _; (with_reducible repeat (first | refine blk_drewN ?_ _ | refine blk_drew ?_ | refine blk_alloc ?_ _)); refine blk_far ?_ NB638_637.out _; (with_reducible repeat (first | refine blk_drewN ?_ _ | refine blk_drew ?_ | refine blk_alloc ?_ _)); exact BK638.out))⟩; have n5_ : Aside0 (Below w.heap.size w w56) := ⟨(by rw [hw]; exact (bnow HB))⟩; clear hw; clear HO609; clear BK582; clear BK622; clear BK637; clear BK638; clear HB; have HO609 := n0_; have BK582 := n1_; have BK622 := n2_; have BK637 := n3_; have BK638 := n4_; have HB := n5_; clear n0_ n1_ n2_ n3_ n4_ n5_; have hnb57 := NB638_582.out; have hnc57 := NB582_638.out; have hnb58 := NB638_622.out; have hnc58 := NB622_638.out; have hcz59_0 : w56.cell? ⟨gb638, 0, none⟩ = some (.int .i64 0) := (blk_cell BK638.out 0).trans rfl; have hcz59_1 : w56.cell? ⟨gb638, 1, none⟩ = some (.int .i64 0) := (blk_cell BK638.out 1).trans rfl; have hcz59_2 : w56.cell? ⟨gb638, 2, none⟩ = some (.int .i64 0) := (blk_cell BK638.out 2).trans rfl; have hcz59_3 : w56.cell? ⟨gb638, 3, none⟩ = some (.int .i64 0) := (blk_cell BK638.out 3).trans rfl; have hfz59_0 := blk_frozen BK638.out 0; have hfz59_1 := blk_frozen BK638.out 1; have hfz59_2 := blk_frozen BK638.out 2; have hfz59_3 := blk_frozen BK638.out 3) | ((with_reducible refine gate_store (t := 25) (p := 15) rfl ?_); refine store_event (t := 25) (p := 15) (v := ?vo_w60) (w1 := ((((w56.setCell ⟨gb638, 0, none⟩ (.int .i64 t632)).setCell ⟨gb638, 1, none⟩ (.int .i64 t633)).setCell ⟨gb638, 2, none⟩ (.int .i64 t634)).setCell ⟨gb638, 3, none⟩ (.int .i64 t635))) ?hg ?ho ?hn ?hr ?_; (case ho => rfl); (case hg => rfl); (case hn => rfl); (case hr => first | (go_simp; done) | (go_simp; rfl)); intro w60 hw; have n0_ : Aside0 (Kd.R k25 25 w60 w.heap.size (fun k_ => k_ ≠ gb638) v608 t607) := ⟨(by rw [hw]; exact (by (with_reducible repeat (first | apply Kd.R_alloc | apply Kd.R_drewN | apply Kd.R_drew)); exact Kd.R_mono (Kd.R_far (p := ⟨gb638, 3, none⟩) (Kd.R_far (p := ⟨gb638, 2, none⟩) (Kd.R_far (p := ⟨gb638, 1, none⟩) (Kd.R_far (p := ⟨gb638, 0, none⟩) (Kd.R_mono HO609.out (fun k_ hk => (⟨hk, hk⟩ : _ ∧ k_ ≠ gb638))) (fun _ hk => hk.2) (.int .i64 t632)) (fun _ hk => hk.2) (.int .i64 t633)) (fun _ hk => hk.2) (.int .i64 t634)) (fun _ hk => hk.2) (.int .i64 t635)) (fun _ hk => hk.1)))⟩; have n1_ : Aside0 (w60.heap[gb582]? = some (.cells #[.int .i64 2, .int .i64 1, .int .i64 2] 23 (0, 0))) := ⟨(by rw [hw]; exact (by (with_reducible repeat (first | refine blk_drewN ?_ _ | refine blk_drew ?_ | refine blk_alloc ?_ _)); refine blk_far ?_ NB582_638.out _; (with_reducible repeat (first | refine blk_drewN ?_ _ | refine blk_drew ?_ | refine blk_alloc ?_ _)); refine blk_far ?_ NB582_638.out _; (with_reducible repeat (first | refine blk_drewN ?_ _ | refine blk_drew ?_ | refine blk_alloc ?_ _)); refine blk_far ?_ NB582_638.out _; (with_reducible repeat (first | refine blk_drewN ?_ _ | refine blk_drew ?_ | refine blk_alloc ?_ _)); refine blk_far ?_ NB582_638.out _; (with_reducible repeat (first | refine blk_drewN ?_ _ | refine blk_drew ?_ | refine blk_alloc ?_ _)); exact BK582.out))⟩; have n2_ : Aside0 (w60.heap[gb622]? = some (.cells #[.int .i64 t619, .int .i64 t620] 37 (0, 0))) := ⟨(by rw [hw]; exact (by (with_reducible repeat (first | refine blk_drewN ?_ _ | refine blk_drew ?_ | refine blk_alloc ?_ _)); refine blk_far ?_ NB622_638.out _; (with_reducible repeat (first | refine blk_drewN ?_ _ | refine blk_drew ?_ | refine blk_alloc ?_ _)); refine blk_far ?_ NB622_638.out _; (with_reducible repeat (first | refine blk_drewN ?_ _ | refine blk_drew ?_ | refine blk_alloc ?_ _)); refine blk_far ?_ NB622_638.out _; (with_reducible repeat (first | refine blk_drewN ?_ _ | refine blk_drew ?_ | refine blk_alloc ?_ _)); refine blk_far ?_ NB622_638.out _; (with_reducible repeat (first | refine blk_drewN ?_ _ | refine blk_drew ?_ | refine blk_alloc ?_ _)); exact BK622.out))⟩; have n3_ : Aside0 (w60.heap[gb637]? = some (.cells #[.int .i64 t629, .int .i64 t630, .int .i64 t631] 23 (0, 0))) := ⟨(by rw [hw]; exact (by (with_reducible repeat (first | refine blk_drewN ?_ _ | refine blk_drew ?_ | refine blk_alloc ?_ _)); refine blk_far ?_ NB637_638.out _; (with_reducible repeat (first | refine blk_drewN ?_ _ | refine blk_drew ?_ | refine blk_alloc ?_ _)); refine blk_far ?_ NB637_638.out _; (with_reducible repeat (first | refine blk_drewN ?_ _ | refine blk_drew ?_ | refine blk_alloc ?_ _)); refine blk_far ?_ NB637_638.out _; (with_reducible repeat (first | refine blk_drewN ?_ _ | refine blk_drew ?_ | refine blk_alloc ?_ _)); refine blk_far ?_ NB637_638.out _; (with_reducible repeat (first | refine blk_drewN ?_ _ | refine blk_drew ?_ | refine blk_alloc ?_ _)); exact BK637.out))⟩; have n4_ : Aside0 (w60.heap[gb638]? = some (.cells #[.int .i64 t632, .int .i64 t633, .int .i64 t634, .int .i64 t635] 25 (0, 0))) := ⟨(by rw [hw]; exact (by (with_reducible repeat (first | refine blk_drewN ?_ _ | refine blk_drew ?_ | refine blk_alloc ?_ _)); refine blk_put (cs := #[.int .i64 t632, .int .i64 t633, .int .i64 t634, .int .i64 0]) ?_ 3 _ rfl; (with_reducible repeat (first | refine blk_drewN ?_ _ | refine blk_drew ?_ | refine blk_alloc ?_ _)); refine blk_put (cs := #[.int .i64 t632, .int .i64 t633, .int .i64 0, .int .i64 0]) ?_ 2 _ rfl; (with_reducible repeat (first | refine blk_drewN ?_ _ | refine blk_drew ?_ | refine blk_alloc ?_ _)); refine blk_put (cs := #[.int .i64 t632, .int .i64 0, .int .i64 0, .int .i64 0]) ?_ 1 _ rfl; (with_reducible repeat (first | refine blk_drewN ?_ _ | refine blk_drew ?_ | refine blk_alloc ?_ _)); refine blk_put (cs := #[.int .i64 0, .int .i64 0, .int .i64 0, .int .i64 0]) ?_ 0 _ rfl; (with_reducible repeat (first | refine blk_drewN ?_ _ | refine blk_drew ?_ | refine blk_alloc ?_ _)); exact BK638.out))⟩; have n5_ : Aside0 (Below w.heap.size w w60) := ⟨(by rw [hw]; exact (bnow HB))⟩; clear hw; clear HO609; clear BK582; clear BK622; clear BK637; clear BK638; clear HB; have HO609 := n0_; have BK582 := n1_; have BK622 := n2_; have BK637 := n3_; have BK638 := n4_; have HB := n5_; clear n0_ n1_ n2_ n3_ n4_ n5_))
  (try simp only [Act.put, List.setIfInBounds_toArray, List.set_cons_zero, List.set_cons_succ])
  go_cut [89] (fun v89 wc => ∃ (kq : Nat) (x89_20 : Bool), v89 = .bool x89_20 ∧ Aside0 (torchonlaw06_awake.j0 kq t587 t595 t605 t607 t627 x89_20 t619 t620 t629 t630 t631 t632 t633 t634 t635 = some r) ∧ Aside0 (kq ≤ k) ∧ Aside0 (Kd.R k25 25 wc w.heap.size (fun k_ => k_ ≠ gb638) v608 t607) ∧ Aside0 (wc.heap[gb582]? = some (.cells #[.int .i64 2, .int .i64 1, .int .i64 2] 23 (0, 0))) ∧ Aside0 (wc.heap[gb622]? = some (.cells #[.int .i64 t619, .int .i64 t620] 37 (0, 0))) ∧ Aside0 (wc.heap[gb637]? = some (.cells #[.int .i64 t629, .int .i64 t630, .int .i64 t631] 23 (0, 0))) ∧ Aside0 (wc.heap[gb638]? = some (.cells #[.int .i64 t632, .int .i64 t633, .int .i64 t634, .int .i64 t635] 25 (0, 0))) ∧ Aside0 (Below w.heap.size w wc))
  case first =>
    have H := HC21.out
    clear HC21
    by_cases c61 : t588 = 0
    · rw [if_pos c61] at H
      have c61b0 : (t588 == 0) = true := beq_iff_eq.mpr c61
      have c61b1 : (t588 != 0) = false := bne_eq_false_iff_eq.mpr c61
      clear c61
      (first | rw [c61b0] | (simp only [i64_w, i32_w]; rw [c61b0]) | skip)
      by_cases c62 : t596 = 0
      · rw [if_pos c62] at H
        have c62b0 : (t596 == 0) = true := beq_iff_eq.mpr c62
        have c62b1 : (t596 != 0) = false := bne_eq_false_iff_eq.mpr c62
        clear c62
        by_cases c63 : t606 = 0
        · rw [if_pos c63] at H
          have c63b0 : (t606 == 0) = true := beq_iff_eq.mpr c63
          have c63b1 : (t606 != 0) = false := bne_eq_false_iff_eq.mpr c63
          clear c63
          by_cases c64 : t610 = 0
          · rw [if_pos c64] at H
            have c64b0 : (t610 == 0) = true := beq_iff_eq.mpr c64
            have c64b1 : (t610 != 0) = false := bne_eq_false_iff_eq.mpr c64
            clear c64
            by_cases c65 : t621 = 0
            · rw [if_pos c65] at H
              have c65b0 : (t621 == 0) = true := beq_iff_eq.mpr c65
              have c65b1 : (t621 != 0) = false := bne_eq_false_iff_eq.mpr c65
              clear c65
              by_cases c66 : t628 = 0
              · rw [if_pos c66] at H
                have c66b0 : (t628 == 0) = true := beq_iff_eq.mpr c66
                have c66b1 : (t628 != 0) = false := bne_eq_false_iff_eq.mpr c66
                clear c66
                have H' := Aside0.mk H
                clear H
                go_wp2
                go_meet
                case rel => exact ⟨_, ((t636 != 0)), (by first | rfl | (simp; done) | (simp [*]; done)), H', ⟨by first | omega | exact Nat.le_refl _⟩, ⟨by (with_reducible repeat (first | apply Kd.R_alloc | apply Kd.R_drewN | apply Kd.R_drew)); exact HO609.out⟩, ⟨pk BK582⟩, ⟨pk BK622⟩, ⟨pk BK637⟩, ⟨pk BK638⟩, ⟨bnow HB⟩⟩
              · rw [if_neg c66] at H
                have c66b0 : (t628 == 0) = false := beq_eq_false_iff_ne.mpr c66
                have c66b1 : (t628 != 0) = true := bne_iff_ne.mpr c66
                have H' := Aside0.mk H
                clear H
                go_wp2
                go_meet
                case rel => exact ⟨_, (true), (by first | rfl | (simp; done) | (simp [*]; done)), H', ⟨by first | omega | exact Nat.le_refl _⟩, ⟨by (with_reducible repeat (first | apply Kd.R_alloc | apply Kd.R_drewN | apply Kd.R_drew)); exact HO609.out⟩, ⟨pk BK582⟩, ⟨pk BK622⟩, ⟨pk BK637⟩, ⟨pk BK638⟩, ⟨bnow HB⟩⟩
            · rw [if_neg c65] at H
              have c65b0 : (t621 == 0) = false := beq_eq_false_iff_ne.mpr c65
              have c65b1 : (t621 != 0) = true := bne_iff_ne.mpr c65
              have H' := Aside0.mk H
              clear H
              go_wp2
              go_meet
              case rel => exact ⟨_, (true), (by first | rfl | (simp; done) | (simp [*]; done)), H', ⟨by first | omega | exact Nat.le_refl _⟩, ⟨by (with_reducible repeat (first | apply Kd.R_alloc | apply Kd.R_drewN | apply Kd.R_drew)); exact HO609.out⟩, ⟨pk BK582⟩, ⟨pk BK622⟩, ⟨pk BK637⟩, ⟨pk BK638⟩, ⟨bnow HB⟩⟩
          · rw [if_neg c64] at H
            have c64b0 : (t610 == 0) = false := beq_eq_false_iff_ne.mpr c64
            have c64b1 : (t610 != 0) = true := bne_iff_ne.mpr c64
            have H' := Aside0.mk H
            clear H
            go_wp2
            go_meet
            case rel => exact ⟨_, (true), (by first | rfl | (simp; done) | (simp [*]; done)), H', ⟨by first | omega | exact Nat.le_refl _⟩, ⟨by (with_reducible repeat (first | apply Kd.R_alloc | apply Kd.R_drewN | apply Kd.R_drew)); exact HO609.out⟩, ⟨pk BK582⟩, ⟨pk BK622⟩, ⟨pk BK637⟩, ⟨pk BK638⟩, ⟨bnow HB⟩⟩
        · rw [if_neg c63] at H
          have c63b0 : (t606 == 0) = false := beq_eq_false_iff_ne.mpr c63
          have c63b1 : (t606 != 0) = true := bne_iff_ne.mpr c63
          have H' := Aside0.mk H
          clear H
          go_wp2
          go_meet
          case rel => exact ⟨_, (true), (by first | rfl | (simp; done) | (simp [*]; done)), H', ⟨by first | omega | exact Nat.le_refl _⟩, ⟨by (with_reducible repeat (first | apply Kd.R_alloc | apply Kd.R_drewN | apply Kd.R_drew)); exact HO609.out⟩, ⟨pk BK582⟩, ⟨pk BK622⟩, ⟨pk BK637⟩, ⟨pk BK638⟩, ⟨bnow HB⟩⟩
      · rw [if_neg c62] at H
        have c62b0 : (t596 == 0) = false := beq_eq_false_iff_ne.mpr c62
        have c62b1 : (t596 != 0) = true := bne_iff_ne.mpr c62
        have H' := Aside0.mk H
        clear H
        go_wp2
        go_meet
        case rel => exact ⟨_, (true), (by first | rfl | (simp; done) | (simp [*]; done)), H', ⟨by first | omega | exact Nat.le_refl _⟩, ⟨by (with_reducible repeat (first | apply Kd.R_alloc | apply Kd.R_drewN | apply Kd.R_drew)); exact HO609.out⟩, ⟨pk BK582⟩, ⟨pk BK622⟩, ⟨pk BK637⟩, ⟨pk BK638⟩, ⟨bnow HB⟩⟩
    · rw [if_neg c61] at H
      have c61b0 : (t588 == 0) = false := beq_eq_false_iff_ne.mpr c61
      have c61b1 : (t588 != 0) = true := bne_iff_ne.mpr c61
      (first | rw [c61b0] | (simp only [i64_w, i32_w]; rw [c61b0]) | skip)
      have H' := Aside0.mk H
      clear H
      go_wp2
      go_meet
      case rel => exact ⟨_, (true), (by first | rfl | (simp; done) | (simp [*]; done)), H', ⟨by first | omega | exact Nat.le_refl _⟩, ⟨by (with_reducible repeat (first | apply Kd.R_alloc | apply Kd.R_drewN | apply Kd.R_drew)); exact HO609.out⟩, ⟨pk BK582⟩, ⟨pk BK622⟩, ⟨pk BK637⟩, ⟨pk BK638⟩, ⟨bnow HB⟩⟩
  case rest =>
    clear HC21
    try clear c1
    try clear c2
    try clear p2
    try clear c3
    try clear c4
    try clear c5
    try clear c6
    try clear c11
    try clear c13
    try clear c17
    try clear c18
    try clear c19
    try clear c20
    try clear c21
    try clear c22
    try clear c27
    try clear c33
    try clear c45
    try clear c52
    try clear c53
    try clear c54
    try clear c57
    try clear c58
    try clear c61
    try clear c61b0
    try clear c61b1
    try clear c62
    try clear c62b0
    try clear c62b1
    try clear c63
    try clear c63b0
    try clear c63b1
    try clear c64
    try clear c64b0
    try clear c64b1
    try clear c65
    try clear c65b0
    try clear c65b1
    try clear c66
    try clear c66b0
    try clear c66b1
    try clear hcz23_0
    try clear hcz23_1
    try clear hcz23_2
    try clear hcz38_0
    try clear hcz38_1
    try clear hcz38_2
    try clear hcz46_0
    try clear hcz46_1
    try clear hcz55_0
    try clear hcz55_1
    try clear hcz55_2
    try clear hcz59_0
    try clear hcz59_1
    try clear hcz59_2
    try clear hcz59_3
    try clear hfz23_0
    try clear hfz23_1
    try clear hfz23_2
    try clear hfz38_0
    try clear hfz38_1
    try clear hfz38_2
    try clear hfz46_0
    try clear hfz46_1
    try clear hfz55_0
    try clear hfz55_1
    try clear hfz55_2
    try clear hfz59_0
    try clear hfz59_1
    try clear hfz59_2
    try clear hfz59_3
    obtain ⟨kq, x89_20, rfl, HA, HJ20, HO_8, BK582, BK622, BK637, BK638, HB⟩ := hcut
    cases kq with
    | zero => exact absurd HA.out (by simp [torchonlaw06_awake.j0])
    | succ kj20 =>
      have H := HA.out
      clear HA
      simp only [torchonlaw06_awake.j0] at H
      by_cases c67 : x89_20 = true
      · subst c67
        have H1 : (none) = some r := by rw [if_pos rfl] at H; exact H
        clear H
        have H := H1
        clear H1
        exact absurd H (by simp)
      · replace c67 := Bool.eq_false_iff.mpr c67
        subst c67
        have H1 : (if t587 = 6 then (if t595 = 1 then (if t605 = 1 then (if (t607.length : Int) = 12 then ((torchonlaw06_pt.f 1 5).bind fun bt639 => (if (t619 == bt639.1 && (t620 == bt639.2)) = true then (if t627 = 6 then (if (t629 == 1 && (t630 == 0 && (t631 == 1))) = true then ((torchonlaw06_mat.f (-3) (-1) 2 1).bind fun bt641 => (some (t632 == bt641.1 && (t633 == bt641.2.1 && (t634 == bt641.2.2.1 && (t635 == bt641.2.2.2)))))) else (none)) else (none)) else (none))) else (none)) else (none)) else (none)) else (none)) = some r := by rw [if_neg (show ¬ (false = true) by decide)] at H; exact H
        clear H
        have H := H1
        clear H1
        by_cases c68 : t587 = 6
        · rw [if_pos c68] at H
          have c68b0 : (t587 == 6) = true := beq_iff_eq.mpr c68
          have c68b1 : (t587 != 6) = false := bne_eq_false_iff_eq.mpr c68
          clear c68
          by_cases c69 : t595 = 1
          · rw [if_pos c69] at H
            have c69b0 : (t595 == 1) = true := beq_iff_eq.mpr c69
            have c69b1 : (t595 != 1) = false := bne_eq_false_iff_eq.mpr c69
            clear c69
            by_cases c70 : t605 = 1
            · rw [if_pos c70] at H
              have c70b0 : (t605 == 1) = true := beq_iff_eq.mpr c70
              have c70b1 : (t605 != 1) = false := bne_eq_false_iff_eq.mpr c70
              clear c70
              by_cases c71 : (t607.length : Int) = 12
              · rw [if_pos c71] at H
                have c71b0 : ((t607.length : Int) == 12) = true := beq_iff_eq.mpr c71
                have c71b1 : ((t607.length : Int) != 12) = false := bne_eq_false_iff_eq.mpr c71
                clear c71
                replace H := Option.bind_eq_some_iff.mp H
                obtain ⟨⟨t639, t640⟩, A720, H⟩ := H
                replace H : (if (t619 == t639 && (t620 == t640)) = true then (if t627 = 6 then (if (t629 == 1 && (t630 == 0 && (t631 == 1))) = true then ((torchonlaw06_mat.f (-3) (-1) 2 1).bind fun bt641 => (some (t632 == bt641.1 && (t633 == bt641.2.1 && (t634 == bt641.2.2.1 && (t635 == bt641.2.2.2)))))) else (none)) else (none)) else (none)) = some r := H
                have A72 := Aside0.mk A720
                clear A720
                by_cases c73 : (t619 == t639 && (t620 == t640)) = true
                · rw [if_pos c73] at H
                  have c73b0 : (t619 == t639 && (t620 == t640)) = true := c73
                  (try (have c73b1 : decide (t619 = t639 && (t620 == t640)) = true := by simpa using c73))
                  (try (have c73b2 : (t619 == t639 && (t620 == t640)) = true := by simpa using c73))
                  clear c73
                  by_cases c74 : t627 = 6
                  · rw [if_pos c74] at H
                    have c74b0 : (t627 == 6) = true := beq_iff_eq.mpr c74
                    have c74b1 : (t627 != 6) = false := bne_eq_false_iff_eq.mpr c74
                    clear c74
                    by_cases c75 : (t629 == 1 && (t630 == 0 && (t631 == 1))) = true
                    · rw [if_pos c75] at H
                      have c75b0 : (t629 == 1 && (t630 == 0 && (t631 == 1))) = true := c75
                      (try (have c75b1 : decide (t629 = 1 && (t630 == 0 && (t631 == 1))) = true := by simpa using c75))
                      (try (have c75b2 : (t629 == 1 && (t630 == 0 && (t631 == 1))) = true := by simpa using c75))
                      clear c75
                      replace H := Option.bind_eq_some_iff.mp H
                      obtain ⟨⟨t641, t642, t643, t644⟩, A760, H⟩ := H
                      replace H : (some (t632 == t641 && (t633 == t642 && (t634 == t643 && (t635 == t644))))) = some r := H
                      have A76 := Aside0.mk A760
                      clear A760
                      obtain rfl := Option.some.inj H
                      try go_wp2
                      have n0_ := Aside0.mk (Kd.R_drew HO_8.out)
                      have n1_ := Aside0.mk (blk_drew BK582.out)
                      have n2_ := Aside0.mk (blk_drew BK622.out)
                      have n3_ := Aside0.mk (blk_drew BK637.out)
                      have n4_ := Aside0.mk (blk_drew BK638.out)
                      have n5_ := Aside0.mk (below_drew1 HB.out)
                      clear HO_8
                      clear BK582
                      clear BK622
                      clear BK637
                      clear BK638
                      clear HB
                      have HO_8 := n0_
                      have BK582 := n1_
                      have BK622 := n2_
                      have BK637 := n3_
                      have BK638 := n4_
                      have HB := n5_
                      clear n0_ n1_ n2_ n3_ n4_ n5_
                      obtain ⟨Ao78, co78, eo78⟩ := Kd.R_slice HO_8.out
                      (first | subst eo78 | (injection eo78 with f1_ f2_ f3_; have f4_ := f1_.symm; have f5_ := f3_.symm; clear f1_ f2_ f3_; subst f4_; subst f5_))
                      refine start_ (n := 35) (S := fun w' => w'.cell? ⟨gb622, 0, none⟩ = some (.int .i64 t619) ∧ w'.cell? ⟨gb622, 1, none⟩ = some (.int .i64 t620) ∧ w'.cell? ⟨gb637, 0, none⟩ = some (.int .i64 t629) ∧ w'.cell? ⟨gb637, 1, none⟩ = some (.int .i64 t630) ∧ w'.cell? ⟨gb637, 2, none⟩ = some (.int .i64 t631) ∧ w'.cell? ⟨gb638, 0, none⟩ = some (.int .i64 t632) ∧ w'.cell? ⟨gb638, 1, none⟩ = some (.int .i64 t633) ∧ w'.cell? ⟨gb638, 2, none⟩ = some (.int .i64 t634) ∧ w'.cell? ⟨gb638, 3, none⟩ = some (.int .i64 t635)) (ds := []) #[false, false, false, false, false, false, false, false, false, false, false, false, false, false, false, false, false, false, false, false, false, false, false, false, false, false, false, false, false, false, false, false, false, false, false] (by kernel_rfl) rfl rfl ⟨(blk_cell BK622.out 0).trans rfl, (blk_cell BK622.out 1).trans rfl, (blk_cell BK637.out 0).trans rfl, (blk_cell BK637.out 1).trans rfl, (blk_cell BK637.out 2).trans rfl, (blk_cell BK638.out 0).trans rfl, (blk_cell BK638.out 1).trans rfl, (blk_cell BK638.out 2).trans rfl, (blk_cell BK638.out 3).trans rfl⟩ (fun hHeld => ?_); refine with_tabW torchonlaw06_awake.tab11 torchonlaw06_awake.bits11 (fun HT_ HW_ => ?_)
                      generalize wc.drew = w77 at HO_8 BK582 BK622 BK637 BK638 HB hHeld ⊢
                      refine pure_ (i := 0) (N := some 90) (v := ?_) (a' := ?_) #[true, false, false, false, false, false, false, false, false, false, false, false, false, false, false, false, false, false, false, false, false, false, false, false, false, false, false, false, false, false, false, false, false, false, false] rfl rfl (any_of HT_.out (by kernel_rfl)) (fun _ _ _ h => h) (Or.inl ⟨by rfl, ?_⟩) ?_ ?_
                      rotate_left
                      · intro w'
                        go_simp
                        with_reducible rfl
                      rotate_left
                      · simp only [Act.put, List.setIfInBounds_toArray, List.set_cons_zero, List.set_cons_succ, i64_w, i32_w]
                        rfl
                      refine pure_ (i := 1) (N := some 91) (v := ?_) (a' := ?_) #[true, true, false, false, false, false, false, false, false, false, false, false, false, false, false, false, false, false, false, false, false, false, false, false, false, false, false, false, false, false, false, false, false, false, false] rfl rfl (any_of HT_.out (by kernel_rfl)) (fun _ _ _ h => h) (Or.inl ⟨by rfl, ?_⟩) ?_ ?_
                      rotate_left
                      · intro w'
                        go_simp
                        with_reducible rfl
                      rotate_left
                      · simp only [Act.put, List.setIfInBounds_toArray, List.set_cons_zero, List.set_cons_succ, i64_w, i32_w]
                        rfl
                      refine pure_ (i := 2) (N := some 92) (v := ?_) (a' := ?_) #[true, true, true, false, false, false, false, false, false, false, false, false, false, false, false, false, false, false, false, false, false, false, false, false, false, false, false, false, false, false, false, false, false, false, false] rfl rfl (any_of HT_.out (by kernel_rfl)) (fun _ _ _ h => h) (Or.inl ⟨by rfl, ?_⟩) ?_ ?_
                      rotate_left
                      · intro w'
                        go_simp
                        with_reducible rfl
                      rotate_left
                      · simp only [Act.put, List.setIfInBounds_toArray, List.set_cons_zero, List.set_cons_succ, i64_w, i32_w]
                        rfl
                      refine pure_ (i := 3) (N := some 93) (v := ?_) (a' := ?_) #[true, true, true, true, false, false, false, false, false, false, false, false, false, false, false, false, false, false, false, false, false, false, false, false, false, false, false, false, false, false, false, false, false, false, false] rfl rfl (any_of HT_.out (by kernel_rfl)) (fun _ _ _ h => h) (Or.inl ⟨by rfl, ?_⟩) ?_ ?_
                      rotate_left
                      · intro w'
                        go_simp
                        with_reducible rfl
                      rotate_left
                      · simp only [Act.put, List.setIfInBounds_toArray, List.set_cons_zero, List.set_cons_succ, i64_w, i32_w]
                        rfl
                      refine pure_ (i := 4) (N := some 94) (v := ?_) (a' := ?_) #[true, true, true, true, true, false, false, false, false, false, false, false, false, false, false, false, false, false, false, false, false, false, false, false, false, false, false, false, false, false, false, false, false, false, false] rfl rfl (any_of HT_.out (by kernel_rfl)) (fun _ _ _ h => h) (Or.inl ⟨by rfl, ?_⟩) ?_ ?_
                      rotate_left
                      · intro w'
                        go_simp
                        with_reducible rfl
                      rotate_left
                      · simp only [Act.put, List.setIfInBounds_toArray, List.set_cons_zero, List.set_cons_succ, i64_w, i32_w]
                        rfl
                      refine pure_ (i := 5) (N := some 95) (v := ?_) (a' := ?_) #[true, true, true, true, true, true, false, false, false, false, false, false, false, false, false, false, false, false, false, false, false, false, false, false, false, false, false, false, false, false, false, false, false, false, false] rfl rfl (any_of HT_.out (by kernel_rfl)) (fun _ _ _ h => h) (Or.inl ⟨by rfl, ?_⟩) ?_ ?_
                      rotate_left
                      · intro w'
                        go_simp
                        with_reducible rfl
                      rotate_left
                      · simp only [Act.put, List.setIfInBounds_toArray, List.set_cons_zero, List.set_cons_succ, i64_w, i32_w]
                        rfl
                      refine pure_ (i := 6) (N := some 96) (v := ?_) (a' := ?_) #[true, true, true, true, true, true, true, false, false, false, false, false, false, false, false, false, false, false, false, false, false, false, false, false, false, false, false, false, false, false, false, false, false, false, false] rfl rfl (any_of HT_.out (by kernel_rfl)) (fun _ _ _ h => h) (Or.inl ⟨by rfl, ?_⟩) ?_ ?_
                      rotate_left
                      · intro w'
                        go_simp
                        with_reducible rfl
                      rotate_left
                      · simp only [Act.put, List.setIfInBounds_toArray, List.set_cons_zero, List.set_cons_succ, i64_w, i32_w]
                        rfl
                      refine pure_ (i := 7) (N := some 97) (v := ?_) (a' := ?_) #[true, true, true, true, true, true, true, true, false, false, false, false, false, false, false, false, false, false, false, false, false, false, false, false, false, false, false, false, false, false, false, false, false, false, false] rfl rfl (any_of HT_.out (by kernel_rfl)) (fun _ _ _ h => h) (Or.inl ⟨by rfl, ?_⟩) ?_ ?_
                      rotate_left
                      · intro w'
                        go_simp
                        with_reducible rfl
                      rotate_left
                      · simp only [Act.put, List.setIfInBounds_toArray, List.set_cons_zero, List.set_cons_succ, i64_w, i32_w]
                        rfl
                      refine pure_ (i := 8) (N := some 98) (v := ?_) (a' := ?_) #[true, true, true, true, true, true, true, true, true, false, false, false, false, false, false, false, false, false, false, false, false, false, false, false, false, false, false, false, false, false, false, false, false, false, false] rfl rfl (any_of HT_.out (by kernel_rfl)) (fun _ _ _ h => h) (Or.inl ⟨by rfl, ?_⟩) ?_ ?_
                      rotate_left
                      · intro w'
                        go_simp
                        with_reducible rfl
                      rotate_left
                      · simp only [Act.put, List.setIfInBounds_toArray, List.set_cons_zero, List.set_cons_succ, i64_w, i32_w]
                        rfl
                      refine pure_ (i := 9) (N := some 99) (v := ?_) (a' := ?_) #[true, true, true, true, true, true, true, true, true, true, false, false, false, false, false, false, false, false, false, false, false, false, false, false, false, false, false, false, false, false, false, false, false, false, false] rfl rfl (any_of HT_.out (by kernel_rfl)) (fun _ _ _ h => h) (Or.inl ⟨by rfl, ?_⟩) ?_ ?_
                      rotate_left
                      · intro w'
                        go_simp
                        with_reducible rfl
                      rotate_left
                      · simp only [Act.put, List.setIfInBounds_toArray, List.set_cons_zero, List.set_cons_succ, i64_w, i32_w]
                        rfl
                      refine pure_ (i := 10) (N := some 100) (v := ?_) (a' := ?_) #[true, true, true, true, true, true, true, true, true, true, true, false, false, false, false, false, false, false, false, false, false, false, false, false, false, false, false, false, false, false, false, false, false, false, false] rfl rfl (any_of HT_.out (by kernel_rfl)) (fun _ _ _ h => h) (Or.inl ⟨by rfl, ?_⟩) ?_ ?_
                      rotate_left
                      · intro w'
                        go_simp
                        with_reducible rfl
                      rotate_left
                      · simp only [Act.put, List.setIfInBounds_toArray, List.set_cons_zero, List.set_cons_succ, i64_w, i32_w]
                        rfl
                      refine pure_ (i := 11) (N := some 101) (v := ?_) (a' := ?_) #[true, true, true, true, true, true, true, true, true, true, true, true, false, false, false, false, false, false, false, false, false, false, false, false, false, false, false, false, false, false, false, false, false, false, false] rfl rfl (any_of HT_.out (by kernel_rfl)) (fun _ _ _ h => h) (Or.inl ⟨by rfl, ?_⟩) ?_ ?_
                      rotate_left
                      · intro w'
                        go_simp
                        with_reducible rfl
                      rotate_left
                      · simp only [Act.put, List.setIfInBounds_toArray, List.set_cons_zero, List.set_cons_succ, i64_w, i32_w]
                        rfl
                      refine pure_ (i := 12) (N := some 102) (v := ?_) (a' := ?_) #[true, true, true, true, true, true, true, true, true, true, true, true, true, false, false, false, false, false, false, false, false, false, false, false, false, false, false, false, false, false, false, false, false, false, false] rfl rfl (any_of HT_.out (by kernel_rfl)) (fun _ _ _ h => h) (Or.inl ⟨by rfl, ?_⟩) ?_ ?_
                      rotate_left
                      · intro w'
                        go_simp
                        with_reducible rfl
                      rotate_left
                      · simp only [Act.put, List.setIfInBounds_toArray, List.set_cons_zero, List.set_cons_succ, i64_w, i32_w]
                        rfl
                      refine pure_ (i := 13) (N := some 103) (v := ?_) (a' := ?_) #[true, true, true, true, true, true, true, true, true, true, true, true, true, true, false, false, false, false, false, false, false, false, false, false, false, false, false, false, false, false, false, false, false, false, false] rfl rfl (any_of HT_.out (by kernel_rfl)) (fun _ _ _ h => h) (Or.inl ⟨by rfl, ?_⟩) ?_ ?_
                      rotate_left
                      · intro w'
                        go_simp
                        with_reducible rfl
                      rotate_left
                      · simp only [Act.put, List.setIfInBounds_toArray, List.set_cons_zero, List.set_cons_succ, i64_w, i32_w]
                        rfl
                      refine pure_ (i := 14) (N := some 104) (v := ?_) (a' := ?_) #[true, true, true, true, true, true, true, true, true, true, true, true, true, true, true, false, false, false, false, false, false, false, false, false, false, false, false, false, false, false, false, false, false, false, false] rfl rfl (any_of HT_.out (by kernel_rfl)) (fun _ _ _ h => h) (Or.inl ⟨by rfl, ?_⟩) ?_ ?_
                      rotate_left
                      · intro w'
                        go_simp
                        with_reducible rfl
                      rotate_left
                      · simp only [Act.put, List.setIfInBounds_toArray, List.set_cons_zero, List.set_cons_succ, i64_w, i32_w]
                        rfl
                      refine pure_ (i := 15) (N := some 105) (v := ?_) (a' := ?_) #[true, true, true, true, true, true, true, true, true, true, true, true, true, true, true, true, false, false, false, false, false, false, false, false, false, false, false, false, false, false, false, false, false, false, false] rfl rfl (any_of HT_.out (by kernel_rfl)) (fun _ _ _ h => h) (Or.inl ⟨by rfl, ?_⟩) ?_ ?_
                      rotate_left
                      · intro w'
                        go_simp
                        with_reducible rfl
                      rotate_left
                      · simp only [Act.put, List.setIfInBounds_toArray, List.set_cons_zero, List.set_cons_succ, i64_w, i32_w]
                        rfl
                      refine take_ (i := 16) (N := some 106) (v := ?_) (a' := ?_) #[true, true, true, true, true, true, true, true, true, true, true, true, true, true, true, true, true, false, false, false, false, false, false, false, false, false, false, false, false, false, false, false, false, false, false] rfl rfl (take_ofW HT_.out HW_.out (by kernel_rfl)) (fun _ _ _ h => h) (Or.inl ⟨by rfl, ?_⟩) hHeld ?_ ?_
                      rotate_left
                      · rintro w' ⟨s0, s1, s2, s3, s4, s5, s6, s7, s8⟩
                        go_simp
                        with_reducible rfl
                      rotate_left
                      · simp only [Act.put, List.setIfInBounds_toArray, List.set_cons_zero, List.set_cons_succ, i64_w, i32_w]
                        rfl
                      refine one_ (i := 17) (N := some 107) #[true, true, true, true, true, true, true, true, true, true, true, true, true, true, true, true, true, true, false, false, false, false, false, false, false, false, false, false, false, false, false, false, false, false, false] rfl rfl (one_of HT_.out (by kernel_rfl)) (by decide) (fun K hK => ?_)
                      refine goes_ Try.func19 (by kernel_rfl) rfl #[.int .i64 1, .int .i64 5] (by rfl) rfl rfl am ?_
                      with_reducible refine (torchonlaw06_pt.calls 1 5 t639 t640 _ A72.out).mono ?_
                      rintro e w79 ⟨rfl, hb⟩
                      refine ⟨_, rfl, ?_⟩
                      have n0_ := Aside0.mk (Kd.R_below (by (with_reducible repeat (first | apply Kd.R_alloc | apply Kd.R_drewN | apply Kd.R_drew)); exact HO_8.out) hb)
                      have n1_ := bb BK582 hb
                      have n2_ := bb BK622 hb
                      have n3_ := bb BK637 hb
                      have n4_ := bb BK638 hb
                      have n5_ := bst HB hb
                      clear HO_8
                      clear BK582
                      clear BK622
                      clear BK637
                      clear BK638
                      clear HB
                      have HO_8 := n0_
                      have BK582 := n1_
                      have BK622 := n2_
                      have BK637 := n3_
                      have BK638 := n4_
                      have HB := n5_
                      clear n0_ n1_ n2_ n3_ n4_ n5_
                      (try clear hb)
                      (try clear hb2)
                      (try clear hk)
                      (try clear hi)
                      refine hK.out _ _ ⟨(blk_cell BK622.out 0).trans rfl, (blk_cell BK622.out 1).trans rfl, (blk_cell BK637.out 0).trans rfl, (blk_cell BK637.out 1).trans rfl, (blk_cell BK637.out 2).trans rfl, (blk_cell BK638.out 0).trans rfl, (blk_cell BK638.out 1).trans rfl, (blk_cell BK638.out 2).trans rfl, (blk_cell BK638.out 3).trans rfl⟩ (fun hHeld => ?_)
                      clear hK K
                      refine norm_ (a' := ?_) ?_ ?_
                      rotate_left
                      · show Act.put _ (some 107) _ = _
                        simp only [Act.put, List.setIfInBounds_toArray, List.set_cons_zero, List.set_cons_succ, i64_w, i32_w]
                        rfl
                      refine pure_ (i := 18) (N := some 108) (v := ?_) (a' := ?_) #[true, true, true, true, true, true, true, true, true, true, true, true, true, true, true, true, true, true, true, false, false, false, false, false, false, false, false, false, false, false, false, false, false, false, false] rfl rfl (any_of HT_.out (by kernel_rfl)) (fun _ _ _ h => h) (Or.inl ⟨by rfl, ?_⟩) ?_ ?_
                      rotate_left
                      · intro w'
                        go_simp
                        with_reducible rfl
                      rotate_left
                      · simp only [Act.put, List.setIfInBounds_toArray, List.set_cons_zero, List.set_cons_succ, i64_w, i32_w]
                        rfl
                      refine pure_ (i := 19) (N := some 109) (v := ?_) (a' := ?_) #[true, true, true, true, true, true, true, true, true, true, true, true, true, true, true, true, true, true, true, true, false, false, false, false, false, false, false, false, false, false, false, false, false, false, false] rfl rfl (any_of HT_.out (by kernel_rfl)) (fun _ _ _ h => h) (Or.inl ⟨by rfl, ?_⟩) ?_ ?_
                      rotate_left
                      · intro w'
                        go_simp
                        with_reducible rfl
                      rotate_left
                      · simp only [Act.put, List.setIfInBounds_toArray, List.set_cons_zero, List.set_cons_succ, i64_w, i32_w]
                        rfl
                      refine pure_ (i := 20) (N := some 110) (v := ?_) (a' := ?_) #[true, true, true, true, true, true, true, true, true, true, true, true, true, true, true, true, true, true, true, true, true, false, false, false, false, false, false, false, false, false, false, false, false, false, false] rfl rfl (any_of HT_.out (by kernel_rfl)) (fun _ _ _ h => h) (Or.inl ⟨by rfl, ?_⟩) ?_ ?_
                      rotate_left
                      · intro w'
                        go_simp
                        with_reducible rfl
                      rotate_left
                      · simp only [Act.put, List.setIfInBounds_toArray, List.set_cons_zero, List.set_cons_succ, i64_w, i32_w]
                        rfl
                      refine pure_ (i := 21) (N := some 111) (v := ?_) (a' := ?_) #[true, true, true, true, true, true, true, true, true, true, true, true, true, true, true, true, true, true, true, true, true, true, false, false, false, false, false, false, false, false, false, false, false, false, false] rfl rfl (any_of HT_.out (by kernel_rfl)) (fun _ _ _ h => h) (Or.inl ⟨by rfl, ?_⟩) ?_ ?_
                      rotate_left
                      · intro w'
                        go_simp
                        with_reducible rfl
                      rotate_left
                      · simp only [Act.put, List.setIfInBounds_toArray, List.set_cons_zero, List.set_cons_succ, i64_w, i32_w]
                        rfl
                      refine pure_ (i := 22) (N := some 112) (v := ?_) (a' := ?_) #[true, true, true, true, true, true, true, true, true, true, true, true, true, true, true, true, true, true, true, true, true, true, true, false, false, false, false, false, false, false, false, false, false, false, false] rfl rfl (any_of HT_.out (by kernel_rfl)) (fun _ _ _ h => h) (Or.inl ⟨by rfl, ?_⟩) ?_ ?_
                      rotate_left
                      · intro w'
                        go_simp
                        with_reducible rfl
                      rotate_left
                      · simp only [Act.put, List.setIfInBounds_toArray, List.set_cons_zero, List.set_cons_succ, i64_w, i32_w]
                        rfl
                      refine pure_ (i := 23) (N := some 113) (v := ?_) (a' := ?_) #[true, true, true, true, true, true, true, true, true, true, true, true, true, true, true, true, true, true, true, true, true, true, true, true, false, false, false, false, false, false, false, false, false, false, false] rfl rfl (any_of HT_.out (by kernel_rfl)) (fun _ _ _ h => h) (Or.inl ⟨by rfl, ?_⟩) ?_ ?_
                      rotate_left
                      · intro w'
                        go_simp
                        with_reducible rfl
                      rotate_left
                      · simp only [Act.put, List.setIfInBounds_toArray, List.set_cons_zero, List.set_cons_succ, i64_w, i32_w]
                        rfl
                      refine pure_ (i := 24) (N := some 114) (v := ?_) (a' := ?_) #[true, true, true, true, true, true, true, true, true, true, true, true, true, true, true, true, true, true, true, true, true, true, true, true, true, false, false, false, false, false, false, false, false, false, false] rfl rfl (any_of HT_.out (by kernel_rfl)) (fun _ _ _ h => h) (Or.inl ⟨by rfl, ?_⟩) ?_ ?_
                      rotate_left
                      · intro w'
                        go_simp
                        with_reducible rfl
                      rotate_left
                      · simp only [Act.put, List.setIfInBounds_toArray, List.set_cons_zero, List.set_cons_succ, i64_w, i32_w]
                        rfl
                      refine pure_ (i := 26) (N := some 116) (v := ?_) (a' := ?_) #[true, true, true, true, true, true, true, true, true, true, true, true, true, true, true, true, true, true, true, true, true, true, true, true, true, false, true, false, false, false, false, false, false, false, false] rfl rfl (any_of HT_.out (by kernel_rfl)) (fun _ _ _ h => h) (Or.inl ⟨by rfl, ?_⟩) ?_ ?_
                      rotate_left
                      · intro w'
                        go_simp
                        with_reducible rfl
                      rotate_left
                      · simp only [Act.put, List.setIfInBounds_toArray, List.set_cons_zero, List.set_cons_succ, i64_w, i32_w]
                        rfl
                      refine take_ (i := 25) (N := some 115) (v := ?_) (a' := ?_) #[true, true, true, true, true, true, true, true, true, true, true, true, true, true, true, true, true, true, true, true, true, true, true, true, true, true, true, false, false, false, false, false, false, false, false] rfl rfl (take_ofW HT_.out HW_.out (by kernel_rfl)) (fun _ _ _ h => h) (Or.inl ⟨by rfl, ?_⟩) hHeld ?_ ?_
                      rotate_left
                      · rintro w' ⟨s0, s1, s2, s3, s4, s5, s6, s7, s8⟩
                        go_simp
                        with_reducible rfl
                      rotate_left
                      · simp only [Act.put, List.setIfInBounds_toArray, List.set_cons_zero, List.set_cons_succ, i64_w, i32_w]
                        rfl
                      refine pure_ (i := 27) (N := some 117) (v := ?_) (a' := ?_) #[true, true, true, true, true, true, true, true, true, true, true, true, true, true, true, true, true, true, true, true, true, true, true, true, true, true, true, true, false, false, false, false, false, false, false] rfl rfl (any_of HT_.out (by kernel_rfl)) (fun _ _ _ h => h) (Or.inl ⟨by rfl, ?_⟩) ?_ ?_
                      rotate_left
                      · intro w'
                        go_simp
                        with_reducible rfl
                      rotate_left
                      · simp only [Act.put, List.setIfInBounds_toArray, List.set_cons_zero, List.set_cons_succ, i64_w, i32_w]
                        rfl
                      refine pure_ (i := 28) (N := some 118) (v := ?_) (a' := ?_) #[true, true, true, true, true, true, true, true, true, true, true, true, true, true, true, true, true, true, true, true, true, true, true, true, true, true, true, true, true, false, false, false, false, false, false] rfl rfl (any_of HT_.out (by kernel_rfl)) (fun _ _ _ h => h) (Or.inl ⟨by rfl, ?_⟩) ?_ ?_
                      rotate_left
                      · intro w'
                        go_simp
                        with_reducible rfl
                      rotate_left
                      · simp only [Act.put, List.setIfInBounds_toArray, List.set_cons_zero, List.set_cons_succ, i64_w, i32_w]
                        rfl
                      refine pure_ (i := 29) (N := some 119) (v := ?_) (a' := ?_) #[true, true, true, true, true, true, true, true, true, true, true, true, true, true, true, true, true, true, true, true, true, true, true, true, true, true, true, true, true, true, false, false, false, false, false] rfl rfl (any_of HT_.out (by kernel_rfl)) (fun _ _ _ h => h) (Or.inl ⟨by rfl, ?_⟩) ?_ ?_
                      rotate_left
                      · intro w'
                        go_simp
                        with_reducible rfl
                      rotate_left
                      · simp only [Act.put, List.setIfInBounds_toArray, List.set_cons_zero, List.set_cons_succ, i64_w, i32_w]
                        rfl
                      refine take_ (i := 30) (N := some 120) (v := ?_) (a' := ?_) #[true, true, true, true, true, true, true, true, true, true, true, true, true, true, true, true, true, true, true, true, true, true, true, true, true, true, true, true, true, true, true, false, false, false, false] rfl rfl (take_ofW HT_.out HW_.out (by kernel_rfl)) (fun _ _ _ h => h) (Or.inl ⟨by rfl, ?_⟩) hHeld ?_ ?_
                      rotate_left
                      · rintro w' ⟨s0, s1, s2, s3, s4, s5, s6, s7, s8⟩
                        go_simp
                        with_reducible rfl
                      rotate_left
                      · simp only [Act.put, List.setIfInBounds_toArray, List.set_cons_zero, List.set_cons_succ, i64_w, i32_w]
                        rfl
                      refine one_ (i := 31) (N := some 121) #[true, true, true, true, true, true, true, true, true, true, true, true, true, true, true, true, true, true, true, true, true, true, true, true, true, true, true, true, true, true, true, true, false, false, false] rfl rfl (one_of HT_.out (by kernel_rfl)) (by decide) (fun K hK => ?_)
                      refine goes_ Try.func17 (by kernel_rfl) rfl #[.int .i64 (-3), .int .i64 (-1), .int .i64 2, .int .i64 1] (by rfl) rfl rfl am ?_
                      with_reducible refine (torchonlaw06_mat.calls (-3) (-1) 2 1 t641 t642 t643 t644 _ A76.out).mono ?_
                      rintro e w80 ⟨rfl, hb⟩
                      refine ⟨_, rfl, ?_⟩
                      have n0_ := Aside0.mk (Kd.R_below (by (with_reducible repeat (first | apply Kd.R_alloc | apply Kd.R_drewN | apply Kd.R_drew)); exact HO_8.out) hb)
                      have n1_ := bb BK582 hb
                      have n2_ := bb BK622 hb
                      have n3_ := bb BK637 hb
                      have n4_ := bb BK638 hb
                      have n5_ := bst HB hb
                      clear HO_8
                      clear BK582
                      clear BK622
                      clear BK637
                      clear BK638
                      clear HB
                      have HO_8 := n0_
                      have BK582 := n1_
                      have BK622 := n2_
                      have BK637 := n3_
                      have BK638 := n4_
                      have HB := n5_
                      clear n0_ n1_ n2_ n3_ n4_ n5_
                      (try clear hb)
                      (try clear hb2)
                      (try clear hk)
                      (try clear hi)
                      refine hK.out _ _ ⟨(blk_cell BK622.out 0).trans rfl, (blk_cell BK622.out 1).trans rfl, (blk_cell BK637.out 0).trans rfl, (blk_cell BK637.out 1).trans rfl, (blk_cell BK637.out 2).trans rfl, (blk_cell BK638.out 0).trans rfl, (blk_cell BK638.out 1).trans rfl, (blk_cell BK638.out 2).trans rfl, (blk_cell BK638.out 3).trans rfl⟩ (fun hHeld => ?_)
                      clear hK K
                      refine norm_ (a' := ?_) ?_ ?_
                      rotate_left
                      · show Act.put _ (some 121) _ = _
                        simp only [Act.put, List.setIfInBounds_toArray, List.set_cons_zero, List.set_cons_succ, i64_w, i32_w]
                        rfl
                      refine pure_ (i := 32) (N := some 122) (v := ?_) (a' := ?_) #[true, true, true, true, true, true, true, true, true, true, true, true, true, true, true, true, true, true, true, true, true, true, true, true, true, true, true, true, true, true, true, true, true, false, false] rfl rfl (any_of HT_.out (by kernel_rfl)) (fun _ _ _ h => h) (Or.inl ⟨by rfl, ?_⟩) ?_ ?_
                      rotate_left
                      · intro w'
                        go_simp
                        with_reducible rfl
                      rotate_left
                      · simp only [Act.put, List.setIfInBounds_toArray, List.set_cons_zero, List.set_cons_succ, i64_w, i32_w]
                        rfl
                      refine pure_ (i := 33) (N := some 123) (v := ?_) (a' := ?_) #[true, true, true, true, true, true, true, true, true, true, true, true, true, true, true, true, true, true, true, true, true, true, true, true, true, true, true, true, true, true, true, true, true, true, false] rfl rfl (any_of HT_.out (by kernel_rfl)) (fun _ _ _ h => h) (Or.inl ⟨by rfl, ?_⟩) ?_ ?_
                      rotate_left
                      · intro w'
                        go_simp
                        with_reducible rfl
                      rotate_left
                      · simp only [Act.put, List.setIfInBounds_toArray, List.set_cons_zero, List.set_cons_succ, i64_w, i32_w]
                        rfl
                      refine pure_ (i := 34) (N := some 0) (v := ?_) (a' := ?_) #[true, true, true, true, true, true, true, true, true, true, true, true, true, true, true, true, true, true, true, true, true, true, true, true, true, true, true, true, true, true, true, true, true, true, true] rfl rfl (any_of HT_.out (by kernel_rfl)) (fun _ _ _ h => h) (Or.inl ⟨by rfl, ?_⟩) ?_ ?_
                      rotate_left
                      · intro w'
                        go_simp
                        with_reducible rfl
                      rotate_left
                      · simp only [Act.put, List.setIfInBounds_toArray, List.set_cons_zero, List.set_cons_succ, i64_w, i32_w]
                        rfl
                      refine done_ (done_of HT_.out (by kernel_rfl)) ?_
                      try go_wp2
                      go_ret
                      exact ⟨by first | rfl | (simp [errW_none, errW_some] <;> rfl) | (simp [*, errW_none, errW_some] <;> rfl), by repeat (first | (with_reducible first | exact HB.out | apply below_alloc | apply pw_below_drewN | apply below_drew1 | refine below_set ?_ GE582.out | refine below_set ?_ GE622.out | refine below_set ?_ GE637.out | refine below_set ?_ GE638.out) | exact HB.out)⟩
                    · rw [if_neg c75] at H
                      have c75b0 : (t629 == 1 && (t630 == 0 && (t631 == 1))) = false := by simpa using c75
                      (try (have c75b1 : decide (t629 = 1 && (t630 == 0 && (t631 == 1))) = false := by simpa using c75))
                      (try (have c75b2 : (t629 == 1 && (t630 == 0 && (t631 == 1))) = false := by simpa using c75))
                      (try (have c75b3 : ¬ (t629 = 1 && (t630 == 0 && (t631 == 1))) := by simpa using c75))
                      clear c75
                      exact absurd H (by simp)
                  · rw [if_neg c74] at H
                    have c74b0 : (t627 == 6) = false := beq_eq_false_iff_ne.mpr c74
                    have c74b1 : (t627 != 6) = true := bne_iff_ne.mpr c74
                    exact absurd H (by simp)
                · rw [if_neg c73] at H
                  have c73b0 : (t619 == t639 && (t620 == t640)) = false := by simpa using c73
                  (try (have c73b1 : decide (t619 = t639 && (t620 == t640)) = false := by simpa using c73))
                  (try (have c73b2 : (t619 == t639 && (t620 == t640)) = false := by simpa using c73))
                  (try (have c73b3 : ¬ (t619 = t639 && (t620 == t640)) := by simpa using c73))
                  clear c73
                  exact absurd H (by simp)
              · rw [if_neg c71] at H
                have c71b0 : ((t607.length : Int) == 12) = false := beq_eq_false_iff_ne.mpr c71
                have c71b1 : ((t607.length : Int) != 12) = true := bne_iff_ne.mpr c71
                exact absurd H (by simp)
            · rw [if_neg c70] at H
              have c70b0 : (t605 == 1) = false := beq_eq_false_iff_ne.mpr c70
              have c70b1 : (t605 != 1) = true := bne_iff_ne.mpr c70
              exact absurd H (by simp)
          · rw [if_neg c69] at H
            have c69b0 : (t595 == 1) = false := beq_eq_false_iff_ne.mpr c69
            have c69b1 : (t595 != 1) = true := bne_iff_ne.mpr c69
            exact absurd H (by simp)
        · rw [if_neg c68] at H
          have c68b0 : (t587 == 6) = false := beq_eq_false_iff_ne.mpr c68
          have c68b1 : (t587 != 6) = true := bne_iff_ne.mpr c68
          exact absurd H (by simp)
end
section
/-! ### torchonlaw06_GridsTurns: function 5 -/
def torchonlaw06_GridsTurns.j0 : Nat → Int → Bool → Int → Int → Int → Int → Int → Int → Int → Int → Int → Int → Option (Bool)
  | 0, _, _, _, _, _, _, _, _, _, _, _, _ => none
  | k + 1, x5, x78, x737000, x737001, x737002, x737003, x737004, x737005, x737006, x737007, x738000, x738001 => if x78 = true then (none) else ((grids_Turn.f k x737000 x737001 x737002 x737003 x737006 x737007 x738000 x738001).bind fun bt746 => ((grids_Turn.f k x737000 x737001 x737002 x737003 x737004 x737005 x738000 x738001).bind fun bt748 => (if bt746.2 = 0 then (if bt748.2 = 0 then (if x5 > 0 then ((torchonlaw06_awake.f k).bind fun t751 => (some t751)) else (if bt746.1 > 0 then ((torchonlaw06_awake.f k).bind fun t752 => (some t752)) else (if bt748.1 ≤ 0 then (if x5 = 0 then (if ((bt746.1 == 0) == (bt748.1 == 0)) = true then ((torchonlaw06_awake.f k).bind fun t753 => (some t753)) else (none)) else (if (false == (bt748.1 == 0)) = true then ((torchonlaw06_awake.f k).bind fun t754 => (some t754)) else (none))) else (none)))) else (none)) else (if bt746.2 = bt748.2 then ((torchonlaw06_awake.f k).bind fun t750 => (some t750)) else (none)))))
def torchonlaw06_GridsTurns.f (k : Nat) (a0_0 : Int) (a0_1 : Int) (a0_2 : Int) (a0_3 : Int) (a0_4 : Int) (a0_5 : Int) (a0_6 : Int) (a0_7 : Int) (a1_0 : Int) (a1_1 : Int) : Option (Bool) := (grids_Turn.f k a0_0 a0_1 a0_2 a0_3 a0_4 a0_5 a0_6 a0_7).bind fun bt738 => ((grids_Turn.f k a0_0 a0_1 a0_2 a0_3 a0_6 a0_7 a0_4 a0_5).bind fun bt740 => (if bt738.2 = 0 then ((grids_Turn.f k a0_0 a0_1 a0_2 a0_3 a0_2 a0_3 a0_4 a0_5).bind fun bt743 => (if bt740.2 = 0 then (if bt743.2 = 0 then ((some (wrap64 (-bt740.1))).bind fun z745 => (if bt738.1 = z745 then (torchonlaw06_GridsTurns.j0 k bt738.1 (decide (bt743.1 > 0)) a0_0 a0_1 a0_2 a0_3 a0_4 a0_5 a0_6 a0_7 a1_0 a1_1) else (torchonlaw06_GridsTurns.j0 k bt738.1 true a0_0 a0_1 a0_2 a0_3 a0_4 a0_5 a0_6 a0_7 a1_0 a1_1))) else (torchonlaw06_GridsTurns.j0 k bt738.1 true a0_0 a0_1 a0_2 a0_3 a0_4 a0_5 a0_6 a0_7 a1_0 a1_1)) else (torchonlaw06_GridsTurns.j0 k bt738.1 true a0_0 a0_1 a0_2 a0_3 a0_4 a0_5 a0_6 a0_7 a1_0 a1_1))) else (if bt738.2 = bt740.2 then (if bt738.1 = 0 then ((torchonlaw06_awake.f k).bind fun t742 => (some t742)) else (none)) else (none))))
theorem torchonlaw06_GridsTurns.mono_l : ∀ k, (∀ y0 y1 y2 y3 y4 y5 y6 y7 y8 y9 y10 y11, LeO (torchonlaw06_GridsTurns.j0 k y0 y1 y2 y3 y4 y5 y6 y7 y8 y9 y10 y11) (torchonlaw06_GridsTurns.j0 (k + 1) y0 y1 y2 y3 y4 y5 y6 y7 y8 y9 y10 y11))
  | 0 => fun _ _ _ _ _ _ _ _ _ _ _ _ r h => by simp [torchonlaw06_GridsTurns.j0] at h
  | k + 1 => by
    have ih0 := torchonlaw06_GridsTurns.mono_l k
    · intro y0 y1 y2 y3 y4 y5 y6 y7 y8 y9 y10 y11
      unfold torchonlaw06_GridsTurns.j0
      repeat' first
      | (with_reducible exact ih0 _ _ _ _ _ _ _ _ _ _ _ _)
      | (with_reducible exact grids_Turn.mono _ _ _ _ _ _ _ _ _)
      | (with_reducible exact torchonlaw06_awake.mono _)
      | (with_reducible exact LeO.refl _)
      | (with_reducible exact LeO.none _)
      | (with_reducible refine LeO.ite ?_ ?_)
      | (with_reducible refine LeO.bind ?_ (fun _ => ?_))
      | exact ih0 _ _ _ _ _ _ _ _ _ _ _ _
      | exact grids_Turn.mono _ _ _ _ _ _ _ _ _
      | exact torchonlaw06_awake.mono _
      | exact LeO.none _
      | refine LeO.ite ?_ ?_
      | refine LeO.bind ?_ (fun _ => ?_)
theorem torchonlaw06_GridsTurns.mono : ∀ a0 a1 a2 a3 a4 a5 a6 a7 a8 a9 k, LeO (torchonlaw06_GridsTurns.f k a0 a1 a2 a3 a4 a5 a6 a7 a8 a9) (torchonlaw06_GridsTurns.f (k + 1) a0 a1 a2 a3 a4 a5 a6 a7 a8 a9) := by
  intro a0 a1 a2 a3 a4 a5 a6 a7 a8 a9 k
  have ih0 := torchonlaw06_GridsTurns.mono_l k
  unfold torchonlaw06_GridsTurns.f
  repeat' first
      | (with_reducible exact ih0 _ _ _ _ _ _ _ _ _ _ _ _)
      | (with_reducible exact grids_Turn.mono _ _ _ _ _ _ _ _ _)
      | (with_reducible exact torchonlaw06_awake.mono _)
      | (with_reducible exact LeO.refl _)
      | (with_reducible exact LeO.none _)
      | (with_reducible refine LeO.ite ?_ ?_)
      | (with_reducible refine LeO.bind ?_ (fun _ => ?_))
      | exact ih0 _ _ _ _ _ _ _ _ _ _ _ _
      | exact grids_Turn.mono _ _ _ _ _ _ _ _ _
      | exact torchonlaw06_awake.mono _
      | exact LeO.none _
      | refine LeO.ite ?_ ?_
      | refine LeO.bind ?_ (fun _ => ?_)
set_option maxHeartbeats 8000000 in
set_option maxRecDepth 100000 in
theorem torchonlaw06_GridsTurns.calls (k : Nat) (a0_0 : Int) (a0_1 : Int) (a0_2 : Int) (a0_3 : Int) (a0_4 : Int) (a0_5 : Int) (a0_6 : Int) (a0_7 : Int) (a1_0 : Int) (a1_1 : Int) (r : Bool) (w : World) (h : torchonlaw06_GridsTurns.f k a0_0 a0_1 a0_2 a0_3 a0_4 a0_5 a0_6 a0_7 a1_0 a1_1 = some r) :
    Calls Try.prog 5 #[.agg #[.int .i64 a0_0, .int .i64 a0_1, .int .i64 a0_2, .int .i64 a0_3, .int .i64 a0_4, .int .i64 a0_5, .int .i64 a0_6, .int .i64 a0_7], .agg #[.int .i64 a1_0, .int .i64 a1_1]] w fun e w' => e = .returned (.bool r) ∧ Below w.heap.size w w' := by
  have hu39 := Try.underlying39
  have hu37 := Try.underlying37
  have HB := Aside0.mk (Below.refl w.heap.size w)
  have H : ((grids_Turn.f k a0_0 a0_1 a0_2 a0_3 a0_4 a0_5 a0_6 a0_7).bind fun bt738 => ((grids_Turn.f k a0_0 a0_1 a0_2 a0_3 a0_6 a0_7 a0_4 a0_5).bind fun bt740 => (if bt738.2 = 0 then ((grids_Turn.f k a0_0 a0_1 a0_2 a0_3 a0_2 a0_3 a0_4 a0_5).bind fun bt743 => (if bt740.2 = 0 then (if bt743.2 = 0 then ((some (wrap64 (-bt740.1))).bind fun z745 => (if bt738.1 = z745 then (torchonlaw06_GridsTurns.j0 k bt738.1 (decide (bt743.1 > 0)) a0_0 a0_1 a0_2 a0_3 a0_4 a0_5 a0_6 a0_7 a1_0 a1_1) else (torchonlaw06_GridsTurns.j0 k bt738.1 true a0_0 a0_1 a0_2 a0_3 a0_4 a0_5 a0_6 a0_7 a1_0 a1_1))) else (torchonlaw06_GridsTurns.j0 k bt738.1 true a0_0 a0_1 a0_2 a0_3 a0_4 a0_5 a0_6 a0_7 a1_0 a1_1)) else (torchonlaw06_GridsTurns.j0 k bt738.1 true a0_0 a0_1 a0_2 a0_3 a0_4 a0_5 a0_6 a0_7 a1_0 a1_1))) else (if bt738.2 = bt740.2 then (if bt738.1 = 0 then ((torchonlaw06_awake.f k).bind fun t742 => (some t742)) else (none)) else (none))))) = some r := h
  clear h
  replace H := Option.bind_eq_some_iff.mp H
  obtain ⟨⟨t738, t739⟩, A30, H⟩ := H
  replace H : ((grids_Turn.f k a0_0 a0_1 a0_2 a0_3 a0_6 a0_7 a0_4 a0_5).bind fun bt740 => (if t739 = 0 then ((grids_Turn.f k a0_0 a0_1 a0_2 a0_3 a0_2 a0_3 a0_4 a0_5).bind fun bt743 => (if bt740.2 = 0 then (if bt743.2 = 0 then ((some (wrap64 (-bt740.1))).bind fun z745 => (if t738 = z745 then (torchonlaw06_GridsTurns.j0 k t738 (decide (bt743.1 > 0)) a0_0 a0_1 a0_2 a0_3 a0_4 a0_5 a0_6 a0_7 a1_0 a1_1) else (torchonlaw06_GridsTurns.j0 k t738 true a0_0 a0_1 a0_2 a0_3 a0_4 a0_5 a0_6 a0_7 a1_0 a1_1))) else (torchonlaw06_GridsTurns.j0 k t738 true a0_0 a0_1 a0_2 a0_3 a0_4 a0_5 a0_6 a0_7 a1_0 a1_1)) else (torchonlaw06_GridsTurns.j0 k t738 true a0_0 a0_1 a0_2 a0_3 a0_4 a0_5 a0_6 a0_7 a1_0 a1_1))) else (if t739 = bt740.2 then (if t738 = 0 then ((torchonlaw06_awake.f k).bind fun t742 => (some t742)) else (none)) else (none)))) = some r := H
  have A3 := Aside0.mk A30
  clear A30
  replace H := Option.bind_eq_some_iff.mp H
  obtain ⟨⟨t740, t741⟩, A40, H⟩ := H
  replace H : (if t739 = 0 then ((grids_Turn.f k a0_0 a0_1 a0_2 a0_3 a0_2 a0_3 a0_4 a0_5).bind fun bt743 => (if t741 = 0 then (if bt743.2 = 0 then ((some (wrap64 (-t740))).bind fun z745 => (if t738 = z745 then (torchonlaw06_GridsTurns.j0 k t738 (decide (bt743.1 > 0)) a0_0 a0_1 a0_2 a0_3 a0_4 a0_5 a0_6 a0_7 a1_0 a1_1) else (torchonlaw06_GridsTurns.j0 k t738 true a0_0 a0_1 a0_2 a0_3 a0_4 a0_5 a0_6 a0_7 a1_0 a1_1))) else (torchonlaw06_GridsTurns.j0 k t738 true a0_0 a0_1 a0_2 a0_3 a0_4 a0_5 a0_6 a0_7 a1_0 a1_1)) else (torchonlaw06_GridsTurns.j0 k t738 true a0_0 a0_1 a0_2 a0_3 a0_4 a0_5 a0_6 a0_7 a1_0 a1_1))) else (if t739 = t741 then (if t738 = 0 then ((torchonlaw06_awake.f k).bind fun t742 => (some t742)) else (none)) else (none))) = some r := H
  have A4 := Aside0.mk A40
  clear A40
  by_cases c5 : t739 = 0
  · rw [if_pos c5] at H
    have c5b0 : (t739 == 0) = true := beq_iff_eq.mpr c5
    have c5b1 : (t739 != 0) = false := bne_eq_false_iff_eq.mpr c5
    clear c5
    replace H := Option.bind_eq_some_iff.mp H
    obtain ⟨⟨t743, t744⟩, A60, H⟩ := H
    replace H : (if t741 = 0 then (if t744 = 0 then ((some (wrap64 (-t740))).bind fun z745 => (if t738 = z745 then (torchonlaw06_GridsTurns.j0 k t738 (decide (t743 > 0)) a0_0 a0_1 a0_2 a0_3 a0_4 a0_5 a0_6 a0_7 a1_0 a1_1) else (torchonlaw06_GridsTurns.j0 k t738 true a0_0 a0_1 a0_2 a0_3 a0_4 a0_5 a0_6 a0_7 a1_0 a1_1))) else (torchonlaw06_GridsTurns.j0 k t738 true a0_0 a0_1 a0_2 a0_3 a0_4 a0_5 a0_6 a0_7 a1_0 a1_1)) else (torchonlaw06_GridsTurns.j0 k t738 true a0_0 a0_1 a0_2 a0_3 a0_4 a0_5 a0_6 a0_7 a1_0 a1_1)) = some r := H
    have A6 := Aside0.mk A60
    clear A60
    have HC7 := Aside0.mk H
    clear H
    go_enter Try.func5, Try.ntmps5
    go_upto_region 6 with (first | ((with_reducible refine gate_dst (N := 2) rfl ?_); refine box_event ?hg (N := 2) ?hd (cs := #[.int .i64 a0_0, .int .i64 a0_1, .int .i64 a0_2, .int .i64 a0_3, .int .i64 a0_4, .int .i64 a0_5, .int .i64 a0_6, .int .i64 a0_7]) (t := 39) ?hr ?_; (case hd => rfl); (case hg => rfl); (case hr => first | (go_simp; done) | (go_simp; rfl)); intro gb736 hg w8 hbox hb; have BK736 := Aside0.mk (hbox); have GW736 := Aside0.mk ((by rw [hg]; exact (below_size (bnow HB)) : w.heap.size ≤ gb736)); have GE736 := Aside0.mk ((by rw [hg]; exact (below_size (bnow HB)) : w.heap.size ≤ gb736)); replace HB := bst HB hb; clear hb hbox hg) | ((with_reducible refine gate_dst (N := 3) rfl ?_); refine box_event ?hg (N := 3) ?hd (cs := #[.int .i64 a1_0, .int .i64 a1_1]) (t := 37) ?hr ?_; (case hd => rfl); (case hg => rfl); (case hr => first | (go_simp; done) | (go_simp; rfl)); intro gb737 hg w9 hbox hb; have BK737 := Aside0.mk (hbox); have GW737 := Aside0.mk ((by rw [hg]; exact (below_size (bnow HB)) : w.heap.size ≤ gb737)); have GE737 := Aside0.mk ((by rw [hg]; exact (below_size (bnow HB)) : w.heap.size ≤ gb737)); have NB736_737 := Aside0.mk ((by rw [hg]; exact Nat.ne_of_lt (blk_lt (g := gb736) (o := .cells #[.int .i64 a0_0, .int .i64 a0_1, .int .i64 a0_2, .int .i64 a0_3, .int .i64 a0_4, .int .i64 a0_5, .int .i64 a0_6, .int .i64 a0_7] 39 (0, 0)) (pk BK736)) : gb736 ≠ gb737)); have NB737_736 := Aside0.mk ((by rw [hg]; exact Nat.ne_of_gt (blk_lt (g := gb736) (o := .cells #[.int .i64 a0_0, .int .i64 a0_1, .int .i64 a0_2, .int .i64 a0_3, .int .i64 a0_4, .int .i64 a0_5, .int .i64 a0_6, .int .i64 a0_7] 39 (0, 0)) (pk BK736)) : gb737 ≠ gb736)); replace BK736 := bb BK736 hb; replace HB := bst HB hb; clear hb hbox hg; have hnb10 := NB736_737.out; have hnc10 := NB737_736.out; have hcz11_0 : w9.cell? ⟨gb736, 0, none⟩ = some (.int .i64 a0_0) := (blk_cell BK736.out 0).trans rfl; have hcz11_1 : w9.cell? ⟨gb736, 1, none⟩ = some (.int .i64 a0_1) := (blk_cell BK736.out 1).trans rfl; have hcz11_2 : w9.cell? ⟨gb736, 2, none⟩ = some (.int .i64 a0_2) := (blk_cell BK736.out 2).trans rfl; have hcz11_3 : w9.cell? ⟨gb736, 3, none⟩ = some (.int .i64 a0_3) := (blk_cell BK736.out 3).trans rfl; have hcz11_4 : w9.cell? ⟨gb736, 4, none⟩ = some (.int .i64 a0_4) := (blk_cell BK736.out 4).trans rfl; have hcz11_5 : w9.cell? ⟨gb736, 5, none⟩ = some (.int .i64 a0_5) := (blk_cell BK736.out 5).trans rfl; have hcz11_6 : w9.cell? ⟨gb736, 6, none⟩ = some (.int .i64 a0_6) := (blk_cell BK736.out 6).trans rfl; have hcz11_7 : w9.cell? ⟨gb736, 7, none⟩ = some (.int .i64 a0_7) := (blk_cell BK736.out 7).trans rfl; have hfz11_0 := blk_frozen BK736.out 0; have hfz11_1 := blk_frozen BK736.out 1; have hfz11_2 := blk_frozen BK736.out 2; have hfz11_3 := blk_frozen BK736.out 3; have hfz11_4 := blk_frozen BK736.out 4; have hfz11_5 := blk_frozen BK736.out 5; have hfz11_6 := blk_frozen BK736.out 6; have hfz11_7 := blk_frozen BK736.out 7) | ((with_reducible refine gate_callee (f := 18) rfl ?_); refine goesL_ (some 24) rfl rfl Try.func18 (by kernel_rfl) rfl #[.agg #[.int .i64 a0_0, .int .i64 a0_1], .agg #[.int .i64 a0_2, .int .i64 a0_3], .agg #[.int .i64 a0_4, .int .i64 a0_5], .agg #[.int .i64 a0_6, .int .i64 a0_7]] rfl am ?_; (with_reducible refine (grids_Turn.calls k a0_0 a0_1 a0_2 a0_3 a0_4 a0_5 a0_6 a0_7 t738 t739 _ A3.out).mono ?_); rintro e w12 ⟨rfl, hb⟩; refine ⟨_, rfl, ?_⟩; replace BK736 := bb BK736 hb; replace BK737 := bb BK737 hb; replace HB := bst HB hb; clear hb; have hcz13_0 : w12.cell? ⟨gb736, 0, none⟩ = some (.int .i64 a0_0) := (blk_cell BK736.out 0).trans rfl; have hcz13_1 : w12.cell? ⟨gb736, 1, none⟩ = some (.int .i64 a0_1) := (blk_cell BK736.out 1).trans rfl; have hcz13_2 : w12.cell? ⟨gb736, 2, none⟩ = some (.int .i64 a0_2) := (blk_cell BK736.out 2).trans rfl; have hcz13_3 : w12.cell? ⟨gb736, 3, none⟩ = some (.int .i64 a0_3) := (blk_cell BK736.out 3).trans rfl; have hcz13_4 : w12.cell? ⟨gb736, 4, none⟩ = some (.int .i64 a0_4) := (blk_cell BK736.out 4).trans rfl; have hcz13_5 : w12.cell? ⟨gb736, 5, none⟩ = some (.int .i64 a0_5) := (blk_cell BK736.out 5).trans rfl; have hcz13_6 : w12.cell? ⟨gb736, 6, none⟩ = some (.int .i64 a0_6) := (blk_cell BK736.out 6).trans rfl; have hcz13_7 : w12.cell? ⟨gb736, 7, none⟩ = some (.int .i64 a0_7) := (blk_cell BK736.out 7).trans rfl; have hfz13_0 := blk_frozen BK736.out 0; have hfz13_1 := blk_frozen BK736.out 1; have hfz13_2 := blk_frozen BK736.out 2; have hfz13_3 := blk_frozen BK736.out 3; have hfz13_4 := blk_frozen BK736.out 4; have hfz13_5 := blk_frozen BK736.out 5; have hfz13_6 := blk_frozen BK736.out 6; have hfz13_7 := blk_frozen BK736.out 7) | ((with_reducible refine gate_callee (f := 18) rfl ?_); refine goesL_ (some 36) rfl rfl Try.func18 (by kernel_rfl) rfl #[.agg #[.int .i64 a0_0, .int .i64 a0_1], .agg #[.int .i64 a0_2, .int .i64 a0_3], .agg #[.int .i64 a0_6, .int .i64 a0_7], .agg #[.int .i64 a0_4, .int .i64 a0_5]] rfl am ?_; (with_reducible refine (grids_Turn.calls k a0_0 a0_1 a0_2 a0_3 a0_6 a0_7 a0_4 a0_5 t740 t741 _ A4.out).mono ?_); rintro e w14 ⟨rfl, hb⟩; refine ⟨_, rfl, ?_⟩; replace BK736 := bb BK736 hb; replace BK737 := bb BK737 hb; replace HB := bst HB hb; clear hb; have hcz15_0 : w14.cell? ⟨gb736, 0, none⟩ = some (.int .i64 a0_0) := (blk_cell BK736.out 0).trans rfl; have hcz15_1 : w14.cell? ⟨gb736, 1, none⟩ = some (.int .i64 a0_1) := (blk_cell BK736.out 1).trans rfl; have hcz15_2 : w14.cell? ⟨gb736, 2, none⟩ = some (.int .i64 a0_2) := (blk_cell BK736.out 2).trans rfl; have hcz15_3 : w14.cell? ⟨gb736, 3, none⟩ = some (.int .i64 a0_3) := (blk_cell BK736.out 3).trans rfl; have hcz15_4 : w14.cell? ⟨gb736, 4, none⟩ = some (.int .i64 a0_4) := (blk_cell BK736.out 4).trans rfl; have hcz15_5 : w14.cell? ⟨gb736, 5, none⟩ = some (.int .i64 a0_5) := (blk_cell BK736.out 5).trans rfl; have hcz15_6 : w14.cell? ⟨gb736, 6, none⟩ = some (.int .i64 a0_6) := (blk_cell BK736.out 6).trans rfl; have hcz15_7 : w14.cell? ⟨gb736, 7, none⟩ = some (.int .i64 a0_7) := (blk_cell BK736.out 7).trans rfl; have hfz15_0 := blk_frozen BK736.out 0; have hfz15_1 := blk_frozen BK736.out 1; have hfz15_2 := blk_frozen BK736.out 2; have hfz15_3 := blk_frozen BK736.out 3; have hfz15_4 := blk_frozen BK736.out 4; have hfz15_5 := blk_frozen BK736.out 5; have hfz15_6 := blk_frozen BK736.out 6; have hfz15_7 := blk_frozen BK736.out 7) | ((with_reducible refine gate_callee (f := 18) rfl ?_); refine goesL_ (some 60) rfl rfl Try.func18 (by kernel_rfl) rfl #[.agg #[.int .i64 a0_0, .int .i64 a0_1], .agg #[.int .i64 a0_2, .int .i64 a0_3], .agg #[.int .i64 a0_2, .int .i64 a0_3], .agg #[.int .i64 a0_4, .int .i64 a0_5]] rfl am ?_; (with_reducible refine (grids_Turn.calls k a0_0 a0_1 a0_2 a0_3 a0_2 a0_3 a0_4 a0_5 t743 t744 _ A6.out).mono ?_); rintro e w16 ⟨rfl, hb⟩; refine ⟨_, rfl, ?_⟩; replace BK736 := bb BK736 hb; replace BK737 := bb BK737 hb; replace HB := bst HB hb; clear hb))
    (try simp only [Act.put, List.setIfInBounds_toArray, List.set_cons_zero, List.set_cons_succ])
    go_cut [78] (fun v78 wc => ∃ (kq : Nat) (x78_6 : Bool), v78 = .bool x78_6 ∧ Aside0 (torchonlaw06_GridsTurns.j0 kq t738 x78_6 a0_0 a0_1 a0_2 a0_3 a0_4 a0_5 a0_6 a0_7 a1_0 a1_1 = some r) ∧ Aside0 (kq ≤ k) ∧ Aside0 (wc.heap[gb736]? = some (.cells #[.int .i64 a0_0, .int .i64 a0_1, .int .i64 a0_2, .int .i64 a0_3, .int .i64 a0_4, .int .i64 a0_5, .int .i64 a0_6, .int .i64 a0_7] 39 (0, 0))) ∧ Aside0 (wc.heap[gb737]? = some (.cells #[.int .i64 a1_0, .int .i64 a1_1] 37 (0, 0))) ∧ Aside0 (Below w.heap.size w wc))
    case first =>
      have H := HC7.out
      clear HC7
      by_cases c17 : t741 = 0
      · rw [if_pos c17] at H
        have c17b0 : (t741 == 0) = true := beq_iff_eq.mpr c17
        have c17b1 : (t741 != 0) = false := bne_eq_false_iff_eq.mpr c17
        clear c17
        (first | rw [c17b0] | (simp only [i64_w, i32_w]; rw [c17b0]) | skip)
        by_cases c18 : t744 = 0
        · rw [if_pos c18] at H
          have c18b0 : (t744 == 0) = true := beq_iff_eq.mpr c18
          have c18b1 : (t744 != 0) = false := bne_eq_false_iff_eq.mpr c18
          clear c18
          replace H := Option.bind_eq_some_iff.mp H
          obtain ⟨z745, E190, H⟩ := H
          replace H : (if t738 = z745 then (torchonlaw06_GridsTurns.j0 k t738 (decide (t743 > 0)) a0_0 a0_1 a0_2 a0_3 a0_4 a0_5 a0_6 a0_7 a1_0 a1_1) else (torchonlaw06_GridsTurns.j0 k t738 true a0_0 a0_1 a0_2 a0_3 a0_4 a0_5 a0_6 a0_7 a1_0 a1_1)) = some r := H
          replace E190 := Option.some.inj E190
          have E19w : (IntKind.i64.wrap (-t740)) = z745 := (i64_w _).trans E190
          by_cases c20 : t738 = z745
          · rw [if_pos c20] at H
            have c20b0 : (t738 == z745) = true := beq_iff_eq.mpr c20
            have c20b1 : (t738 != z745) = false := bne_eq_false_iff_eq.mpr c20
            clear c20
            have H' := Aside0.mk H
            clear H
            go_wp2
            go_meet
            case rel => exact ⟨_, (decide (t743 > 0)), (by first | rfl | (simp; done) | (simp [*]; done)), H', ⟨by first | omega | exact Nat.le_refl _⟩, ⟨pk BK736⟩, ⟨pk BK737⟩, ⟨bnow HB⟩⟩
          · rw [if_neg c20] at H
            have c20b0 : (t738 == z745) = false := beq_eq_false_iff_ne.mpr c20
            have c20b1 : (t738 != z745) = true := bne_iff_ne.mpr c20
            have H' := Aside0.mk H
            clear H
            go_wp2
            go_meet
            case rel => exact ⟨_, (true), (by first | rfl | (simp; done) | (simp [*]; done)), H', ⟨by first | omega | exact Nat.le_refl _⟩, ⟨pk BK736⟩, ⟨pk BK737⟩, ⟨bnow HB⟩⟩
        · rw [if_neg c18] at H
          have c18b0 : (t744 == 0) = false := beq_eq_false_iff_ne.mpr c18
          have c18b1 : (t744 != 0) = true := bne_iff_ne.mpr c18
          have H' := Aside0.mk H
          clear H
          go_wp2
          go_meet
          case rel => exact ⟨_, (true), (by first | rfl | (simp; done) | (simp [*]; done)), H', ⟨by first | omega | exact Nat.le_refl _⟩, ⟨pk BK736⟩, ⟨pk BK737⟩, ⟨bnow HB⟩⟩
      · rw [if_neg c17] at H
        have c17b0 : (t741 == 0) = false := beq_eq_false_iff_ne.mpr c17
        have c17b1 : (t741 != 0) = true := bne_iff_ne.mpr c17
        (first | rw [c17b0] | (simp only [i64_w, i32_w]; rw [c17b0]) | skip)
        have H' := Aside0.mk H
        clear H
        go_wp2
        go_meet
        case rel => exact ⟨_, (true), (by first | rfl | (simp; done) | (simp [*]; done)), H', ⟨by first | omega | exact Nat.le_refl _⟩, ⟨pk BK736⟩, ⟨pk BK737⟩, ⟨bnow HB⟩⟩
    case rest =>
      clear HC7
      try clear c1
      try clear c2
      try clear p2
      try clear c5
      try clear c5b0
      try clear c5b1
      try clear p6
      try clear c10
      try clear c17
      try clear c17b0
      try clear c17b1
      try clear c18
      try clear c18b0
      try clear c18b1
      try clear c20
      try clear c20b0
      try clear c20b1
      try clear hcz11_0
      try clear hcz11_1
      try clear hcz11_2
      try clear hcz11_3
      try clear hcz11_4
      try clear hcz11_5
      try clear hcz11_6
      try clear hcz11_7
      try clear hcz13_0
      try clear hcz13_1
      try clear hcz13_2
      try clear hcz13_3
      try clear hcz13_4
      try clear hcz13_5
      try clear hcz13_6
      try clear hcz13_7
      try clear hcz15_0
      try clear hcz15_1
      try clear hcz15_2
      try clear hcz15_3
      try clear hcz15_4
      try clear hcz15_5
      try clear hcz15_6
      try clear hcz15_7
      try clear hfz11_0
      try clear hfz11_1
      try clear hfz11_2
      try clear hfz11_3
      try clear hfz11_4
      try clear hfz11_5
      try clear hfz11_6
      try clear hfz11_7
      try clear hfz13_0
      try clear hfz13_1
      try clear hfz13_2
      try clear hfz13_3
      try clear hfz13_4
      try clear hfz13_5
      try clear hfz13_6
      try clear hfz13_7
      try clear hfz15_0
      try clear hfz15_1
      try clear hfz15_2
      try clear hfz15_3
      try clear hfz15_4
      try clear hfz15_5
      try clear hfz15_6
      try clear hfz15_7
      obtain ⟨kq, x78_6, rfl, HA, HJ6, BK736, BK737, HB⟩ := hcut
      cases kq with
      | zero => exact absurd HA.out (by simp [torchonlaw06_GridsTurns.j0])
      | succ kj6 =>
        have H := HA.out
        clear HA
        simp only [torchonlaw06_GridsTurns.j0] at H
        by_cases c21 : x78_6 = true
        · subst c21
          have H1 : (none) = some r := by rw [if_pos rfl] at H; exact H
          clear H
          have H := H1
          clear H1
          exact absurd H (by simp)
        · replace c21 := Bool.eq_false_iff.mpr c21
          subst c21
          have H1 : ((grids_Turn.f kj6 a0_0 a0_1 a0_2 a0_3 a0_6 a0_7 a1_0 a1_1).bind fun bt746 => ((grids_Turn.f kj6 a0_0 a0_1 a0_2 a0_3 a0_4 a0_5 a1_0 a1_1).bind fun bt748 => (if bt746.2 = 0 then (if bt748.2 = 0 then (if t738 > 0 then ((torchonlaw06_awake.f kj6).bind fun t751 => (some t751)) else (if bt746.1 > 0 then ((torchonlaw06_awake.f kj6).bind fun t752 => (some t752)) else (if bt748.1 ≤ 0 then (if t738 = 0 then (if ((bt746.1 == 0) == (bt748.1 == 0)) = true then ((torchonlaw06_awake.f kj6).bind fun t753 => (some t753)) else (none)) else (if (false == (bt748.1 == 0)) = true then ((torchonlaw06_awake.f kj6).bind fun t754 => (some t754)) else (none))) else (none)))) else (none)) else (if bt746.2 = bt748.2 then ((torchonlaw06_awake.f kj6).bind fun t750 => (some t750)) else (none))))) = some r := by rw [if_neg (show ¬ (false = true) by decide)] at H; exact H
          clear H
          have H := H1
          clear H1
          replace H := Option.bind_eq_some_iff.mp H
          obtain ⟨⟨t746, t747⟩, A220, H⟩ := H
          replace H : ((grids_Turn.f kj6 a0_0 a0_1 a0_2 a0_3 a0_4 a0_5 a1_0 a1_1).bind fun bt748 => (if t747 = 0 then (if bt748.2 = 0 then (if t738 > 0 then ((torchonlaw06_awake.f kj6).bind fun t751 => (some t751)) else (if t746 > 0 then ((torchonlaw06_awake.f kj6).bind fun t752 => (some t752)) else (if bt748.1 ≤ 0 then (if t738 = 0 then (if ((t746 == 0) == (bt748.1 == 0)) = true then ((torchonlaw06_awake.f kj6).bind fun t753 => (some t753)) else (none)) else (if (false == (bt748.1 == 0)) = true then ((torchonlaw06_awake.f kj6).bind fun t754 => (some t754)) else (none))) else (none)))) else (none)) else (if t747 = bt748.2 then ((torchonlaw06_awake.f kj6).bind fun t750 => (some t750)) else (none)))) = some r := H
          have A22 := Aside0.mk A220
          clear A220
          replace H := Option.bind_eq_some_iff.mp H
          obtain ⟨⟨t748, t749⟩, A230, H⟩ := H
          replace H : (if t747 = 0 then (if t749 = 0 then (if t738 > 0 then ((torchonlaw06_awake.f kj6).bind fun t751 => (some t751)) else (if t746 > 0 then ((torchonlaw06_awake.f kj6).bind fun t752 => (some t752)) else (if t748 ≤ 0 then (if t738 = 0 then (if ((t746 == 0) == (t748 == 0)) = true then ((torchonlaw06_awake.f kj6).bind fun t753 => (some t753)) else (none)) else (if (false == (t748 == 0)) = true then ((torchonlaw06_awake.f kj6).bind fun t754 => (some t754)) else (none))) else (none)))) else (none)) else (if t747 = t749 then ((torchonlaw06_awake.f kj6).bind fun t750 => (some t750)) else (none))) = some r := H
          have A23 := Aside0.mk A230
          clear A230
          by_cases c24 : t747 = 0
          · rw [if_pos c24] at H
            have c24b0 : (t747 == 0) = true := beq_iff_eq.mpr c24
            have c24b1 : (t747 != 0) = false := bne_eq_false_iff_eq.mpr c24
            clear c24
            by_cases c25 : t749 = 0
            · rw [if_pos c25] at H
              have c25b0 : (t749 == 0) = true := beq_iff_eq.mpr c25
              have c25b1 : (t749 != 0) = false := bne_eq_false_iff_eq.mpr c25
              clear c25
              by_cases c26 : t738 > 0
              · rw [if_pos c26] at H
                have c26b0 : decide (0 < t738) = true := decide_eq_true c26
                clear c26
                replace H := Option.bind_eq_some_iff.mp H
                obtain ⟨t751, A270, H⟩ := H
                replace H : (some t751) = some r := H
                have A27 := Aside0.mk A270
                clear A270
                obtain rfl := Option.some.inj H
                have hnb28 := NB736_737.out
                have hnc28 := NB737_736.out
                have hcz29_0 : wc.cell? ⟨gb736, 0, none⟩ = some (.int .i64 a0_0) := (blk_cell BK736.out 0).trans rfl
                have hcz29_1 : wc.cell? ⟨gb736, 1, none⟩ = some (.int .i64 a0_1) := (blk_cell BK736.out 1).trans rfl
                have hcz29_2 : wc.cell? ⟨gb736, 2, none⟩ = some (.int .i64 a0_2) := (blk_cell BK736.out 2).trans rfl
                have hcz29_3 : wc.cell? ⟨gb736, 3, none⟩ = some (.int .i64 a0_3) := (blk_cell BK736.out 3).trans rfl
                have hcz29_4 : wc.cell? ⟨gb736, 4, none⟩ = some (.int .i64 a0_4) := (blk_cell BK736.out 4).trans rfl
                have hcz29_5 : wc.cell? ⟨gb736, 5, none⟩ = some (.int .i64 a0_5) := (blk_cell BK736.out 5).trans rfl
                have hcz29_6 : wc.cell? ⟨gb736, 6, none⟩ = some (.int .i64 a0_6) := (blk_cell BK736.out 6).trans rfl
                have hcz29_7 : wc.cell? ⟨gb736, 7, none⟩ = some (.int .i64 a0_7) := (blk_cell BK736.out 7).trans rfl
                have hfz29_0 := blk_frozen BK736.out 0
                have hfz29_1 := blk_frozen BK736.out 1
                have hfz29_2 := blk_frozen BK736.out 2
                have hfz29_3 := blk_frozen BK736.out 3
                have hfz29_4 := blk_frozen BK736.out 4
                have hfz29_5 := blk_frozen BK736.out 5
                have hfz29_6 := blk_frozen BK736.out 6
                have hfz29_7 := blk_frozen BK736.out 7
                have hcz30_0 : wc.cell? ⟨gb737, 0, none⟩ = some (.int .i64 a1_0) := (blk_cell BK737.out 0).trans rfl
                have hcz30_1 : wc.cell? ⟨gb737, 1, none⟩ = some (.int .i64 a1_1) := (blk_cell BK737.out 1).trans rfl
                have hfz30_0 := blk_frozen BK737.out 0
                have hfz30_1 := blk_frozen BK737.out 1
                go_wp2_with (first | ((with_reducible refine gate_callee (f := 18) rfl ?_); refine goesL_ (some 87) rfl rfl Try.func18 (by kernel_rfl) rfl #[.agg #[.int .i64 a0_0, .int .i64 a0_1], .agg #[.int .i64 a0_2, .int .i64 a0_3], .agg #[.int .i64 a0_6, .int .i64 a0_7], .agg #[.int .i64 a1_0, .int .i64 a1_1]] rfl am ?_; (with_reducible refine (grids_Turn.calls kj6 a0_0 a0_1 a0_2 a0_3 a0_6 a0_7 a1_0 a1_1 t746 t747 _ A22.out).mono ?_); rintro e w31 ⟨rfl, hb⟩; refine ⟨_, rfl, ?_⟩; replace BK736 := bb BK736 hb; replace BK737 := bb BK737 hb; replace HB := bst HB hb; clear hb; have hcz32_0 : w31.cell? ⟨gb736, 0, none⟩ = some (.int .i64 a0_0) := (blk_cell BK736.out 0).trans rfl; have hcz32_1 : w31.cell? ⟨gb736, 1, none⟩ = some (.int .i64 a0_1) := (blk_cell BK736.out 1).trans rfl; have hcz32_2 : w31.cell? ⟨gb736, 2, none⟩ = some (.int .i64 a0_2) := (blk_cell BK736.out 2).trans rfl; have hcz32_3 : w31.cell? ⟨gb736, 3, none⟩ = some (.int .i64 a0_3) := (blk_cell BK736.out 3).trans rfl; have hcz32_4 : w31.cell? ⟨gb736, 4, none⟩ = some (.int .i64 a0_4) := (blk_cell BK736.out 4).trans rfl; have hcz32_5 : w31.cell? ⟨gb736, 5, none⟩ = some (.int .i64 a0_5) := (blk_cell BK736.out 5).trans rfl; have hcz32_6 : w31.cell? ⟨gb736, 6, none⟩ = some (.int .i64 a0_6) := (blk_cell BK736.out 6).trans rfl; have hcz32_7 : w31.cell? ⟨gb736, 7, none⟩ = some (.int .i64 a0_7) := (blk_cell BK736.out 7).trans rfl; have hfz32_0 := blk_frozen BK736.out 0; have hfz32_1 := blk_frozen BK736.out 1; have hfz32_2 := blk_frozen BK736.out 2; have hfz32_3 := blk_frozen BK736.out 3; have hfz32_4 := blk_frozen BK736.out 4; have hfz32_5 := blk_frozen BK736.out 5; have hfz32_6 := blk_frozen BK736.out 6; have hfz32_7 := blk_frozen BK736.out 7; have hcz33_0 : w31.cell? ⟨gb737, 0, none⟩ = some (.int .i64 a1_0) := (blk_cell BK737.out 0).trans rfl; have hcz33_1 : w31.cell? ⟨gb737, 1, none⟩ = some (.int .i64 a1_1) := (blk_cell BK737.out 1).trans rfl; have hfz33_0 := blk_frozen BK737.out 0; have hfz33_1 := blk_frozen BK737.out 1) | ((with_reducible refine gate_callee (f := 18) rfl ?_); refine goesL_ (some 98) rfl rfl Try.func18 (by kernel_rfl) rfl #[.agg #[.int .i64 a0_0, .int .i64 a0_1], .agg #[.int .i64 a0_2, .int .i64 a0_3], .agg #[.int .i64 a0_4, .int .i64 a0_5], .agg #[.int .i64 a1_0, .int .i64 a1_1]] rfl am ?_; (with_reducible refine (grids_Turn.calls kj6 a0_0 a0_1 a0_2 a0_3 a0_4 a0_5 a1_0 a1_1 t748 t749 _ A23.out).mono ?_); rintro e w34 ⟨rfl, hb⟩; refine ⟨_, rfl, ?_⟩; replace BK736 := bb BK736 hb; replace BK737 := bb BK737 hb; replace HB := bst HB hb; clear hb) | (go_at_call 13; (with_reducible refine (torchonlaw06_awake.calls kj6  t751 _ A27.out).mono ?_); rintro e w35 ⟨rfl, hb⟩; replace BK736 := bb BK736 hb; replace BK737 := bb BK737 hb; replace HB := bst HB hb; clear hb))
                go_ret
                exact ⟨by first | rfl | (simp [errW_none, errW_some] <;> rfl) | (simp [*, errW_none, errW_some] <;> rfl), by repeat (first | (with_reducible first | exact HB.out | apply below_alloc | apply pw_below_drewN | apply below_drew1 | refine below_set ?_ GE736.out | refine below_set ?_ GE737.out) | exact HB.out)⟩
              · rw [if_neg c26] at H
                have c26b0 : decide (0 < t738) = false := decide_eq_false c26
                clear c26
                by_cases c36 : t746 > 0
                · rw [if_pos c36] at H
                  have c36b0 : decide (0 < t746) = true := decide_eq_true c36
                  clear c36
                  replace H := Option.bind_eq_some_iff.mp H
                  obtain ⟨t752, A370, H⟩ := H
                  replace H : (some t752) = some r := H
                  have A37 := Aside0.mk A370
                  clear A370
                  obtain rfl := Option.some.inj H
                  have hnb38 := NB736_737.out
                  have hnc38 := NB737_736.out
                  have hcz39_0 : wc.cell? ⟨gb736, 0, none⟩ = some (.int .i64 a0_0) := (blk_cell BK736.out 0).trans rfl
                  have hcz39_1 : wc.cell? ⟨gb736, 1, none⟩ = some (.int .i64 a0_1) := (blk_cell BK736.out 1).trans rfl
                  have hcz39_2 : wc.cell? ⟨gb736, 2, none⟩ = some (.int .i64 a0_2) := (blk_cell BK736.out 2).trans rfl
                  have hcz39_3 : wc.cell? ⟨gb736, 3, none⟩ = some (.int .i64 a0_3) := (blk_cell BK736.out 3).trans rfl
                  have hcz39_4 : wc.cell? ⟨gb736, 4, none⟩ = some (.int .i64 a0_4) := (blk_cell BK736.out 4).trans rfl
                  have hcz39_5 : wc.cell? ⟨gb736, 5, none⟩ = some (.int .i64 a0_5) := (blk_cell BK736.out 5).trans rfl
                  have hcz39_6 : wc.cell? ⟨gb736, 6, none⟩ = some (.int .i64 a0_6) := (blk_cell BK736.out 6).trans rfl
                  have hcz39_7 : wc.cell? ⟨gb736, 7, none⟩ = some (.int .i64 a0_7) := (blk_cell BK736.out 7).trans rfl
                  have hfz39_0 := blk_frozen BK736.out 0
                  have hfz39_1 := blk_frozen BK736.out 1
                  have hfz39_2 := blk_frozen BK736.out 2
                  have hfz39_3 := blk_frozen BK736.out 3
                  have hfz39_4 := blk_frozen BK736.out 4
                  have hfz39_5 := blk_frozen BK736.out 5
                  have hfz39_6 := blk_frozen BK736.out 6
                  have hfz39_7 := blk_frozen BK736.out 7
                  have hcz40_0 : wc.cell? ⟨gb737, 0, none⟩ = some (.int .i64 a1_0) := (blk_cell BK737.out 0).trans rfl
                  have hcz40_1 : wc.cell? ⟨gb737, 1, none⟩ = some (.int .i64 a1_1) := (blk_cell BK737.out 1).trans rfl
                  have hfz40_0 := blk_frozen BK737.out 0
                  have hfz40_1 := blk_frozen BK737.out 1
                  go_wp2_with (first | ((with_reducible refine gate_callee (f := 18) rfl ?_); refine goesL_ (some 87) rfl rfl Try.func18 (by kernel_rfl) rfl #[.agg #[.int .i64 a0_0, .int .i64 a0_1], .agg #[.int .i64 a0_2, .int .i64 a0_3], .agg #[.int .i64 a0_6, .int .i64 a0_7], .agg #[.int .i64 a1_0, .int .i64 a1_1]] rfl am ?_; (with_reducible refine (grids_Turn.calls kj6 a0_0 a0_1 a0_2 a0_3 a0_6 a0_7 a1_0 a1_1 t746 t747 _ A22.out).mono ?_); rintro e w41 ⟨rfl, hb⟩; refine ⟨_, rfl, ?_⟩; replace BK736 := bb BK736 hb; replace BK737 := bb BK737 hb; replace HB := bst HB hb; clear hb; have hcz42_0 : w41.cell? ⟨gb736, 0, none⟩ = some (.int .i64 a0_0) := (blk_cell BK736.out 0).trans rfl; have hcz42_1 : w41.cell? ⟨gb736, 1, none⟩ = some (.int .i64 a0_1) := (blk_cell BK736.out 1).trans rfl; have hcz42_2 : w41.cell? ⟨gb736, 2, none⟩ = some (.int .i64 a0_2) := (blk_cell BK736.out 2).trans rfl; have hcz42_3 : w41.cell? ⟨gb736, 3, none⟩ = some (.int .i64 a0_3) := (blk_cell BK736.out 3).trans rfl; have hcz42_4 : w41.cell? ⟨gb736, 4, none⟩ = some (.int .i64 a0_4) := (blk_cell BK736.out 4).trans rfl; have hcz42_5 : w41.cell? ⟨gb736, 5, none⟩ = some (.int .i64 a0_5) := (blk_cell BK736.out 5).trans rfl; have hcz42_6 : w41.cell? ⟨gb736, 6, none⟩ = some (.int .i64 a0_6) := (blk_cell BK736.out 6).trans rfl; have hcz42_7 : w41.cell? ⟨gb736, 7, none⟩ = some (.int .i64 a0_7) := (blk_cell BK736.out 7).trans rfl; have hfz42_0 := blk_frozen BK736.out 0; have hfz42_1 := blk_frozen BK736.out 1; have hfz42_2 := blk_frozen BK736.out 2; have hfz42_3 := blk_frozen BK736.out 3; have hfz42_4 := blk_frozen BK736.out 4; have hfz42_5 := blk_frozen BK736.out 5; have hfz42_6 := blk_frozen BK736.out 6; have hfz42_7 := blk_frozen BK736.out 7; have hcz43_0 : w41.cell? ⟨gb737, 0, none⟩ = some (.int .i64 a1_0) := (blk_cell BK737.out 0).trans rfl; have hcz43_1 : w41.cell? ⟨gb737, 1, none⟩ = some (.int .i64 a1_1) := (blk_cell BK737.out 1).trans rfl; have hfz43_0 := blk_frozen BK737.out 0; have hfz43_1 := blk_frozen BK737.out 1) | ((with_reducible refine gate_callee (f := 18) rfl ?_); refine goesL_ (some 98) rfl rfl Try.func18 (by kernel_rfl) rfl #[.agg #[.int .i64 a0_0, .int .i64 a0_1], .agg #[.int .i64 a0_2, .int .i64 a0_3], .agg #[.int .i64 a0_4, .int .i64 a0_5], .agg #[.int .i64 a1_0, .int .i64 a1_1]] rfl am ?_; (with_reducible refine (grids_Turn.calls kj6 a0_0 a0_1 a0_2 a0_3 a0_4 a0_5 a1_0 a1_1 t748 t749 _ A23.out).mono ?_); rintro e w44 ⟨rfl, hb⟩; refine ⟨_, rfl, ?_⟩; replace BK736 := bb BK736 hb; replace BK737 := bb BK737 hb; replace HB := bst HB hb; clear hb) | (go_at_call 13; (with_reducible refine (torchonlaw06_awake.calls kj6  t752 _ A37.out).mono ?_); rintro e w45 ⟨rfl, hb⟩; replace BK736 := bb BK736 hb; replace BK737 := bb BK737 hb; replace HB := bst HB hb; clear hb))
                  go_ret
                  exact ⟨by first | rfl | (simp [errW_none, errW_some] <;> rfl) | (simp [*, errW_none, errW_some] <;> rfl), by repeat (first | (with_reducible first | exact HB.out | apply below_alloc | apply pw_below_drewN | apply below_drew1 | refine below_set ?_ GE736.out | refine below_set ?_ GE737.out) | exact HB.out)⟩
                · rw [if_neg c36] at H
                  have c36b0 : decide (0 < t746) = false := decide_eq_false c36
                  clear c36
                  by_cases c46 : t748 ≤ 0
                  · rw [if_pos c46] at H
                    have c46b0 : decide (t748 ≤ 0) = true := decide_eq_true c46
                    clear c46
                    by_cases c47 : t738 = 0
                    · rw [if_pos c47] at H
                      have c47b0 : (t738 == 0) = true := beq_iff_eq.mpr c47
                      have c47b1 : (t738 != 0) = false := bne_eq_false_iff_eq.mpr c47
                      clear c47
                      by_cases c48 : ((t746 == 0) == (t748 == 0)) = true
                      · rw [if_pos c48] at H
                        have c48b0 : ((t746 == 0) == (t748 == 0)) = true := c48
                        (try (have c48b1 : decide ((t746 == 0) = (t748 == 0)) = true := by simpa using c48))
                        (try (have c48b2 : ((t746 == 0) == (t748 == 0)) = true := by simpa using c48))
                        clear c48
                        replace H := Option.bind_eq_some_iff.mp H
                        obtain ⟨t753, A490, H⟩ := H
                        replace H : (some t753) = some r := H
                        have A49 := Aside0.mk A490
                        clear A490
                        obtain rfl := Option.some.inj H
                        have hnb50 := NB736_737.out
                        have hnc50 := NB737_736.out
                        have hcz51_0 : wc.cell? ⟨gb736, 0, none⟩ = some (.int .i64 a0_0) := (blk_cell BK736.out 0).trans rfl
                        have hcz51_1 : wc.cell? ⟨gb736, 1, none⟩ = some (.int .i64 a0_1) := (blk_cell BK736.out 1).trans rfl
                        have hcz51_2 : wc.cell? ⟨gb736, 2, none⟩ = some (.int .i64 a0_2) := (blk_cell BK736.out 2).trans rfl
                        have hcz51_3 : wc.cell? ⟨gb736, 3, none⟩ = some (.int .i64 a0_3) := (blk_cell BK736.out 3).trans rfl
                        have hcz51_4 : wc.cell? ⟨gb736, 4, none⟩ = some (.int .i64 a0_4) := (blk_cell BK736.out 4).trans rfl
                        have hcz51_5 : wc.cell? ⟨gb736, 5, none⟩ = some (.int .i64 a0_5) := (blk_cell BK736.out 5).trans rfl
                        have hcz51_6 : wc.cell? ⟨gb736, 6, none⟩ = some (.int .i64 a0_6) := (blk_cell BK736.out 6).trans rfl
                        have hcz51_7 : wc.cell? ⟨gb736, 7, none⟩ = some (.int .i64 a0_7) := (blk_cell BK736.out 7).trans rfl
                        have hfz51_0 := blk_frozen BK736.out 0
                        have hfz51_1 := blk_frozen BK736.out 1
                        have hfz51_2 := blk_frozen BK736.out 2
                        have hfz51_3 := blk_frozen BK736.out 3
                        have hfz51_4 := blk_frozen BK736.out 4
                        have hfz51_5 := blk_frozen BK736.out 5
                        have hfz51_6 := blk_frozen BK736.out 6
                        have hfz51_7 := blk_frozen BK736.out 7
                        have hcz52_0 : wc.cell? ⟨gb737, 0, none⟩ = some (.int .i64 a1_0) := (blk_cell BK737.out 0).trans rfl
                        have hcz52_1 : wc.cell? ⟨gb737, 1, none⟩ = some (.int .i64 a1_1) := (blk_cell BK737.out 1).trans rfl
                        have hfz52_0 := blk_frozen BK737.out 0
                        have hfz52_1 := blk_frozen BK737.out 1
                        go_wp2_with (first | ((with_reducible refine gate_callee (f := 18) rfl ?_); refine goesL_ (some 87) rfl rfl Try.func18 (by kernel_rfl) rfl #[.agg #[.int .i64 a0_0, .int .i64 a0_1], .agg #[.int .i64 a0_2, .int .i64 a0_3], .agg #[.int .i64 a0_6, .int .i64 a0_7], .agg #[.int .i64 a1_0, .int .i64 a1_1]] rfl am ?_; (with_reducible refine (grids_Turn.calls kj6 a0_0 a0_1 a0_2 a0_3 a0_6 a0_7 a1_0 a1_1 t746 t747 _ A22.out).mono ?_); rintro e w53 ⟨rfl, hb⟩; refine ⟨_, rfl, ?_⟩; replace BK736 := bb BK736 hb; replace BK737 := bb BK737 hb; replace HB := bst HB hb; clear hb; have hcz54_0 : w53.cell? ⟨gb736, 0, none⟩ = some (.int .i64 a0_0) := (blk_cell BK736.out 0).trans rfl; have hcz54_1 : w53.cell? ⟨gb736, 1, none⟩ = some (.int .i64 a0_1) := (blk_cell BK736.out 1).trans rfl; have hcz54_2 : w53.cell? ⟨gb736, 2, none⟩ = some (.int .i64 a0_2) := (blk_cell BK736.out 2).trans rfl; have hcz54_3 : w53.cell? ⟨gb736, 3, none⟩ = some (.int .i64 a0_3) := (blk_cell BK736.out 3).trans rfl; have hcz54_4 : w53.cell? ⟨gb736, 4, none⟩ = some (.int .i64 a0_4) := (blk_cell BK736.out 4).trans rfl; have hcz54_5 : w53.cell? ⟨gb736, 5, none⟩ = some (.int .i64 a0_5) := (blk_cell BK736.out 5).trans rfl; have hcz54_6 : w53.cell? ⟨gb736, 6, none⟩ = some (.int .i64 a0_6) := (blk_cell BK736.out 6).trans rfl; have hcz54_7 : w53.cell? ⟨gb736, 7, none⟩ = some (.int .i64 a0_7) := (blk_cell BK736.out 7).trans rfl; have hfz54_0 := blk_frozen BK736.out 0; have hfz54_1 := blk_frozen BK736.out 1; have hfz54_2 := blk_frozen BK736.out 2; have hfz54_3 := blk_frozen BK736.out 3; have hfz54_4 := blk_frozen BK736.out 4; have hfz54_5 := blk_frozen BK736.out 5; have hfz54_6 := blk_frozen BK736.out 6; have hfz54_7 := blk_frozen BK736.out 7; have hcz55_0 : w53.cell? ⟨gb737, 0, none⟩ = some (.int .i64 a1_0) := (blk_cell BK737.out 0).trans rfl; have hcz55_1 : w53.cell? ⟨gb737, 1, none⟩ = some (.int .i64 a1_1) := (blk_cell BK737.out 1).trans rfl; have hfz55_0 := blk_frozen BK737.out 0; have hfz55_1 := blk_frozen BK737.out 1) | ((with_reducible refine gate_callee (f := 18) rfl ?_); refine goesL_ (some 98) rfl rfl Try.func18 (by kernel_rfl) rfl #[.agg #[.int .i64 a0_0, .int .i64 a0_1], .agg #[.int .i64 a0_2, .int .i64 a0_3], .agg #[.int .i64 a0_4, .int .i64 a0_5], .agg #[.int .i64 a1_0, .int .i64 a1_1]] rfl am ?_; (with_reducible refine (grids_Turn.calls kj6 a0_0 a0_1 a0_2 a0_3 a0_4 a0_5 a1_0 a1_1 t748 t749 _ A23.out).mono ?_); rintro e w56 ⟨rfl, hb⟩; refine ⟨_, rfl, ?_⟩; replace BK736 := bb BK736 hb; replace BK737 := bb BK737 hb; replace HB := bst HB hb; clear hb) | (go_at_call 13; (with_reducible refine (torchonlaw06_awake.calls kj6  t753 _ A49.out).mono ?_); rintro e w57 ⟨rfl, hb⟩; replace BK736 := bb BK736 hb; replace BK737 := bb BK737 hb; replace HB := bst HB hb; clear hb))
                        go_ret
                        exact ⟨by first | rfl | (simp [errW_none, errW_some] <;> rfl) | (simp [*, errW_none, errW_some] <;> rfl), by repeat (first | (with_reducible first | exact HB.out | apply below_alloc | apply pw_below_drewN | apply below_drew1 | refine below_set ?_ GE736.out | refine below_set ?_ GE737.out) | exact HB.out)⟩
                      · rw [if_neg c48] at H
                        exact absurd H (by simp)
                    · rw [if_neg c47] at H
                      have c47b0 : (t738 == 0) = false := beq_eq_false_iff_ne.mpr c47
                      have c47b1 : (t738 != 0) = true := bne_iff_ne.mpr c47
                      by_cases c58 : (false == (t748 == 0)) = true
                      · rw [if_pos c58] at H
                        have c58b0 : (false == (t748 == 0)) = true := c58
                        (try (have c58b1 : decide (false = (t748 == 0)) = true := by simpa using c58))
                        (try (have c58b2 : (false == (t748 == 0)) = true := by simpa using c58))
                        clear c58
                        replace H := Option.bind_eq_some_iff.mp H
                        obtain ⟨t754, A590, H⟩ := H
                        replace H : (some t754) = some r := H
                        have A59 := Aside0.mk A590
                        clear A590
                        obtain rfl := Option.some.inj H
                        have hnb60 := NB736_737.out
                        have hnc60 := NB737_736.out
                        have hcz61_0 : wc.cell? ⟨gb736, 0, none⟩ = some (.int .i64 a0_0) := (blk_cell BK736.out 0).trans rfl
                        have hcz61_1 : wc.cell? ⟨gb736, 1, none⟩ = some (.int .i64 a0_1) := (blk_cell BK736.out 1).trans rfl
                        have hcz61_2 : wc.cell? ⟨gb736, 2, none⟩ = some (.int .i64 a0_2) := (blk_cell BK736.out 2).trans rfl
                        have hcz61_3 : wc.cell? ⟨gb736, 3, none⟩ = some (.int .i64 a0_3) := (blk_cell BK736.out 3).trans rfl
                        have hcz61_4 : wc.cell? ⟨gb736, 4, none⟩ = some (.int .i64 a0_4) := (blk_cell BK736.out 4).trans rfl
                        have hcz61_5 : wc.cell? ⟨gb736, 5, none⟩ = some (.int .i64 a0_5) := (blk_cell BK736.out 5).trans rfl
                        have hcz61_6 : wc.cell? ⟨gb736, 6, none⟩ = some (.int .i64 a0_6) := (blk_cell BK736.out 6).trans rfl
                        have hcz61_7 : wc.cell? ⟨gb736, 7, none⟩ = some (.int .i64 a0_7) := (blk_cell BK736.out 7).trans rfl
                        have hfz61_0 := blk_frozen BK736.out 0
                        have hfz61_1 := blk_frozen BK736.out 1
                        have hfz61_2 := blk_frozen BK736.out 2
                        have hfz61_3 := blk_frozen BK736.out 3
                        have hfz61_4 := blk_frozen BK736.out 4
                        have hfz61_5 := blk_frozen BK736.out 5
                        have hfz61_6 := blk_frozen BK736.out 6
                        have hfz61_7 := blk_frozen BK736.out 7
                        have hcz62_0 : wc.cell? ⟨gb737, 0, none⟩ = some (.int .i64 a1_0) := (blk_cell BK737.out 0).trans rfl
                        have hcz62_1 : wc.cell? ⟨gb737, 1, none⟩ = some (.int .i64 a1_1) := (blk_cell BK737.out 1).trans rfl
                        have hfz62_0 := blk_frozen BK737.out 0
                        have hfz62_1 := blk_frozen BK737.out 1
                        go_wp2_with (first | ((with_reducible refine gate_callee (f := 18) rfl ?_); refine goesL_ (some 87) rfl rfl Try.func18 (by kernel_rfl) rfl #[.agg #[.int .i64 a0_0, .int .i64 a0_1], .agg #[.int .i64 a0_2, .int .i64 a0_3], .agg #[.int .i64 a0_6, .int .i64 a0_7], .agg #[.int .i64 a1_0, .int .i64 a1_1]] rfl am ?_; (with_reducible refine (grids_Turn.calls kj6 a0_0 a0_1 a0_2 a0_3 a0_6 a0_7 a1_0 a1_1 t746 t747 _ A22.out).mono ?_); rintro e w63 ⟨rfl, hb⟩; refine ⟨_, rfl, ?_⟩; replace BK736 := bb BK736 hb; replace BK737 := bb BK737 hb; replace HB := bst HB hb; clear hb; have hcz64_0 : w63.cell? ⟨gb736, 0, none⟩ = some (.int .i64 a0_0) := (blk_cell BK736.out 0).trans rfl; have hcz64_1 : w63.cell? ⟨gb736, 1, none⟩ = some (.int .i64 a0_1) := (blk_cell BK736.out 1).trans rfl; have hcz64_2 : w63.cell? ⟨gb736, 2, none⟩ = some (.int .i64 a0_2) := (blk_cell BK736.out 2).trans rfl; have hcz64_3 : w63.cell? ⟨gb736, 3, none⟩ = some (.int .i64 a0_3) := (blk_cell BK736.out 3).trans rfl; have hcz64_4 : w63.cell? ⟨gb736, 4, none⟩ = some (.int .i64 a0_4) := (blk_cell BK736.out 4).trans rfl; have hcz64_5 : w63.cell? ⟨gb736, 5, none⟩ = some (.int .i64 a0_5) := (blk_cell BK736.out 5).trans rfl; have hcz64_6 : w63.cell? ⟨gb736, 6, none⟩ = some (.int .i64 a0_6) := (blk_cell BK736.out 6).trans rfl; have hcz64_7 : w63.cell? ⟨gb736, 7, none⟩ = some (.int .i64 a0_7) := (blk_cell BK736.out 7).trans rfl; have hfz64_0 := blk_frozen BK736.out 0; have hfz64_1 := blk_frozen BK736.out 1; have hfz64_2 := blk_frozen BK736.out 2; have hfz64_3 := blk_frozen BK736.out 3; have hfz64_4 := blk_frozen BK736.out 4; have hfz64_5 := blk_frozen BK736.out 5; have hfz64_6 := blk_frozen BK736.out 6; have hfz64_7 := blk_frozen BK736.out 7; have hcz65_0 : w63.cell? ⟨gb737, 0, none⟩ = some (.int .i64 a1_0) := (blk_cell BK737.out 0).trans rfl; have hcz65_1 : w63.cell? ⟨gb737, 1, none⟩ = some (.int .i64 a1_1) := (blk_cell BK737.out 1).trans rfl; have hfz65_0 := blk_frozen BK737.out 0; have hfz65_1 := blk_frozen BK737.out 1) | ((with_reducible refine gate_callee (f := 18) rfl ?_); refine goesL_ (some 98) rfl rfl Try.func18 (by kernel_rfl) rfl #[.agg #[.int .i64 a0_0, .int .i64 a0_1], .agg #[.int .i64 a0_2, .int .i64 a0_3], .agg #[.int .i64 a0_4, .int .i64 a0_5], .agg #[.int .i64 a1_0, .int .i64 a1_1]] rfl am ?_; (with_reducible refine (grids_Turn.calls kj6 a0_0 a0_1 a0_2 a0_3 a0_4 a0_5 a1_0 a1_1 t748 t749 _ A23.out).mono ?_); rintro e w66 ⟨rfl, hb⟩; refine ⟨_, rfl, ?_⟩; replace BK736 := bb BK736 hb; replace BK737 := bb BK737 hb; replace HB := bst HB hb; clear hb) | (go_at_call 13; (with_reducible refine (torchonlaw06_awake.calls kj6  t754 _ A59.out).mono ?_); rintro e w67 ⟨rfl, hb⟩; replace BK736 := bb BK736 hb; replace BK737 := bb BK737 hb; replace HB := bst HB hb; clear hb))
                        go_ret
                        exact ⟨by first | rfl | (simp [errW_none, errW_some] <;> rfl) | (simp [*, errW_none, errW_some] <;> rfl), by repeat (first | (with_reducible first | exact HB.out | apply below_alloc | apply pw_below_drewN | apply below_drew1 | refine below_set ?_ GE736.out | refine below_set ?_ GE737.out) | exact HB.out)⟩
                      · rw [if_neg c58] at H
                        exact absurd H (by simp)
                  · rw [if_neg c46] at H
                    exact absurd H (by simp)
            · rw [if_neg c25] at H
              exact absurd H (by simp)
          · rw [if_neg c24] at H
            have c24b0 : (t747 == 0) = false := beq_eq_false_iff_ne.mpr c24
            have c24b1 : (t747 != 0) = true := bne_iff_ne.mpr c24
            by_cases c68 : t747 = t749
            · rw [if_pos c68] at H
              have c68b0 : (t747 == t749) = true := beq_iff_eq.mpr c68
              have c68b1 : (t747 != t749) = false := bne_eq_false_iff_eq.mpr c68
              clear c68
              replace H := Option.bind_eq_some_iff.mp H
              obtain ⟨t750, A690, H⟩ := H
              replace H : (some t750) = some r := H
              have A69 := Aside0.mk A690
              clear A690
              obtain rfl := Option.some.inj H
              have hnb70 := NB736_737.out
              have hnc70 := NB737_736.out
              have hcz71_0 : wc.cell? ⟨gb736, 0, none⟩ = some (.int .i64 a0_0) := (blk_cell BK736.out 0).trans rfl
              have hcz71_1 : wc.cell? ⟨gb736, 1, none⟩ = some (.int .i64 a0_1) := (blk_cell BK736.out 1).trans rfl
              have hcz71_2 : wc.cell? ⟨gb736, 2, none⟩ = some (.int .i64 a0_2) := (blk_cell BK736.out 2).trans rfl
              have hcz71_3 : wc.cell? ⟨gb736, 3, none⟩ = some (.int .i64 a0_3) := (blk_cell BK736.out 3).trans rfl
              have hcz71_4 : wc.cell? ⟨gb736, 4, none⟩ = some (.int .i64 a0_4) := (blk_cell BK736.out 4).trans rfl
              have hcz71_5 : wc.cell? ⟨gb736, 5, none⟩ = some (.int .i64 a0_5) := (blk_cell BK736.out 5).trans rfl
              have hcz71_6 : wc.cell? ⟨gb736, 6, none⟩ = some (.int .i64 a0_6) := (blk_cell BK736.out 6).trans rfl
              have hcz71_7 : wc.cell? ⟨gb736, 7, none⟩ = some (.int .i64 a0_7) := (blk_cell BK736.out 7).trans rfl
              have hfz71_0 := blk_frozen BK736.out 0
              have hfz71_1 := blk_frozen BK736.out 1
              have hfz71_2 := blk_frozen BK736.out 2
              have hfz71_3 := blk_frozen BK736.out 3
              have hfz71_4 := blk_frozen BK736.out 4
              have hfz71_5 := blk_frozen BK736.out 5
              have hfz71_6 := blk_frozen BK736.out 6
              have hfz71_7 := blk_frozen BK736.out 7
              have hcz72_0 : wc.cell? ⟨gb737, 0, none⟩ = some (.int .i64 a1_0) := (blk_cell BK737.out 0).trans rfl
              have hcz72_1 : wc.cell? ⟨gb737, 1, none⟩ = some (.int .i64 a1_1) := (blk_cell BK737.out 1).trans rfl
              have hfz72_0 := blk_frozen BK737.out 0
              have hfz72_1 := blk_frozen BK737.out 1
              go_wp2_with (first | ((with_reducible refine gate_callee (f := 18) rfl ?_); refine goesL_ (some 87) rfl rfl Try.func18 (by kernel_rfl) rfl #[.agg #[.int .i64 a0_0, .int .i64 a0_1], .agg #[.int .i64 a0_2, .int .i64 a0_3], .agg #[.int .i64 a0_6, .int .i64 a0_7], .agg #[.int .i64 a1_0, .int .i64 a1_1]] rfl am ?_; (with_reducible refine (grids_Turn.calls kj6 a0_0 a0_1 a0_2 a0_3 a0_6 a0_7 a1_0 a1_1 t746 t747 _ A22.out).mono ?_); rintro e w73 ⟨rfl, hb⟩; refine ⟨_, rfl, ?_⟩; replace BK736 := bb BK736 hb; replace BK737 := bb BK737 hb; replace HB := bst HB hb; clear hb; have hcz74_0 : w73.cell? ⟨gb736, 0, none⟩ = some (.int .i64 a0_0) := (blk_cell BK736.out 0).trans rfl; have hcz74_1 : w73.cell? ⟨gb736, 1, none⟩ = some (.int .i64 a0_1) := (blk_cell BK736.out 1).trans rfl; have hcz74_2 : w73.cell? ⟨gb736, 2, none⟩ = some (.int .i64 a0_2) := (blk_cell BK736.out 2).trans rfl; have hcz74_3 : w73.cell? ⟨gb736, 3, none⟩ = some (.int .i64 a0_3) := (blk_cell BK736.out 3).trans rfl; have hcz74_4 : w73.cell? ⟨gb736, 4, none⟩ = some (.int .i64 a0_4) := (blk_cell BK736.out 4).trans rfl; have hcz74_5 : w73.cell? ⟨gb736, 5, none⟩ = some (.int .i64 a0_5) := (blk_cell BK736.out 5).trans rfl; have hcz74_6 : w73.cell? ⟨gb736, 6, none⟩ = some (.int .i64 a0_6) := (blk_cell BK736.out 6).trans rfl; have hcz74_7 : w73.cell? ⟨gb736, 7, none⟩ = some (.int .i64 a0_7) := (blk_cell BK736.out 7).trans rfl; have hfz74_0 := blk_frozen BK736.out 0; have hfz74_1 := blk_frozen BK736.out 1; have hfz74_2 := blk_frozen BK736.out 2; have hfz74_3 := blk_frozen BK736.out 3; have hfz74_4 := blk_frozen BK736.out 4; have hfz74_5 := blk_frozen BK736.out 5; have hfz74_6 := blk_frozen BK736.out 6; have hfz74_7 := blk_frozen BK736.out 7; have hcz75_0 : w73.cell? ⟨gb737, 0, none⟩ = some (.int .i64 a1_0) := (blk_cell BK737.out 0).trans rfl; have hcz75_1 : w73.cell? ⟨gb737, 1, none⟩ = some (.int .i64 a1_1) := (blk_cell BK737.out 1).trans rfl; have hfz75_0 := blk_frozen BK737.out 0; have hfz75_1 := blk_frozen BK737.out 1) | ((with_reducible refine gate_callee (f := 18) rfl ?_); refine goesL_ (some 98) rfl rfl Try.func18 (by kernel_rfl) rfl #[.agg #[.int .i64 a0_0, .int .i64 a0_1], .agg #[.int .i64 a0_2, .int .i64 a0_3], .agg #[.int .i64 a0_4, .int .i64 a0_5], .agg #[.int .i64 a1_0, .int .i64 a1_1]] rfl am ?_; (with_reducible refine (grids_Turn.calls kj6 a0_0 a0_1 a0_2 a0_3 a0_4 a0_5 a1_0 a1_1 t748 t749 _ A23.out).mono ?_); rintro e w76 ⟨rfl, hb⟩; refine ⟨_, rfl, ?_⟩; replace BK736 := bb BK736 hb; replace BK737 := bb BK737 hb; replace HB := bst HB hb; clear hb) | (go_at_call 13; (with_reducible refine (torchonlaw06_awake.calls kj6  t750 _ A69.out).mono ?_); rintro e w77 ⟨rfl, hb⟩; replace BK736 := bb BK736 hb; replace BK737 := bb BK737 hb; replace HB := bst HB hb; clear hb))
              go_ret
              exact ⟨by first | rfl | (simp [errW_none, errW_some] <;> rfl) | (simp [*, errW_none, errW_some] <;> rfl), by repeat (first | (with_reducible first | exact HB.out | apply below_alloc | apply pw_below_drewN | apply below_drew1 | refine below_set ?_ GE736.out | refine below_set ?_ GE737.out) | exact HB.out)⟩
            · rw [if_neg c68] at H
              exact absurd H (by simp)
  · rw [if_neg c5] at H
    have c5b0 : (t739 == 0) = false := beq_eq_false_iff_ne.mpr c5
    have c5b1 : (t739 != 0) = true := bne_iff_ne.mpr c5
    by_cases c78 : t739 = t741
    · rw [if_pos c78] at H
      have c78b0 : (t739 == t741) = true := beq_iff_eq.mpr c78
      have c78b1 : (t739 != t741) = false := bne_eq_false_iff_eq.mpr c78
      clear c78
      by_cases c79 : t738 = 0
      · rw [if_pos c79] at H
        have c79b0 : (t738 == 0) = true := beq_iff_eq.mpr c79
        have c79b1 : (t738 != 0) = false := bne_eq_false_iff_eq.mpr c79
        clear c79
        replace H := Option.bind_eq_some_iff.mp H
        obtain ⟨t742, A800, H⟩ := H
        replace H : (some t742) = some r := H
        have A80 := Aside0.mk A800
        clear A800
        obtain rfl := Option.some.inj H
        go_enter Try.func5, Try.ntmps5
        go_wp2_with (first | ((with_reducible refine gate_dst (N := 2) rfl ?_); refine box_event ?hg (N := 2) ?hd (cs := #[.int .i64 a0_0, .int .i64 a0_1, .int .i64 a0_2, .int .i64 a0_3, .int .i64 a0_4, .int .i64 a0_5, .int .i64 a0_6, .int .i64 a0_7]) (t := 39) ?hr ?_; (case hd => rfl); (case hg => rfl); (case hr => first | (go_simp; done) | (go_simp; rfl)); intro gb736 hg w81 hbox hb; have BK736 := Aside0.mk (hbox); have GW736 := Aside0.mk ((by rw [hg]; exact (below_size (bnow HB)) : w.heap.size ≤ gb736)); have GE736 := Aside0.mk ((by rw [hg]; exact (below_size (bnow HB)) : w.heap.size ≤ gb736)); replace HB := bst HB hb; clear hb hbox hg) | ((with_reducible refine gate_dst (N := 3) rfl ?_); refine box_event ?hg (N := 3) ?hd (cs := #[.int .i64 a1_0, .int .i64 a1_1]) (t := 37) ?hr ?_; (case hd => rfl); (case hg => rfl); (case hr => first | (go_simp; done) | (go_simp; rfl)); intro gb737 hg w82 hbox hb; have BK737 := Aside0.mk (hbox); have GW737 := Aside0.mk ((by rw [hg]; exact (below_size (bnow HB)) : w.heap.size ≤ gb737)); have GE737 := Aside0.mk ((by rw [hg]; exact (below_size (bnow HB)) : w.heap.size ≤ gb737)); have NB736_737 := Aside0.mk ((by rw [hg]; exact Nat.ne_of_lt (blk_lt (g := gb736) (o := .cells #[.int .i64 a0_0, .int .i64 a0_1, .int .i64 a0_2, .int .i64 a0_3, .int .i64 a0_4, .int .i64 a0_5, .int .i64 a0_6, .int .i64 a0_7] 39 (0, 0)) (pk BK736)) : gb736 ≠ gb737)); have NB737_736 := Aside0.mk ((by rw [hg]; exact Nat.ne_of_gt (blk_lt (g := gb736) (o := .cells #[.int .i64 a0_0, .int .i64 a0_1, .int .i64 a0_2, .int .i64 a0_3, .int .i64 a0_4, .int .i64 a0_5, .int .i64 a0_6, .int .i64 a0_7] 39 (0, 0)) (pk BK736)) : gb737 ≠ gb736)); replace BK736 := bb BK736 hb; replace HB := bst HB hb; clear hb hbox hg; have hnb83 := NB736_737.out; have hnc83 := NB737_736.out; have hcz84_0 : w82.cell? ⟨gb736, 0, none⟩ = some (.int .i64 a0_0) := (blk_cell BK736.out 0).trans rfl; have hcz84_1 : w82.cell? ⟨gb736, 1, none⟩ = some (.int .i64 a0_1) := (blk_cell BK736.out 1).trans rfl; have hcz84_2 : w82.cell? ⟨gb736, 2, none⟩ = some (.int .i64 a0_2) := (blk_cell BK736.out 2).trans rfl; have hcz84_3 : w82.cell? ⟨gb736, 3, none⟩ = some (.int .i64 a0_3) := (blk_cell BK736.out 3).trans rfl; have hcz84_4 : w82.cell? ⟨gb736, 4, none⟩ = some (.int .i64 a0_4) := (blk_cell BK736.out 4).trans rfl; have hcz84_5 : w82.cell? ⟨gb736, 5, none⟩ = some (.int .i64 a0_5) := (blk_cell BK736.out 5).trans rfl; have hcz84_6 : w82.cell? ⟨gb736, 6, none⟩ = some (.int .i64 a0_6) := (blk_cell BK736.out 6).trans rfl; have hcz84_7 : w82.cell? ⟨gb736, 7, none⟩ = some (.int .i64 a0_7) := (blk_cell BK736.out 7).trans rfl; have hfz84_0 := blk_frozen BK736.out 0; have hfz84_1 := blk_frozen BK736.out 1; have hfz84_2 := blk_frozen BK736.out 2; have hfz84_3 := blk_frozen BK736.out 3; have hfz84_4 := blk_frozen BK736.out 4; have hfz84_5 := blk_frozen BK736.out 5; have hfz84_6 := blk_frozen BK736.out 6; have hfz84_7 := blk_frozen BK736.out 7) | ((with_reducible refine gate_callee (f := 18) rfl ?_); refine goesL_ (some 24) rfl rfl Try.func18 (by kernel_rfl) rfl #[.agg #[.int .i64 a0_0, .int .i64 a0_1], .agg #[.int .i64 a0_2, .int .i64 a0_3], .agg #[.int .i64 a0_4, .int .i64 a0_5], .agg #[.int .i64 a0_6, .int .i64 a0_7]] rfl am ?_; (with_reducible refine (grids_Turn.calls k a0_0 a0_1 a0_2 a0_3 a0_4 a0_5 a0_6 a0_7 t738 t739 _ A3.out).mono ?_); rintro e w85 ⟨rfl, hb⟩; refine ⟨_, rfl, ?_⟩; replace BK736 := bb BK736 hb; replace BK737 := bb BK737 hb; replace HB := bst HB hb; clear hb; have hcz86_0 : w85.cell? ⟨gb736, 0, none⟩ = some (.int .i64 a0_0) := (blk_cell BK736.out 0).trans rfl; have hcz86_1 : w85.cell? ⟨gb736, 1, none⟩ = some (.int .i64 a0_1) := (blk_cell BK736.out 1).trans rfl; have hcz86_2 : w85.cell? ⟨gb736, 2, none⟩ = some (.int .i64 a0_2) := (blk_cell BK736.out 2).trans rfl; have hcz86_3 : w85.cell? ⟨gb736, 3, none⟩ = some (.int .i64 a0_3) := (blk_cell BK736.out 3).trans rfl; have hcz86_4 : w85.cell? ⟨gb736, 4, none⟩ = some (.int .i64 a0_4) := (blk_cell BK736.out 4).trans rfl; have hcz86_5 : w85.cell? ⟨gb736, 5, none⟩ = some (.int .i64 a0_5) := (blk_cell BK736.out 5).trans rfl; have hcz86_6 : w85.cell? ⟨gb736, 6, none⟩ = some (.int .i64 a0_6) := (blk_cell BK736.out 6).trans rfl; have hcz86_7 : w85.cell? ⟨gb736, 7, none⟩ = some (.int .i64 a0_7) := (blk_cell BK736.out 7).trans rfl; have hfz86_0 := blk_frozen BK736.out 0; have hfz86_1 := blk_frozen BK736.out 1; have hfz86_2 := blk_frozen BK736.out 2; have hfz86_3 := blk_frozen BK736.out 3; have hfz86_4 := blk_frozen BK736.out 4; have hfz86_5 := blk_frozen BK736.out 5; have hfz86_6 := blk_frozen BK736.out 6; have hfz86_7 := blk_frozen BK736.out 7) | ((with_reducible refine gate_callee (f := 18) rfl ?_); refine goesL_ (some 36) rfl rfl Try.func18 (by kernel_rfl) rfl #[.agg #[.int .i64 a0_0, .int .i64 a0_1], .agg #[.int .i64 a0_2, .int .i64 a0_3], .agg #[.int .i64 a0_6, .int .i64 a0_7], .agg #[.int .i64 a0_4, .int .i64 a0_5]] rfl am ?_; (with_reducible refine (grids_Turn.calls k a0_0 a0_1 a0_2 a0_3 a0_6 a0_7 a0_4 a0_5 t740 t741 _ A4.out).mono ?_); rintro e w87 ⟨rfl, hb⟩; refine ⟨_, rfl, ?_⟩; replace BK736 := bb BK736 hb; replace BK737 := bb BK737 hb; replace HB := bst HB hb; clear hb) | (go_at_call 13; (with_reducible refine (torchonlaw06_awake.calls k  t742 _ A80.out).mono ?_); rintro e w88 ⟨rfl, hb⟩; replace BK736 := bb BK736 hb; replace BK737 := bb BK737 hb; replace HB := bst HB hb; clear hb))
        go_ret
        exact ⟨by first | rfl | (simp [errW_none, errW_some] <;> rfl) | (simp [*, errW_none, errW_some] <;> rfl), by repeat (first | (with_reducible first | exact HB.out | apply below_alloc | apply pw_below_drewN | apply below_drew1 | refine below_set ?_ GE736.out | refine below_set ?_ GE737.out) | exact HB.out)⟩
      · rw [if_neg c79] at H
        exact absurd H (by simp)
    · rw [if_neg c78] at H
      exact absurd H (by simp)
end
end Go.Proofs.Ytmcajdepoohlhaa.G
