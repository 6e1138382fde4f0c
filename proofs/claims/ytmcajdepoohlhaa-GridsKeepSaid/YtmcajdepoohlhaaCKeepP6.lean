/- Functions of the program as plain Lean functions, and their contracts (printed by a program of this session). No condition beyond what each states. -/
import Derived.Test.YtmcajdepoohlhaaCKeepY
import Derived.Test.YtmcajdepoohlhaaCKeepP0
import Derived.Test.YtmcajdepoohlhaaCKeepP2
import Derived.Test.YtmcajdepoohlhaaCKeepP4
import Derived.Test.YtmcajdepoohlhaaCKeepP5
namespace Go.Proofs.Ytmcajdepoohlhaa.G
open Go.RowKit Go.Proofs.YtmcajdepoohlhaaW.PrintWords Go.Proofs.YtmcajdepoohlhaaW.PrintLast Go.Proofs.YtmcajdepoohlhaaW.PrintMore
attribute [local go_sem] max2_int min2_int max_two min_two max_three min_three max_four min_four
set_option linter.unusedVariables false
set_option linter.unusedSimpArgs false
section
/-! ### torchonlaw06_GridsKeep: function 9 -/
mutual
def torchonlaw06_GridsKeep.j0 : Nat → List (S25) → Int → Bool → Int → Int → Int → Int → Int → Int → Int → Int → Int → Int → Int → Int → Int → Int → Int → Option (Bool)
 | 0, _, _, _, _, _, _, _, _, _, _, _, _, _, _, _, _, _, _ => none
 | k + 1, x7, x9, x67, x1028000, x1028001, x1028002, x1029000, x1029001, x1029002, x1029003, x1029004, x1029005, x1029006, x1029007, x1030000, x1030001, x1030002, x1030003 => if x67 = true then (none) else ((torchonlaw06_near.f x1029002 x1029003).bind fun gD => ((torchonlaw06_near.f x1029004 x1029005).bind fun gE => ((torchonlaw06_near.f x1029006 x1029007).bind fun Qc => ((grids_Square.f k x1028000 x1028001 x1028002 gD.1 gD.2 gE.1 gE.2).bind fun Js => ((grids_Side.f k gD.1 gD.2 gE.1 gE.2 Qc.1 Qc.2).bind fun Jt => (if Js.2 = 0 then (torchonlaw06_GridsKeep.j1 k x7 x9 Js.1 Jt.1 (Jt.2 != 0) x1028000 x1028001 x1028002 x1030000 x1030001 x1030002 x1030003 gD.1 gD.2 gE.1 gE.2 Qc.1 Qc.2) else (none)))))))
def torchonlaw06_GridsKeep.j1 : Nat → List (S25) → Int → Int → Int → Bool → Int → Int → Int → Int → Int → Int → Int → Int → Int → Int → Int → Int → Int → Option (Bool)
 | 0, _, _, _, _, _, _, _, _, _, _, _, _, _, _, _, _, _, _ => none
 | k + 1, x7, x9, x13, x15, x96, x1028000, x1028001, x1028002, x1030000, x1030001, x1030002, x1030003, x1043000, x1043001, x1044000, x1044001, x1045000, x1045001 => if x96 = true then (none) else (torchonlaw06_GridsKeep.l0 k x7 x9 x13 x15 0 x1028000 x1028001 x1028002 x1030000 x1030001 x1030002 x1030003 x1043000 x1043001 x1044000 x1044001 x1045000 x1045001)
def torchonlaw06_GridsKeep.l0 : Nat → List (S25) → Int → Int → Int → Int → Int → Int → Int → Int → Int → Int → Int → Int → Int → Int → Int → Int → Int → Option (Bool)
 | 0, _, _, _, _, _, _, _, _, _, _, _, _, _, _, _, _, _, _ => none
 | k + 1, x7, x9, x13, x15, x17, x1028000, x1028001, x1028002, x1030000, x1030001, x1030002, x1030003, x1043000, x1043001, x1044000, x1044001, x1045000, x1045001 => if x17 < x9 then (if 0 ≤ x17 then (if x17 < (x7.length : Int) then ((torchonref06_Matrix.f ((rd_T25 x7 x17).f0) ((rd_T25 x7 x17).f1) ((rd_T25 x7 x17).f2) ((rd_T25 x7 x17).f3)).bind fun GM => (if GM = true then ((grids_Apply.f k ((rd_T25 x7 x17).f0) ((rd_T25 x7 x17).f1) ((rd_T25 x7 x17).f2) ((rd_T25 x7 x17).f3) 0 0 x1043000 x1043001).bind fun gL => ((grids_Apply.f k ((rd_T25 x7 x17).f0) ((rd_T25 x7 x17).f1) ((rd_T25 x7 x17).f2) ((rd_T25 x7 x17).f3) 0 0 x1044000 x1044001).bind fun gM => ((grids_Apply.f k ((rd_T25 x7 x17).f0) ((rd_T25 x7 x17).f1) ((rd_T25 x7 x17).f2) ((rd_T25 x7 x17).f3) 0 0 x1045000 x1045001).bind fun QW => ((some (wrap64 (((rd_T25 x7 x17).f0) * ((rd_T25 x7 x17).f3)))).bind fun Ji => ((some (wrap64 (((rd_T25 x7 x17).f1) * ((rd_T25 x7 x17).f2)))).bind fun Jj => ((some (wrap64 (Ji - Jj))).bind fun Jk => ((grids_Square.f k x1028000 x1028001 x1028002 gL.1 gL.2.1 gM.1 gM.2.1).bind fun Ju => ((grids_Side.f k gL.1 gL.2.1 gM.1 gM.2.1 QW.1 QW.2.1).bind fun Jv => ((grids_Invert.f k ((rd_T25 x7 x17).f0) ((rd_T25 x7 x17).f1) ((rd_T25 x7 x17).f2) ((rd_T25 x7 x17).f3) 0 0).bind fun gN => (if gL.2.2 = 0 then (if gM.2.2 = 0 then (if QW.2.2 = 0 then (if Ju.2 = 0 then (if Jv.2 = 0 then (if gN.2.2.2.2.2.2 = 0 then (if Ju.1 = x13 then ((some (wrap64 (Jk * x15))).bind fun QR => (if Jv.1 = QR then ((torchonlaw06_in.f k x7 gN.1 gN.2.1 gN.2.2.1 gN.2.2.2.1).bind fun Jg => (torchonlaw06_GridsKeep.j3 k x7 x9 x13 x15 x17 (!Jg) x1028000 x1028001 x1028002 x1030000 x1030001 x1030002 x1030003 x1043000 x1043001 x1044000 x1044001 x1045000 x1045001)) else (none))) else (none)) else (none)) else (none)) else (none)) else (none)) else (none)) else (none))))))))))) else (none))) else (none)) else (none)) else ((grids_Keeps.f k x1028000 x1028001 x1028002 x1030000 x1030001 x1030002 x1030003).bind fun GE => ((torchonref06_Matrix.f x1030000 x1030001 x1030002 x1030003).bind fun Qb => (if ((GE.2 == 0) == Qb) = true then (if GE.2 = 0 then ((torchonlaw06_in.f k x7 x1030000 x1030001 x1030002 x1030003).bind fun J7 => (if (GE.1 == J7) = true then ((torchonlaw06_awake.f k).bind fun GO => (some GO)) else (none))) else ((torchonlaw06_awake.f k).bind fun GP => (some GP))) else (none))))
def torchonlaw06_GridsKeep.j3 : Nat → List (S25) → Int → Int → Int → Int → Bool → Int → Int → Int → Int → Int → Int → Int → Int → Int → Int → Int → Int → Int → Option (Bool)
 | 0, _, _, _, _, _, _, _, _, _, _, _, _, _, _, _, _, _, _, _ => none
 | k + 1, x7, x9, x13, x15, x17, x224, x1028000, x1028001, x1028002, x1030000, x1030001, x1030002, x1030003, x1043000, x1043001, x1044000, x1044001, x1045000, x1045001 => if x224 = true then (none) else (torchonlaw06_GridsKeep.l1 k x7 x9 x13 x15 x17 0 x1028000 x1028001 x1028002 x1030000 x1030001 x1030002 x1030003 x1043000 x1043001 x1044000 x1044001 x1045000 x1045001)
def torchonlaw06_GridsKeep.l1 : Nat → List (S25) → Int → Int → Int → Int → Int → Int → Int → Int → Int → Int → Int → Int → Int → Int → Int → Int → Int → Int → Option (Bool)
 | 0, _, _, _, _, _, _, _, _, _, _, _, _, _, _, _, _, _, _, _ => none
 | k + 1, x7, x9, x13, x15, x17, x31, x1028000, x1028001, x1028002, x1030000, x1030001, x1030002, x1030003, x1043000, x1043001, x1044000, x1044001, x1045000, x1045001 => if x31 < x9 then (if 0 ≤ x17 then (if x17 < (x7.length : Int) then (if 0 ≤ x31 then (if x31 < (x7.length : Int) then ((torchonref06_Times.f ((rd_T25 x7 x17).f0) ((rd_T25 x7 x17).f1) ((rd_T25 x7 x17).f2) ((rd_T25 x7 x17).f3) ((rd_T25 x7 x31).f0) ((rd_T25 x7 x31).f1) ((rd_T25 x7 x31).f2) ((rd_T25 x7 x31).f3)).bind fun JQ => ((torchonlaw06_in.f k x7 JQ.1 JQ.2.1 JQ.2.2.1 JQ.2.2.2).bind fun GN => (if GN = true then ((some (wrap64 (x31 + 1))).bind fun Jl => (torchonlaw06_GridsKeep.l1 k x7 x9 x13 x15 x17 Jl x1028000 x1028001 x1028002 x1030000 x1030001 x1030002 x1030003 x1043000 x1043001 x1044000 x1044001 x1045000 x1045001)) else (none)))) else (none)) else (none)) else (none)) else (none)) else ((some (wrap64 (x17 + 1))).bind fun Gr => (torchonlaw06_GridsKeep.l0 k x7 x9 x13 x15 Gr x1028000 x1028001 x1028002 x1030000 x1030001 x1030002 x1030003 x1043000 x1043001 x1044000 x1044001 x1045000 x1045001))
end
def torchonlaw06_GridsKeep.f (k : Nat) (a0_0 : Int) (a0_1 : Int) (a0_2 : Int) (a1_0 : Int) (a1_1 : Int) (a1_2 : Int) (a1_3 : Int) (a1_4 : Int) (a1_5 : Int) (a1_6 : Int) (a1_7 : Int) (a2_0 : Int) (a2_1 : Int) (a2_2 : Int) (a2_3 : Int) : Option (Bool) := (grids_Group.f k a0_0 a0_1 a0_2).bind fun qz => (if qz.2 = 0 then (if (qz.1.length : Int) = 2 then (torchonlaw06_GridsKeep.j0 k qz.1 (qz.1.length : Int) false a0_0 a0_1 a0_2 a1_0 a1_1 a1_2 a1_3 a1_4 a1_5 a1_6 a1_7 a2_0 a2_1 a2_2 a2_3) else (if (qz.1.length : Int) = 4 then (torchonlaw06_GridsKeep.j0 k qz.1 (qz.1.length : Int) false a0_0 a0_1 a0_2 a1_0 a1_1 a1_2 a1_3 a1_4 a1_5 a1_6 a1_7 a2_0 a2_1 a2_2 a2_3) else (if (qz.1.length : Int) = 8 then (torchonlaw06_GridsKeep.j0 k qz.1 (qz.1.length : Int) false a0_0 a0_1 a0_2 a1_0 a1_1 a1_2 a1_3 a1_4 a1_5 a1_6 a1_7 a2_0 a2_1 a2_2 a2_3) else (torchonlaw06_GridsKeep.j0 k qz.1 (qz.1.length : Int) ((qz.1.length : Int) != 12) a0_0 a0_1 a0_2 a1_0 a1_1 a1_2 a1_3 a1_4 a1_5 a1_6 a1_7 a2_0 a2_1 a2_2 a2_3)))) else (if (qz.1.length : Int) = 0 then ((grids_Check.f k a0_0 a0_1 a0_2).bind fun QQ => (if QQ = 2 then ((torchonlaw06_awake.f k).bind fun JM => (some JM)) else (none))) else (none)))
theorem torchonlaw06_GridsKeep.mono_l : ∀ k, (∀ y0 y1 y2 y3 y4 y5 y6 y7 y8 y9 y10 y11 y12 y13 y14 y15 y16 y17, LeO (torchonlaw06_GridsKeep.j0 k y0 y1 y2 y3 y4 y5 y6 y7 y8 y9 y10 y11 y12 y13 y14 y15 y16 y17) (torchonlaw06_GridsKeep.j0 (k + 1) y0 y1 y2 y3 y4 y5 y6 y7 y8 y9 y10 y11 y12 y13 y14 y15 y16 y17)) ∧ (∀ y0 y1 y2 y3 y4 y5 y6 y7 y8 y9 y10 y11 y12 y13 y14 y15 y16 y17, LeO (torchonlaw06_GridsKeep.j1 k y0 y1 y2 y3 y4 y5 y6 y7 y8 y9 y10 y11 y12 y13 y14 y15 y16 y17) (torchonlaw06_GridsKeep.j1 (k + 1) y0 y1 y2 y3 y4 y5 y6 y7 y8 y9 y10 y11 y12 y13 y14 y15 y16 y17)) ∧ (∀ y0 y1 y2 y3 y4 y5 y6 y7 y8 y9 y10 y11 y12 y13 y14 y15 y16 y17, LeO (torchonlaw06_GridsKeep.l0 k y0 y1 y2 y3 y4 y5 y6 y7 y8 y9 y10 y11 y12 y13 y14 y15 y16 y17) (torchonlaw06_GridsKeep.l0 (k + 1) y0 y1 y2 y3 y4 y5 y6 y7 y8 y9 y10 y11 y12 y13 y14 y15 y16 y17)) ∧ (∀ y0 y1 y2 y3 y4 y5 y6 y7 y8 y9 y10 y11 y12 y13 y14 y15 y16 y17 y18, LeO (torchonlaw06_GridsKeep.j3 k y0 y1 y2 y3 y4 y5 y6 y7 y8 y9 y10 y11 y12 y13 y14 y15 y16 y17 y18) (torchonlaw06_GridsKeep.j3 (k + 1) y0 y1 y2 y3 y4 y5 y6 y7 y8 y9 y10 y11 y12 y13 y14 y15 y16 y17 y18)) ∧ (∀ y0 y1 y2 y3 y4 y5 y6 y7 y8 y9 y10 y11 y12 y13 y14 y15 y16 y17 y18, LeO (torchonlaw06_GridsKeep.l1 k y0 y1 y2 y3 y4 y5 y6 y7 y8 y9 y10 y11 y12 y13 y14 y15 y16 y17 y18) (torchonlaw06_GridsKeep.l1 (k + 1) y0 y1 y2 y3 y4 y5 y6 y7 y8 y9 y10 y11 y12 y13 y14 y15 y16 y17 y18))
 | 0 => ⟨fun _ _ _ _ _ _ _ _ _ _ _ _ _ _ _ _ _ _ r h => by simp [torchonlaw06_GridsKeep.j0] at h, fun _ _ _ _ _ _ _ _ _ _ _ _ _ _ _ _ _ _ r h => by simp [torchonlaw06_GridsKeep.j1] at h, fun _ _ _ _ _ _ _ _ _ _ _ _ _ _ _ _ _ _ r h => by simp [torchonlaw06_GridsKeep.l0] at h, fun _ _ _ _ _ _ _ _ _ _ _ _ _ _ _ _ _ _ _ r h => by simp [torchonlaw06_GridsKeep.j3] at h, fun _ _ _ _ _ _ _ _ _ _ _ _ _ _ _ _ _ _ _ r h => by simp [torchonlaw06_GridsKeep.l1] at h⟩
 | k + 1 => by
  obtain ⟨ih0, ih1, ih2, ih3, ih4⟩ := torchonlaw06_GridsKeep.mono_l k
  refine ⟨?_, ?_, ?_, ?_, ?_⟩
  ·intro y0 y1 y2 y3 y4 y5 y6 y7 y8 y9 y10 y11 y12 y13 y14 y15 y16 y17
   unfold torchonlaw06_GridsKeep.j0
   repeat' first
   | (with_reducible exact ih0 _ _ _ _ _ _ _ _ _ _ _ _ _ _ _ _ _ _)
   | (with_reducible exact ih1 _ _ _ _ _ _ _ _ _ _ _ _ _ _ _ _ _ _)
   | (with_reducible exact ih2 _ _ _ _ _ _ _ _ _ _ _ _ _ _ _ _ _ _)
   | (with_reducible exact ih3 _ _ _ _ _ _ _ _ _ _ _ _ _ _ _ _ _ _ _)
   | (with_reducible exact ih4 _ _ _ _ _ _ _ _ _ _ _ _ _ _ _ _ _ _ _)
   | (with_reducible exact grids_Apply.mono _ _ _ _ _ _ _ _ _)
   | (with_reducible exact grids_Check.mono _ _ _ _)
   | (with_reducible exact grids_Group.mono _ _ _ _)
   | (with_reducible exact grids_Invert.mono _ _ _ _ _ _ _)
   | (with_reducible exact grids_Keeps.mono _ _ _ _ _ _ _ _)
   | (with_reducible exact grids_Side.mono _ _ _ _ _ _ _)
   | (with_reducible exact grids_Square.mono _ _ _ _ _ _ _ _)
   | (with_reducible exact torchonlaw06_awake.mono _)
   | (with_reducible exact torchonlaw06_in.mono _ _ _ _ _ _)
   | (with_reducible exact LeO.refl _)
   | (with_reducible exact LeO.none _)
   | (with_reducible refine LeO.ite ?_ ?_)
   | (with_reducible refine LeO.bind ?_ (fun _ => ?_))
   | exact ih0 _ _ _ _ _ _ _ _ _ _ _ _ _ _ _ _ _ _
   | exact ih1 _ _ _ _ _ _ _ _ _ _ _ _ _ _ _ _ _ _
   | exact ih2 _ _ _ _ _ _ _ _ _ _ _ _ _ _ _ _ _ _
   | exact ih3 _ _ _ _ _ _ _ _ _ _ _ _ _ _ _ _ _ _ _
   | exact ih4 _ _ _ _ _ _ _ _ _ _ _ _ _ _ _ _ _ _ _
   | exact grids_Apply.mono _ _ _ _ _ _ _ _ _
   | exact grids_Check.mono _ _ _ _
   | exact grids_Group.mono _ _ _ _
   | exact grids_Invert.mono _ _ _ _ _ _ _
   | exact grids_Keeps.mono _ _ _ _ _ _ _ _
   | exact grids_Side.mono _ _ _ _ _ _ _
   | exact grids_Square.mono _ _ _ _ _ _ _ _
   | exact torchonlaw06_awake.mono _
   | exact torchonlaw06_in.mono _ _ _ _ _ _
   | exact LeO.none _
   | refine LeO.ite ?_ ?_
   | refine LeO.bind ?_ (fun _ => ?_)
  ·intro y0 y1 y2 y3 y4 y5 y6 y7 y8 y9 y10 y11 y12 y13 y14 y15 y16 y17
   unfold torchonlaw06_GridsKeep.j1
   repeat' first
   | (with_reducible exact ih0 _ _ _ _ _ _ _ _ _ _ _ _ _ _ _ _ _ _)
   | (with_reducible exact ih1 _ _ _ _ _ _ _ _ _ _ _ _ _ _ _ _ _ _)
   | (with_reducible exact ih2 _ _ _ _ _ _ _ _ _ _ _ _ _ _ _ _ _ _)
   | (with_reducible exact ih3 _ _ _ _ _ _ _ _ _ _ _ _ _ _ _ _ _ _ _)
   | (with_reducible exact ih4 _ _ _ _ _ _ _ _ _ _ _ _ _ _ _ _ _ _ _)
   | (with_reducible exact grids_Apply.mono _ _ _ _ _ _ _ _ _)
   | (with_reducible exact grids_Check.mono _ _ _ _)
   | (with_reducible exact grids_Group.mono _ _ _ _)
   | (with_reducible exact grids_Invert.mono _ _ _ _ _ _ _)
   | (with_reducible exact grids_Keeps.mono _ _ _ _ _ _ _ _)
   | (with_reducible exact grids_Side.mono _ _ _ _ _ _ _)
   | (with_reducible exact grids_Square.mono _ _ _ _ _ _ _ _)
   | (with_reducible exact torchonlaw06_awake.mono _)
   | (with_reducible exact torchonlaw06_in.mono _ _ _ _ _ _)
   | (with_reducible exact LeO.refl _)
   | (with_reducible exact LeO.none _)
   | (with_reducible refine LeO.ite ?_ ?_)
   | (with_reducible refine LeO.bind ?_ (fun _ => ?_))
   | exact ih0 _ _ _ _ _ _ _ _ _ _ _ _ _ _ _ _ _ _
   | exact ih1 _ _ _ _ _ _ _ _ _ _ _ _ _ _ _ _ _ _
   | exact ih2 _ _ _ _ _ _ _ _ _ _ _ _ _ _ _ _ _ _
   | exact ih3 _ _ _ _ _ _ _ _ _ _ _ _ _ _ _ _ _ _ _
   | exact ih4 _ _ _ _ _ _ _ _ _ _ _ _ _ _ _ _ _ _ _
   | exact grids_Apply.mono _ _ _ _ _ _ _ _ _
   | exact grids_Check.mono _ _ _ _
   | exact grids_Group.mono _ _ _ _
   | exact grids_Invert.mono _ _ _ _ _ _ _
   | exact grids_Keeps.mono _ _ _ _ _ _ _ _
   | exact grids_Side.mono _ _ _ _ _ _ _
   | exact grids_Square.mono _ _ _ _ _ _ _ _
   | exact torchonlaw06_awake.mono _
   | exact torchonlaw06_in.mono _ _ _ _ _ _
   | exact LeO.none _
   | refine LeO.ite ?_ ?_
   | refine LeO.bind ?_ (fun _ => ?_)
  ·intro y0 y1 y2 y3 y4 y5 y6 y7 y8 y9 y10 y11 y12 y13 y14 y15 y16 y17
   unfold torchonlaw06_GridsKeep.l0
   repeat' first
   | (with_reducible exact ih0 _ _ _ _ _ _ _ _ _ _ _ _ _ _ _ _ _ _)
   | (with_reducible exact ih1 _ _ _ _ _ _ _ _ _ _ _ _ _ _ _ _ _ _)
   | (with_reducible exact ih2 _ _ _ _ _ _ _ _ _ _ _ _ _ _ _ _ _ _)
   | (with_reducible exact ih3 _ _ _ _ _ _ _ _ _ _ _ _ _ _ _ _ _ _ _)
   | (with_reducible exact ih4 _ _ _ _ _ _ _ _ _ _ _ _ _ _ _ _ _ _ _)
   | (with_reducible exact grids_Apply.mono _ _ _ _ _ _ _ _ _)
   | (with_reducible exact grids_Check.mono _ _ _ _)
   | (with_reducible exact grids_Group.mono _ _ _ _)
   | (with_reducible exact grids_Invert.mono _ _ _ _ _ _ _)
   | (with_reducible exact grids_Keeps.mono _ _ _ _ _ _ _ _)
   | (with_reducible exact grids_Side.mono _ _ _ _ _ _ _)
   | (with_reducible exact grids_Square.mono _ _ _ _ _ _ _ _)
   | (with_reducible exact torchonlaw06_awake.mono _)
   | (with_reducible exact torchonlaw06_in.mono _ _ _ _ _ _)
   | (with_reducible exact LeO.refl _)
   | (with_reducible exact LeO.none _)
   | (with_reducible refine LeO.ite ?_ ?_)
   | (with_reducible refine LeO.bind ?_ (fun _ => ?_))
   | exact ih0 _ _ _ _ _ _ _ _ _ _ _ _ _ _ _ _ _ _
   | exact ih1 _ _ _ _ _ _ _ _ _ _ _ _ _ _ _ _ _ _
   | exact ih2 _ _ _ _ _ _ _ _ _ _ _ _ _ _ _ _ _ _
   | exact ih3 _ _ _ _ _ _ _ _ _ _ _ _ _ _ _ _ _ _ _
   | exact ih4 _ _ _ _ _ _ _ _ _ _ _ _ _ _ _ _ _ _ _
   | exact grids_Apply.mono _ _ _ _ _ _ _ _ _
   | exact grids_Check.mono _ _ _ _
   | exact grids_Group.mono _ _ _ _
   | exact grids_Invert.mono _ _ _ _ _ _ _
   | exact grids_Keeps.mono _ _ _ _ _ _ _ _
   | exact grids_Side.mono _ _ _ _ _ _ _
   | exact grids_Square.mono _ _ _ _ _ _ _ _
   | exact torchonlaw06_awake.mono _
   | exact torchonlaw06_in.mono _ _ _ _ _ _
   | exact LeO.none _
   | refine LeO.ite ?_ ?_
   | refine LeO.bind ?_ (fun _ => ?_)
  ·intro y0 y1 y2 y3 y4 y5 y6 y7 y8 y9 y10 y11 y12 y13 y14 y15 y16 y17 y18
   unfold torchonlaw06_GridsKeep.j3
   repeat' first
   | (with_reducible exact ih0 _ _ _ _ _ _ _ _ _ _ _ _ _ _ _ _ _ _)
   | (with_reducible exact ih1 _ _ _ _ _ _ _ _ _ _ _ _ _ _ _ _ _ _)
   | (with_reducible exact ih2 _ _ _ _ _ _ _ _ _ _ _ _ _ _ _ _ _ _)
   | (with_reducible exact ih3 _ _ _ _ _ _ _ _ _ _ _ _ _ _ _ _ _ _ _)
   | (with_reducible exact ih4 _ _ _ _ _ _ _ _ _ _ _ _ _ _ _ _ _ _ _)
   | (with_reducible exact grids_Apply.mono _ _ _ _ _ _ _ _ _)
   | (with_reducible exact grids_Check.mono _ _ _ _)
   | (with_reducible exact grids_Group.mono _ _ _ _)
   | (with_reducible exact grids_Invert.mono _ _ _ _ _ _ _)
   | (with_reducible exact grids_Keeps.mono _ _ _ _ _ _ _ _)
   | (with_reducible exact grids_Side.mono _ _ _ _ _ _ _)
   | (with_reducible exact grids_Square.mono _ _ _ _ _ _ _ _)
   | (with_reducible exact torchonlaw06_awake.mono _)
   | (with_reducible exact torchonlaw06_in.mono _ _ _ _ _ _)
   | (with_reducible exact LeO.refl _)
   | (with_reducible exact LeO.none _)
   | (with_reducible refine LeO.ite ?_ ?_)
   | (with_reducible refine LeO.bind ?_ (fun _ => ?_))
   | exact ih0 _ _ _ _ _ _ _ _ _ _ _ _ _ _ _ _ _ _
   | exact ih1 _ _ _ _ _ _ _ _ _ _ _ _ _ _ _ _ _ _
   | exact ih2 _ _ _ _ _ _ _ _ _ _ _ _ _ _ _ _ _ _
   | exact ih3 _ _ _ _ _ _ _ _ _ _ _ _ _ _ _ _ _ _ _
   | exact ih4 _ _ _ _ _ _ _ _ _ _ _ _ _ _ _ _ _ _ _
   | exact grids_Apply.mono _ _ _ _ _ _ _ _ _
   | exact grids_Check.mono _ _ _ _
   | exact grids_Group.mono _ _ _ _
   | exact grids_Invert.mono _ _ _ _ _ _ _
   | exact grids_Keeps.mono _ _ _ _ _ _ _ _
   | exact grids_Side.mono _ _ _ _ _ _ _
   | exact grids_Square.mono _ _ _ _ _ _ _ _
   | exact torchonlaw06_awake.mono _
   | exact torchonlaw06_in.mono _ _ _ _ _ _
   | exact LeO.none _
   | refine LeO.ite ?_ ?_
   | refine LeO.bind ?_ (fun _ => ?_)
  ·intro y0 y1 y2 y3 y4 y5 y6 y7 y8 y9 y10 y11 y12 y13 y14 y15 y16 y17 y18
   unfold torchonlaw06_GridsKeep.l1
   repeat' first
   | (with_reducible exact ih0 _ _ _ _ _ _ _ _ _ _ _ _ _ _ _ _ _ _)
   | (with_reducible exact ih1 _ _ _ _ _ _ _ _ _ _ _ _ _ _ _ _ _ _)
   | (with_reducible exact ih2 _ _ _ _ _ _ _ _ _ _ _ _ _ _ _ _ _ _)
   | (with_reducible exact ih3 _ _ _ _ _ _ _ _ _ _ _ _ _ _ _ _ _ _ _)
   | (with_reducible exact ih4 _ _ _ _ _ _ _ _ _ _ _ _ _ _ _ _ _ _ _)
   | (with_reducible exact grids_Apply.mono _ _ _ _ _ _ _ _ _)
   | (with_reducible exact grids_Check.mono _ _ _ _)
   | (with_reducible exact grids_Group.mono _ _ _ _)
   | (with_reducible exact grids_Invert.mono _ _ _ _ _ _ _)
   | (with_reducible exact grids_Keeps.mono _ _ _ _ _ _ _ _)
   | (with_reducible exact grids_Side.mono _ _ _ _ _ _ _)
   | (with_reducible exact grids_Square.mono _ _ _ _ _ _ _ _)
   | (with_reducible exact torchonlaw06_awake.mono _)
   | (with_reducible exact torchonlaw06_in.mono _ _ _ _ _ _)
   | (with_reducible exact LeO.refl _)
   | (with_reducible exact LeO.none _)
   | (with_reducible refine LeO.ite ?_ ?_)
   | (with_reducible refine LeO.bind ?_ (fun _ => ?_))
   | exact ih0 _ _ _ _ _ _ _ _ _ _ _ _ _ _ _ _ _ _
   | exact ih1 _ _ _ _ _ _ _ _ _ _ _ _ _ _ _ _ _ _
   | exact ih2 _ _ _ _ _ _ _ _ _ _ _ _ _ _ _ _ _ _
   | exact ih3 _ _ _ _ _ _ _ _ _ _ _ _ _ _ _ _ _ _ _
   | exact ih4 _ _ _ _ _ _ _ _ _ _ _ _ _ _ _ _ _ _ _
   | exact grids_Apply.mono _ _ _ _ _ _ _ _ _
   | exact grids_Check.mono _ _ _ _
   | exact grids_Group.mono _ _ _ _
   | exact grids_Invert.mono _ _ _ _ _ _ _
   | exact grids_Keeps.mono _ _ _ _ _ _ _ _
   | exact grids_Side.mono _ _ _ _ _ _ _
   | exact grids_Square.mono _ _ _ _ _ _ _ _
   | exact torchonlaw06_awake.mono _
   | exact torchonlaw06_in.mono _ _ _ _ _ _
   | exact LeO.none _
   | refine LeO.ite ?_ ?_
   | refine LeO.bind ?_ (fun _ => ?_)
theorem torchonlaw06_GridsKeep.mono : ∀ a0 a1 a2 a3 a4 a5 a6 a7 a8 a9 a10 a11 a12 a13 a14 k, LeO (torchonlaw06_GridsKeep.f k a0 a1 a2 a3 a4 a5 a6 a7 a8 a9 a10 a11 a12 a13 a14) (torchonlaw06_GridsKeep.f (k + 1) a0 a1 a2 a3 a4 a5 a6 a7 a8 a9 a10 a11 a12 a13 a14) := by
 intro a0 a1 a2 a3 a4 a5 a6 a7 a8 a9 a10 a11 a12 a13 a14 k
 obtain ⟨ih0, ih1, ih2, ih3, ih4⟩ := torchonlaw06_GridsKeep.mono_l k
 unfold torchonlaw06_GridsKeep.f
 repeat' first
   | (with_reducible exact ih0 _ _ _ _ _ _ _ _ _ _ _ _ _ _ _ _ _ _)
   | (with_reducible exact ih1 _ _ _ _ _ _ _ _ _ _ _ _ _ _ _ _ _ _)
   | (with_reducible exact ih2 _ _ _ _ _ _ _ _ _ _ _ _ _ _ _ _ _ _)
   | (with_reducible exact ih3 _ _ _ _ _ _ _ _ _ _ _ _ _ _ _ _ _ _ _)
   | (with_reducible exact ih4 _ _ _ _ _ _ _ _ _ _ _ _ _ _ _ _ _ _ _)
   | (with_reducible exact grids_Apply.mono _ _ _ _ _ _ _ _ _)
   | (with_reducible exact grids_Check.mono _ _ _ _)
   | (with_reducible exact grids_Group.mono _ _ _ _)
   | (with_reducible exact grids_Invert.mono _ _ _ _ _ _ _)
   | (with_reducible exact grids_Keeps.mono _ _ _ _ _ _ _ _)
   | (with_reducible exact grids_Side.mono _ _ _ _ _ _ _)
   | (with_reducible exact grids_Square.mono _ _ _ _ _ _ _ _)
   | (with_reducible exact torchonlaw06_awake.mono _)
   | (with_reducible exact torchonlaw06_in.mono _ _ _ _ _ _)
   | (with_reducible exact LeO.refl _)
   | (with_reducible exact LeO.none _)
   | (with_reducible refine LeO.ite ?_ ?_)
   | (with_reducible refine LeO.bind ?_ (fun _ => ?_))
   | exact ih0 _ _ _ _ _ _ _ _ _ _ _ _ _ _ _ _ _ _
   | exact ih1 _ _ _ _ _ _ _ _ _ _ _ _ _ _ _ _ _ _
   | exact ih2 _ _ _ _ _ _ _ _ _ _ _ _ _ _ _ _ _ _
   | exact ih3 _ _ _ _ _ _ _ _ _ _ _ _ _ _ _ _ _ _ _
   | exact ih4 _ _ _ _ _ _ _ _ _ _ _ _ _ _ _ _ _ _ _
   | exact grids_Apply.mono _ _ _ _ _ _ _ _ _
   | exact grids_Check.mono _ _ _ _
   | exact grids_Group.mono _ _ _ _
   | exact grids_Invert.mono _ _ _ _ _ _ _
   | exact grids_Keeps.mono _ _ _ _ _ _ _ _
   | exact grids_Side.mono _ _ _ _ _ _ _
   | exact grids_Square.mono _ _ _ _ _ _ _ _
   | exact torchonlaw06_awake.mono _
   | exact torchonlaw06_in.mono _ _ _ _ _ _
   | exact LeO.none _
   | refine LeO.ite ?_ ?_
   | refine LeO.bind ?_ (fun _ => ?_)
def torchonlaw06_GridsKeep.T7 : Bool × List (List Nat × List Nat) := (true, [([], []), ([0], [0]), ([1], [1]), ([], []), ([3], [3]), ([4, 2], [4]), ([], []), ([6], [6]), ([7, 5], [7]), ([], []), ([], []), ([], []), ([9, 2, 8, 0, 1, 2, 9, 10, 11], [2, 9]), ([10, 5, 12, 0, 1, 2, 3, 4, 5, 9, 10, 11, 12], [5, 10]), ([11, 8, 13, 0, 1, 2, 3, 4, 5, 6, 7, 8, 9, 10, 11, 12, 13], [8, 11])])
def torchonlaw06_GridsKeep.B7 : List Nat := [0, 1, 3, 0, 8, 31, 0, 64, 255, 0, 0, 0, 4095, 8191, 16383]
theorem torchonlaw06_GridsKeep.tab7 : rtab .any (opsOf Try.f9 7) = torchonlaw06_GridsKeep.T7 := by kernel_rfl
theorem torchonlaw06_GridsKeep.bits7 : waitsOk torchonlaw06_GridsKeep.T7.2 torchonlaw06_GridsKeep.B7 = true := by kernel_rfl
def torchonlaw06_GridsKeep.T17 : Bool × List (List Nat × List Nat) := (true, [([], []), ([], []), ([0, 1], [0, 1]), ([2], [2]), ([3], [3]), ([], []), ([4, 5], [4, 5]), ([6], [6]), ([7], [7]), ([7], [7]), ([], []), ([10, 8, 6, 0, 1, 2, 3, 4, 5, 6, 7, 8, 10], [8, 10]), ([9, 11, 0, 1, 2, 3, 4, 5, 6, 7, 8, 9, 10, 11], [9])])
def torchonlaw06_GridsKeep.B17 : List Nat := [0, 0, 3, 7, 15, 0, 63, 127, 255, 255, 0, 1535, 4095]
theorem torchonlaw06_GridsKeep.tab17 : rtab .any (opsOf Try.f9 17) = torchonlaw06_GridsKeep.T17 := by kernel_rfl
theorem torchonlaw06_GridsKeep.bits17 : waitsOk torchonlaw06_GridsKeep.T17.2 torchonlaw06_GridsKeep.B17 = true := by kernel_rfl
def torchonlaw06_GridsKeep.T18 : Bool × List (List Nat × List Nat) := (true, [([], []), ([], []), ([0, 1], [0, 1]), ([2], [2]), ([3], [3]), ([], []), ([4, 5], [4, 5]), ([6], [6]), ([7], [7]), ([7], [7]), ([], []), ([10, 8, 6, 0, 1, 2, 3, 4, 5, 6, 7, 8, 10], [8, 10]), ([9, 11, 0, 1, 2, 3, 4, 5, 6, 7, 8, 9, 10, 11], [9])])
def torchonlaw06_GridsKeep.B18 : List Nat := [0, 0, 3, 7, 15, 0, 63, 127, 255, 255, 0, 1535, 4095]
theorem torchonlaw06_GridsKeep.tab18 : rtab .any (opsOf Try.f9 18) = torchonlaw06_GridsKeep.T18 := by kernel_rfl
theorem torchonlaw06_GridsKeep.bits18 : waitsOk torchonlaw06_GridsKeep.T18.2 torchonlaw06_GridsKeep.B18 = true := by kernel_rfl
def torchonlaw06_GridsKeep.T19 : Bool × List (List Nat × List Nat) := (true, [([], []), ([], []), ([0, 1], [0, 1]), ([2], [2]), ([3], [3]), ([], []), ([4, 5], [4, 5]), ([6], [6]), ([7], [7]), ([7], [7]), ([], []), ([10, 8, 6, 0, 1, 2, 3, 4, 5, 6, 7, 8, 10], [8, 10]), ([9, 11, 0, 1, 2, 3, 4, 5, 6, 7, 8, 9, 10, 11], [9])])
def torchonlaw06_GridsKeep.B19 : List Nat := [0, 0, 3, 7, 15, 0, 63, 127, 255, 255, 0, 1535, 4095]
theorem torchonlaw06_GridsKeep.tab19 : rtab .any (opsOf Try.f9 19) = torchonlaw06_GridsKeep.T19 := by kernel_rfl
theorem torchonlaw06_GridsKeep.bits19 : waitsOk torchonlaw06_GridsKeep.T19.2 torchonlaw06_GridsKeep.B19 = true := by kernel_rfl
def torchonlaw06_GridsKeep.T20 : Bool × List (List Nat × List Nat) := (true, [([], []), ([], []), ([0, 1], [0, 1]), ([2], [2]), ([3], [3]), ([], []), ([], []), ([5, 6], [5, 6]), ([7], [7]), ([8], [8]), ([4, 9], [4, 9]), ([], []), ([], []), ([11, 12], [11, 12]), ([13], [13]), ([14], [14]), ([], []), ([], []), ([16, 17], [16, 17]), ([18], [18]), ([19], [19]), ([15, 20], [15, 20]), ([10, 21], [10, 21]), ([22, 0, 1, 2, 3, 4, 5, 6, 7, 8, 9, 10, 11, 12, 13, 14, 15, 16, 17, 18, 19, 20, 21, 22], [22])])
def torchonlaw06_GridsKeep.B20 : List Nat := [0, 0, 3, 7, 15, 0, 0, 96, 224, 480, 1023, 0, 0, 6144, 14336, 30720, 0, 0, 196608, 458752, 983040, 2095104, 4194303, 8388607]
theorem torchonlaw06_GridsKeep.tab20 : rtab .any (opsOf Try.f9 20) = torchonlaw06_GridsKeep.T20 := by kernel_rfl
theorem torchonlaw06_GridsKeep.bits20 : waitsOk torchonlaw06_GridsKeep.T20.2 torchonlaw06_GridsKeep.B20 = true := by kernel_rfl
def torchonlaw06_GridsKeep.T29 : Bool × List (List Nat × List Nat) := (true, [([], []), ([], []), ([], []), ([1, 2], [1, 2]), ([3], [3]), ([], []), ([], []), ([5, 6], [5, 6]), ([7], [7]), ([4, 8], [4, 8]), ([0, 9, 9], [0, 9]), ([10], [10])])
def torchonlaw06_GridsKeep.B29 : List Nat := [0, 0, 0, 6, 14, 0, 0, 96, 224, 510, 1023, 2047]
theorem torchonlaw06_GridsKeep.tab29 : rtab .any (opsOf Try.f9 29) = torchonlaw06_GridsKeep.T29 := by kernel_rfl
theorem torchonlaw06_GridsKeep.bits29 : waitsOk torchonlaw06_GridsKeep.T29.2 torchonlaw06_GridsKeep.B29 = true := by kernel_rfl
set_option maxHeartbeats 8000000 in
set_option maxRecDepth 100000 in
theorem torchonlaw06_GridsKeep.calls (k : Nat) (a0_0 : Int) (a0_1 : Int) (a0_2 : Int) (a1_0 : Int) (a1_1 : Int) (a1_2 : Int) (a1_3 : Int) (a1_4 : Int) (a1_5 : Int) (a1_6 : Int) (a1_7 : Int) (a2_0 : Int) (a2_1 : Int) (a2_2 : Int) (a2_3 : Int) (r : Bool) (w : World) (h : torchonlaw06_GridsKeep.f k a0_0 a0_1 a0_2 a1_0 a1_1 a1_2 a1_3 a1_4 a1_5 a1_6 a1_7 a2_0 a2_1 a2_2 a2_3 = some r) :
  Calls Try.prog 9 #[.agg #[.int .i64 a0_0, .int .i64 a0_1, .int .i64 a0_2], .agg #[.int .i64 a1_0, .int .i64 a1_1, .int .i64 a1_2, .int .i64 a1_3, .int .i64 a1_4, .int .i64 a1_5, .int .i64 a1_6, .int .i64 a1_7], .agg #[.int .i64 a2_0, .int .i64 a2_1, .int .i64 a2_2, .int .i64 a2_3]] w fun e w' => e = .returned (.bool r) ∧ Below w.heap.size w w' := by
 have hu23 := Try.underlying23
 have hu39 := Try.underlying39
 have hu25 := Try.underlying25
 have hu37 := Try.underlying37
 have hu55 := Try.underlying55
 have HB := Aside0.mk (Below.refl w.heap.size w)
 have H : ((grids_Group.f k a0_0 a0_1 a0_2).bind fun qz => (if qz.2 = 0 then (if (qz.1.length : Int) = 2 then (torchonlaw06_GridsKeep.j0 k qz.1 (qz.1.length : Int) false a0_0 a0_1 a0_2 a1_0 a1_1 a1_2 a1_3 a1_4 a1_5 a1_6 a1_7 a2_0 a2_1 a2_2 a2_3) else (if (qz.1.length : Int) = 4 then (torchonlaw06_GridsKeep.j0 k qz.1 (qz.1.length : Int) false a0_0 a0_1 a0_2 a1_0 a1_1 a1_2 a1_3 a1_4 a1_5 a1_6 a1_7 a2_0 a2_1 a2_2 a2_3) else (if (qz.1.length : Int) = 8 then (torchonlaw06_GridsKeep.j0 k qz.1 (qz.1.length : Int) false a0_0 a0_1 a0_2 a1_0 a1_1 a1_2 a1_3 a1_4 a1_5 a1_6 a1_7 a2_0 a2_1 a2_2 a2_3) else (torchonlaw06_GridsKeep.j0 k qz.1 (qz.1.length : Int) ((qz.1.length : Int) != 12) a0_0 a0_1 a0_2 a1_0 a1_1 a1_2 a1_3 a1_4 a1_5 a1_6 a1_7 a2_0 a2_1 a2_2 a2_3)))) else (if (qz.1.length : Int) = 0 then ((grids_Check.f k a0_0 a0_1 a0_2).bind fun QQ => (if QQ = 2 then ((torchonlaw06_awake.f k).bind fun JM => (some JM)) else (none))) else (none)))) = some r := h
 clear h
 obtain ⟨⟨q0, J6⟩, A4, H⟩ := ob H
 by_cases c5 : J6 = 0
 ·rw [if_pos c5] at H
  have q0B : (J6 == 0) = true := beq_iff_eq.mpr c5
  have q0C : (J6 != 0) = false := bne_eq_false_iff_eq.mpr c5
  clear c5
  have HC6 := Aside0.mk H
  clear H
  go_enter Try.func9, Try.ntmps9
  go_upto_region 5 with (first | ((with_reducible refine gate_dst (N := 3) rfl ?_); refine bx 3 #[.int .i64 a0_0, .int .i64 a0_1, .int .i64 a0_2] 23 fun jV hg w7 q3 hb => ?_; have q2C := gw hg HB; have q2z := gw hg HB; replace HB := bst HB hb; clear hb hg) | ((with_reducible refine gate_dst (N := 4) rfl ?_); refine bx 4 #[.int .i64 a1_0, .int .i64 a1_1, .int .i64 a1_2, .int .i64 a1_3, .int .i64 a1_4, .int .i64 a1_5, .int .i64 a1_6, .int .i64 a1_7] 39 fun qq hg w8 q2 hb => ?_; have q2D := gw hg HB; have q2A := gw hg HB; have QS := nlt hg q3; have QU := ngt hg q3; replace q3 := bb q3 hb; replace HB := bst HB hb; clear hb hg) | ((with_reducible refine gate_dst (N := 5) rfl ?_); refine bx 5 #[.int .i64 a2_0, .int .i64 a2_1, .int .i64 a2_2, .int .i64 a2_3] 25 fun qs hg w9 q4 hb => ?_; have q2E := gw hg HB; have q2B := gw hg HB; have QT := nlt hg q3; have QV := ngt hg q3; have GC := nlt hg q2; have GD := ngt hg q2; replace q3 := bb q3 hb; replace q2 := bb q2 hb; replace HB := bst HB hb; clear hb hg; have q7h := QS.out; have q8z := QU.out; have q7r := QT.out; have q8J := QV.out; have ⟨q3P, q3Q, q3R, q3S, q3T, q3U⟩ := cf3 q3) | ((with_reducible refine gate_callee (f := 22) rfl ?_); refine goesL_ (some 36) rfl rfl Try.func22 (by kernel_rfl) rfl #[.agg #[.int .i64 a0_0, .int .i64 a0_1, .int .i64 a0_2]] rfl am ?_; (with_reducible refine (grids_Group.calls k a0_0 a0_1 a0_2 q0 J6 _ A4.out).mono ?_); rintro e w13 ⟨v1031, rfl, ho0, hb⟩; refine ⟨_, rfl, ?_⟩; have gH := Aside0.mk (Kd.R_lower (Kd.R_newB ho0 (g := qs) (o := .cells #[.int .i64 a2_0, .int .i64 a2_1, .int .i64 a2_2, .int .i64 a2_3] 25 (0, 0)) (pk q4)) (below_size (bnow HB))); replace q3 := bb q3 hb; replace q2 := bb q2 hb; replace q4 := bb q4 hb; replace HB := bst HB hb; (try clear hb); (try clear hb2); (try clear hk); (try clear hi); (try clear ho0); obtain ⟨JP, gF, q3N⟩ := Kd.R_slice gH.out; subst q3N))
  (try simp only [Act.put, List.setIfInBounds_toArray, List.set_cons_zero, List.set_cons_succ])
  go_cut [67] (fun v67 wc => ∃ (kq : Nat) (x67_5 : Bool), v67 = .bool x67_5 ∧ Aside0 (torchonlaw06_GridsKeep.j0 kq q0 (q0.length : Int) x67_5 a0_0 a0_1 a0_2 a1_0 a1_1 a1_2 a1_3 a1_4 a1_5 a1_6 a1_7 a2_0 a2_1 a2_2 a2_3 = some r) ∧ Aside0 (kq ≤ k) ∧ Aside0 (Kd.R k25 25 wc w.heap.size (fun k_ => k_ ≠ qs) (.slice JP q0.length gF) q0) ∧ Aside0 (wc.heap[jV]? = some (.cells #[.int .i64 a0_0, .int .i64 a0_1, .int .i64 a0_2] 23 (0, 0))) ∧ Aside0 (wc.heap[qq]? = some (.cells #[.int .i64 a1_0, .int .i64 a1_1, .int .i64 a1_2, .int .i64 a1_3, .int .i64 a1_4, .int .i64 a1_5, .int .i64 a1_6, .int .i64 a1_7] 39 (0, 0))) ∧ Aside0 (wc.heap[qs]? = some (.cells #[.int .i64 a2_0, .int .i64 a2_1, .int .i64 a2_2, .int .i64 a2_3] 25 (0, 0))) ∧ Aside0 (Below w.heap.size w wc))
  case first => as_aux_lemma =>
   have H := HC6.out
   clear HC6
   by_cases c15 : (q0.length : Int) = 2
   ·rw [if_pos c15] at H
    have J8 : ((q0.length : Int) == 2) = true := beq_iff_eq.mpr c15
    have q0v : ((q0.length : Int) != 2) = false := bne_eq_false_iff_eq.mpr c15
    clear c15
    (first | rw [J8] | (simp only [i64_w, i32_w]; rw [J8]) | skip)
    have H' := Aside0.mk H
    clear H
    go_wp2
    go_meet
    case rel => exact ⟨_, (false), (by first | rfl | (simp; done) | (simp [*]; done)), H', ⟨by first | omega | exact Nat.le_refl _⟩, ⟨by (with_reducible repeat (first | apply Kd.R_alloc | apply Kd.R_drewN | apply Kd.R_drew)); exact Kd.R_mono gH.out (fun _ hk => hk.2)⟩, ⟨pk q3⟩, ⟨pk q2⟩, ⟨pk q4⟩, ⟨bnow HB⟩⟩
   ·rw [if_neg c15] at H
    have J8 : ((q0.length : Int) == 2) = false := beq_eq_false_iff_ne.mpr c15
    have q0v : ((q0.length : Int) != 2) = true := bne_iff_ne.mpr c15
    (first | rw [J8] | (simp only [i64_w, i32_w]; rw [J8]) | skip)
    by_cases c16 : (q0.length : Int) = 4
    ·rw [if_pos c16] at H
     have q0w : ((q0.length : Int) == 4) = true := beq_iff_eq.mpr c16
     have q0x : ((q0.length : Int) != 4) = false := bne_eq_false_iff_eq.mpr c16
     clear c16
     have H' := Aside0.mk H
     clear H
     go_wp2
     go_meet
     case rel => exact ⟨_, (false), (by first | rfl | (simp; done) | (simp [*]; done)), H', ⟨by first | omega | exact Nat.le_refl _⟩, ⟨by (with_reducible repeat (first | apply Kd.R_alloc | apply Kd.R_drewN | apply Kd.R_drew)); exact Kd.R_mono gH.out (fun _ hk => hk.2)⟩, ⟨pk q3⟩, ⟨pk q2⟩, ⟨pk q4⟩, ⟨bnow HB⟩⟩
    ·rw [if_neg c16] at H
     have q0w : ((q0.length : Int) == 4) = false := beq_eq_false_iff_ne.mpr c16
     have q0x : ((q0.length : Int) != 4) = true := bne_iff_ne.mpr c16
     by_cases c17 : (q0.length : Int) = 8
     ·rw [if_pos c17] at H
      have q0y : ((q0.length : Int) == 8) = true := beq_iff_eq.mpr c17
      have q0z : ((q0.length : Int) != 8) = false := bne_eq_false_iff_eq.mpr c17
      clear c17
      have H' := Aside0.mk H
      clear H
      go_wp2
      go_meet
      case rel => exact ⟨_, (false), (by first | rfl | (simp; done) | (simp [*]; done)), H', ⟨by first | omega | exact Nat.le_refl _⟩, ⟨by (with_reducible repeat (first | apply Kd.R_alloc | apply Kd.R_drewN | apply Kd.R_drew)); exact Kd.R_mono gH.out (fun _ hk => hk.2)⟩, ⟨pk q3⟩, ⟨pk q2⟩, ⟨pk q4⟩, ⟨bnow HB⟩⟩
     ·rw [if_neg c17] at H
      have q0y : ((q0.length : Int) == 8) = false := beq_eq_false_iff_ne.mpr c17
      have q0z : ((q0.length : Int) != 8) = true := bne_iff_ne.mpr c17
      have H' := Aside0.mk H
      clear H
      go_wp2
      go_meet
      case rel => exact ⟨_, (((q0.length : Int) != 12)), (by first | rfl | (simp; done) | (simp [*]; done)), H', ⟨by first | omega | exact Nat.le_refl _⟩, ⟨by (with_reducible repeat (first | apply Kd.R_alloc | apply Kd.R_drewN | apply Kd.R_drew)); exact Kd.R_mono gH.out (fun _ hk => hk.2)⟩, ⟨pk q3⟩, ⟨pk q2⟩, ⟨pk q4⟩, ⟨bnow HB⟩⟩
  case rest => as_aux_lemma =>
   clear HC6
   try clear c1; try clear c2; try clear p2; try clear c5; try clear q0B; try clear q0C; try clear c9; try clear c10; try clear c11; try clear c15; try clear J8; try clear q0v; try clear c16; try clear q0w; try clear q0x; try clear c17; try clear q0y; try clear q0z; try clear q3P; try clear q3Q; try clear q3R; try clear q3S; try clear q3T; try clear q3U
   obtain ⟨kq, x67_5, rfl, HA, HJ5, HO_7, q3, q2, q4, HB⟩ := hcut
   cases kq with
   | zero => exact absurd HA.out (by simp [torchonlaw06_GridsKeep.j0])
   | succ kj5 =>
    have H := HA.out
    clear HA
    simp only [torchonlaw06_GridsKeep.j0] at H
    by_cases c18 : x67_5 = true
    ·subst c18
     have H1 : (none) = some r := by rw [if_pos rfl] at H; exact H
     clear H
     have H := H1
     clear H1
     exact absurd H (by simp)
    ·replace c18 := Bool.eq_false_iff.mpr c18
     subst c18
     have H1 : ((torchonlaw06_near.f a1_2 a1_3).bind fun gD => ((torchonlaw06_near.f a1_4 a1_5).bind fun gE => ((torchonlaw06_near.f a1_6 a1_7).bind fun Qc => ((grids_Square.f kj5 a0_0 a0_1 a0_2 gD.1 gD.2 gE.1 gE.2).bind fun Js => ((grids_Side.f kj5 gD.1 gD.2 gE.1 gE.2 Qc.1 Qc.2).bind fun Jt => (if Js.2 = 0 then (torchonlaw06_GridsKeep.j1 kj5 q0 (q0.length : Int) Js.1 Jt.1 (Jt.2 != 0) a0_0 a0_1 a0_2 a2_0 a2_1 a2_2 a2_3 gD.1 gD.2 gE.1 gE.2 Qc.1 Qc.2) else (none))))))) = some r := by rw [if_neg (show ¬ (false = true) by decide)] at H; exact H
     clear H
     have H := H1
     clear H1
     obtain ⟨⟨qt, qv⟩, A19, H⟩ := ob H
     obtain ⟨⟨qu, qw⟩, A20, H⟩ := ob H
     obtain ⟨⟨qx, qy⟩, A21, H⟩ := ob H
     obtain ⟨⟨gG, Gk⟩, A22, H⟩ := ob H
     obtain ⟨⟨gO, q2m⟩, A23, H⟩ := ob H
     have Gs := Aside0.mk H
     clear H
     try go_wp2
     replace HO_7 := Aside0.mk (Kd.R_drew HO_7.out)
     replace q3 := bd q3
     replace q2 := bd q2
     replace q4 := bd q4
     replace HB := bdn HB
     refine start_ (n := 15) (S := fun w' => True) (ds := []) #[false, false, false, false, false, false, false, false, false, false, false, false, false, false, false] (by kernel_rfl) rfl rfl trivial (fun hHeld => ?_); refine with_tabW torchonlaw06_GridsKeep.tab7 torchonlaw06_GridsKeep.bits7 (fun HT_ HW_ => ?_)
     generalize wc.drew = w25 at HO_7 q3 q2 q4 HB hHeld ⊢
     refine pz 0 68 HT_ ?_
     refine pz 3 71 HT_ ?_
     refine pz 6 74 HT_ ?_
     refine inv_at [1, 2, 4, 5, 7, 8, 9, 10, 11, 12, 13, 14] (fun a0_ b a w' => ∃ (qf : Nat) (qg : Nat) (qh : Nat) (m9_ : Value) (qe : Value) (qA : Value), a = putSel a0_ b [(1, 69, .agg #[.int .i64 a1_2, .int .i64 a1_3]), (2, 70, .agg #[.int .i64 qt, .int .i64 qv]), (4, 72, .agg #[.int .i64 a1_4, .int .i64 a1_5]), (5, 73, .agg #[.int .i64 qu, .int .i64 qw]), (7, 75, .agg #[.int .i64 a1_6, .int .i64 a1_7]), (8, 76, .agg #[.int .i64 qx, .int .i64 qy]), (9, 10, m9_), (10, 11, qe), (11, 12, qA)] ∧ (Kd.R k25 25 w' w.heap.size (fun k_ => k_ ≠ qs) (.slice JP q0.length gF) q0) ∧ (w'.heap[jV]? = some (.cells #[.int .i64 a0_0, .int .i64 a0_1, .int .i64 a0_2] 23 (0, 0))) ∧ (w'.heap[qq]? = some (.cells #[.int .i64 a1_0, .int .i64 a1_1, .int .i64 a1_2, .int .i64 a1_3, .int .i64 a1_4, .int .i64 a1_5, .int .i64 a1_6, .int .i64 a1_7] 39 (0, 0))) ∧ (w'.heap[qs]? = some (.cells #[.int .i64 a2_0, .int .i64 a2_1, .int .i64 a2_2, .int .i64 a2_3] 25 (0, 0))) ∧ (Below w.heap.size w w') ∧ (b 9 = true → b 10 = true → qg ≠ qf) ∧ (b 9 = true → b 10 = true → qf ≠ qg) ∧ (b 9 = true → b 11 = true → qh ≠ qf) ∧ (b 9 = true → b 11 = true → qf ≠ qh) ∧ (b 10 = true → b 11 = true → qh ≠ qg) ∧ (b 10 = true → b 11 = true → qg ≠ qh) ∧ (b 9 = true → b 12 = false → w'.heap[qf]? = some (.cells #[.int .i64 0, .int .i64 0] 37 (0, 0))) ∧ (b 9 = true → w.heap.size ≤ qf) ∧ (b 9 = true → w.heap.size ≤ qf) ∧ (b 9 = true → jV ≠ qf) ∧ (b 9 = true → qf ≠ jV) ∧ (b 9 = true → qq ≠ qf) ∧ (b 9 = true → qf ≠ qq) ∧ (b 9 = true → qs ≠ qf) ∧ (b 9 = true → qf ≠ qs) ∧ (b 10 = true → b 13 = false → w'.heap[qg]? = some (.cells #[.int .i64 0, .int .i64 0] 37 (0, 0))) ∧ (b 10 = true → w.heap.size ≤ qg) ∧ (b 10 = true → w.heap.size ≤ qg) ∧ (b 10 = true → jV ≠ qg) ∧ (b 10 = true → qg ≠ jV) ∧ (b 10 = true → qq ≠ qg) ∧ (b 10 = true → qg ≠ qq) ∧ (b 10 = true → qs ≠ qg) ∧ (b 10 = true → qg ≠ qs) ∧ (b 11 = true → b 14 = false → w'.heap[qh]? = some (.cells #[.int .i64 0, .int .i64 0] 37 (0, 0))) ∧ (b 11 = true → w.heap.size ≤ qh) ∧ (b 11 = true → w.heap.size ≤ qh) ∧ (b 11 = true → jV ≠ qh) ∧ (b 11 = true → qh ≠ jV) ∧ (b 11 = true → qq ≠ qh) ∧ (b 11 = true → qh ≠ qq) ∧ (b 11 = true → qs ≠ qh) ∧ (b 11 = true → qh ≠ qs) ∧ (b 12 = true → w'.heap[qf]? = some (.cells #[.int .i64 qt, .int .i64 qv] 37 (0, 0))) ∧ (b 13 = true → w'.heap[qg]? = some (.cells #[.int .i64 qu, .int .i64 qw] 37 (0, 0))) ∧ (b 14 = true → w'.heap[qh]? = some (.cells #[.int .i64 qx, .int .i64 qy] 37 (0, 0))) ∧ (b 9 = true → (m9_ : Value) = .pointer (some ⟨qf, 0, none⟩)) ∧ (b 10 = true → (qe : Value) = .pointer (some ⟨qg, 0, none⟩)) ∧ (b 11 = true → (qA : Value) = .pointer (some ⟨qh, 0, none⟩))) HT_.out HW_.out (by kernel_rfl) (by kernel_rfl) ?_ ?_ ?_
     ·exact ⟨0, 0, 0, .bool false, .bool false, .bool false, by simp only [putSel, Bool.false_eq_true, if_false], HO_7.out, q3.out, q2.out, q4.out, HB.out, fun h_ => absurd h_ (by decide), fun h_ => absurd h_ (by decide), fun h_ => absurd h_ (by decide), fun h_ => absurd h_ (by decide), fun h_ => absurd h_ (by decide), fun h_ => absurd h_ (by decide), fun h_ => absurd h_ (by decide), fun h_ => absurd h_ (by decide), fun h_ => absurd h_ (by decide), fun h_ => absurd h_ (by decide), fun h_ => absurd h_ (by decide), fun h_ => absurd h_ (by decide), fun h_ => absurd h_ (by decide), fun h_ => absurd h_ (by decide), fun h_ => absurd h_ (by decide), fun h_ => absurd h_ (by decide), fun h_ => absurd h_ (by decide), fun h_ => absurd h_ (by decide), fun h_ => absurd h_ (by decide), fun h_ => absurd h_ (by decide), fun h_ => absurd h_ (by decide), fun h_ => absurd h_ (by decide), fun h_ => absurd h_ (by decide), fun h_ => absurd h_ (by decide), fun h_ => absurd h_ (by decide), fun h_ => absurd h_ (by decide), fun h_ => absurd h_ (by decide), fun h_ => absurd h_ (by decide), fun h_ => absurd h_ (by decide), fun h_ => absurd h_ (by decide), fun h_ => absurd h_ (by decide), fun h_ => absurd h_ (by decide), fun h_ => absurd h_ (by decide), fun h_ => absurd h_ (by decide), fun h_ => absurd h_ (by decide), fun h_ => absurd h_ (by decide), fun h_ => absurd h_ (by decide), fun h_ => absurd h_ (by decide), fun h_ => absurd h_ (by decide)⟩
     ·skip
      clear q3 q2 q4 HB HO_7
      refine steps_cons ?_ ?_
      ·as_aux_lemma =>
       rintro b a w' ⟨qf, qg, qh, m9_, qe, qA, ha, Q_HO_7, q8, q9, qa, Q_HB, jl, jg, jq, jh, jr, jm, qd, qG, qD, qJ, qS, qM, qT, qP, qU, qc, qH, qE, qK, qV, qN, qW, qQ, qX, qb, qI, qF, qL, qY, qO, qZ, qR, j0, g0, g2, g7, Q_X9_, Q_X10_, Q_X11_⟩ hb_ hon hoff
       refine ⟨_, rfl, fun K hK => ?_⟩
       have e68 : a.tmps[68]? = some (.pointer (some ⟨qq, 2, none⟩)) := by rw [ha]; exact (putSel_off rfl).trans rfl
       replace ha := Aside0.mk ha
       have HO_7 := Aside0.mk Q_HO_7
       have q3 := Aside0.mk q8
       have q2 := Aside0.mk q9
       have q4 := Aside0.mk qa
       have HB := Aside0.mk Q_HB
       have hc0_ : w'.cell? ⟨qq, 0, none⟩ = some (.int .i64 a1_0) := (blk_cell q2.out 0).trans rfl
       have hc1_ : w'.cell? ⟨qq, 1, none⟩ = some (.int .i64 a1_1) := (blk_cell q2.out 1).trans rfl
       have hc2_ : w'.cell? ⟨qq, 2, none⟩ = some (.int .i64 a1_2) := (blk_cell q2.out 2).trans rfl
       have hc3_ : w'.cell? ⟨qq, 3, none⟩ = some (.int .i64 a1_3) := (blk_cell q2.out 3).trans rfl
       have hc4_ : w'.cell? ⟨qq, 4, none⟩ = some (.int .i64 a1_4) := (blk_cell q2.out 4).trans rfl
       have hc5_ : w'.cell? ⟨qq, 5, none⟩ = some (.int .i64 a1_5) := (blk_cell q2.out 5).trans rfl
       have hc6_ : w'.cell? ⟨qq, 6, none⟩ = some (.int .i64 a1_6) := (blk_cell q2.out 6).trans rfl
       have hc7_ : w'.cell? ⟨qq, 7, none⟩ = some (.int .i64 a1_7) := (blk_cell q2.out 7).trans rfl
       refine value_ (w1 := w') (v := .agg #[.int .i64 a1_2, .int .i64 a1_3]) (by rfl) rfl ?_ ?_
       ·go_simp
        (try simp only [i64_w])
        try rfl
       refine hK.out _ _ ⟨qf, qg, qh, m9_, qe, qA, (by rw [ha.out]; exact putSel_upk 0 hb_ rfl rfl rfl), Q_HO_7, q8, q9, qa, Q_HB, jl, jg, jq, jh, jr, jm, qd, qG, qD, qJ, qS, qM, qT, qP, qU, qc, qH, qE, qK, qV, qN, qW, qQ, qX, qb, qI, qF, qL, qY, qO, qZ, qR, j0, fun h0_ => absurd ((hoff 12 (by kernel_rfl)).symm.trans h0_) (by decide), fun h0_ => absurd ((hoff 13 (by kernel_rfl)).symm.trans h0_) (by decide), fun h0_ => absurd ((hoff 14 (by kernel_rfl)).symm.trans h0_) (by decide), Q_X9_, Q_X10_, Q_X11_⟩
      refine steps_cons ?_ ?_
      ·as_aux_lemma =>
       rintro b a w' ⟨qf, qg, qh, m9_, qe, qA, ha, Q_HO_7, q8, q9, qa, Q_HB, jl, jg, jq, jh, jr, jm, qd, qG, qD, qJ, qS, qM, qT, qP, qU, qc, qH, qE, qK, qV, qN, qW, qQ, qX, qb, qI, qF, qL, qY, qO, qZ, qR, j0, g0, g2, g7, Q_X9_, Q_X10_, Q_X11_⟩ hb_ hon hoff
       refine ⟨_, rfl, fun K hK => ?_⟩
       have e69 : a.tmps[69]? = some (.agg #[.int .i64 a1_2, .int .i64 a1_3]) := by rw [ha]; exact putSel_on (e := (1, 69, .agg #[.int .i64 a1_2, .int .i64 a1_3])) 0 rfl rfl (hon 1 (by kernel_rfl)) rfl
       replace ha := Aside0.mk ha
       have HO_7 := Aside0.mk Q_HO_7
       have q3 := Aside0.mk q8
       have q2 := Aside0.mk q9
       have q4 := Aside0.mk qa
       have HB := Aside0.mk Q_HB
       refine goes_ Try.func35 (by kernel_rfl) rfl #[.agg #[.int .i64 a1_2, .int .i64 a1_3]] (by rfl) rfl rfl (by first | (simp only [List.map_toArray, List.map_cons, List.map_nil, Act.eval, Array.getD_eq_getD_getElem?, Option.getD_some, e69]; done) | (simp only [List.map_toArray, List.map_cons, List.map_nil, Act.eval, Array.getD_eq_getD_getElem?, Option.getD_some, e69]; rfl)) ?_
       with_reducible refine (torchonlaw06_near.calls a1_2 a1_3 qt qv _ A19.out).mono ?_
       rintro e w26 ⟨rfl, hb⟩
       refine ⟨_, rfl, ?_⟩
       have n0_ := Aside0.mk (Kd.R_below (by (with_reducible repeat (first | apply Kd.R_alloc | apply Kd.R_drewN | apply Kd.R_drew)); exact HO_7.out) hb)
       have n1_ := bb q3 hb
       have n2_ := bb q2 hb
       have n3_ := bb q4 hb
       have n4_ := bst HB hb
       have Qd := fun (h0_ : b 9 = true) (h1_ : b 12 = false) => (show w26.heap[qf]? = some (.cells #[.int .i64 0, .int .i64 0] 37 (0, 0)) from by first | exact (blk_below (g := qf) (o := .cells #[.int .i64 0, .int .i64 0] 37 (0, 0)) (by (with_reducible repeat (first | refine blk_drewN ?_ _ | refine blk_drew ?_ | refine blk_alloc ?_ _)); exact (qd h0_ h1_)) hb))
       have Qe := fun (h0_ : b 10 = true) (h1_ : b 13 = false) => (show w26.heap[qg]? = some (.cells #[.int .i64 0, .int .i64 0] 37 (0, 0)) from by first | exact (blk_below (g := qg) (o := .cells #[.int .i64 0, .int .i64 0] 37 (0, 0)) (by (with_reducible repeat (first | refine blk_drewN ?_ _ | refine blk_drew ?_ | refine blk_alloc ?_ _)); exact (qc h0_ h1_)) hb))
       have Qf := fun (h0_ : b 11 = true) (h1_ : b 14 = false) => (show w26.heap[qh]? = some (.cells #[.int .i64 0, .int .i64 0] 37 (0, 0)) from by first | exact (blk_below (g := qh) (o := .cells #[.int .i64 0, .int .i64 0] 37 (0, 0)) (by (with_reducible repeat (first | refine blk_drewN ?_ _ | refine blk_drew ?_ | refine blk_alloc ?_ _)); exact (qb h0_ h1_)) hb))
       clear HO_7
       clear q3
       clear q2
       clear q4
       clear HB
       have HO_7 := n0_
       have q3 := n1_
       have q2 := n2_
       have q4 := n3_
       have HB := n4_
       clear n0_ n1_ n2_ n3_ n4_
       (try clear hb)
       (try clear hb2)
       (try clear hk)
       (try clear hi)
       refine hK.out _ _ ⟨qf, qg, qh, m9_, qe, qA, (by rw [ha.out]; exact putSel_upk 1 hb_ rfl rfl rfl), (by (with_reducible repeat (first | apply Kd.R_alloc | apply Kd.R_drewN | apply Kd.R_drew)); exact HO_7.out), (pk q3), (pk q2), (pk q4), (bnow HB), jl, jg, jq, jh, jr, jm, Qd, qG, qD, qJ, qS, qM, qT, qP, qU, Qe, qH, qE, qK, qV, qN, qW, qQ, qX, Qf, qI, qF, qL, qY, qO, qZ, qR, j0, fun h0_ => absurd ((hoff 12 (by kernel_rfl)).symm.trans h0_) (by decide), fun h0_ => absurd ((hoff 13 (by kernel_rfl)).symm.trans h0_) (by decide), fun h0_ => absurd ((hoff 14 (by kernel_rfl)).symm.trans h0_) (by decide), Q_X9_, Q_X10_, Q_X11_⟩
      refine steps_cons ?_ ?_
      ·as_aux_lemma =>
       rintro b a w' ⟨qf, qg, qh, m9_, qe, qA, ha, Q_HO_7, q8, q9, qa, Q_HB, jl, jg, jq, jh, jr, jm, qd, qG, qD, qJ, qS, qM, qT, qP, qU, qc, qH, qE, qK, qV, qN, qW, qQ, qX, qb, qI, qF, qL, qY, qO, qZ, qR, j0, g0, g2, g7, Q_X9_, Q_X10_, Q_X11_⟩ hb_ hon hoff
       refine ⟨_, rfl, fun K hK => ?_⟩
       have e71 : a.tmps[71]? = some (.pointer (some ⟨qq, 4, none⟩)) := by rw [ha]; exact (putSel_off rfl).trans rfl
       replace ha := Aside0.mk ha
       have HO_7 := Aside0.mk Q_HO_7
       have q3 := Aside0.mk q8
       have q2 := Aside0.mk q9
       have q4 := Aside0.mk qa
       have HB := Aside0.mk Q_HB
       have hc0_ : w'.cell? ⟨qq, 0, none⟩ = some (.int .i64 a1_0) := (blk_cell q2.out 0).trans rfl
       have hc1_ : w'.cell? ⟨qq, 1, none⟩ = some (.int .i64 a1_1) := (blk_cell q2.out 1).trans rfl
       have hc2_ : w'.cell? ⟨qq, 2, none⟩ = some (.int .i64 a1_2) := (blk_cell q2.out 2).trans rfl
       have hc3_ : w'.cell? ⟨qq, 3, none⟩ = some (.int .i64 a1_3) := (blk_cell q2.out 3).trans rfl
       have hc4_ : w'.cell? ⟨qq, 4, none⟩ = some (.int .i64 a1_4) := (blk_cell q2.out 4).trans rfl
       have hc5_ : w'.cell? ⟨qq, 5, none⟩ = some (.int .i64 a1_5) := (blk_cell q2.out 5).trans rfl
       have hc6_ : w'.cell? ⟨qq, 6, none⟩ = some (.int .i64 a1_6) := (blk_cell q2.out 6).trans rfl
       have hc7_ : w'.cell? ⟨qq, 7, none⟩ = some (.int .i64 a1_7) := (blk_cell q2.out 7).trans rfl
       refine value_ (w1 := w') (v := .agg #[.int .i64 a1_4, .int .i64 a1_5]) (by rfl) rfl ?_ ?_
       ·go_simp
        (try simp only [i64_w])
        try rfl
       refine hK.out _ _ ⟨qf, qg, qh, m9_, qe, qA, (by rw [ha.out]; exact putSel_upk 2 hb_ rfl rfl rfl), Q_HO_7, q8, q9, qa, Q_HB, jl, jg, jq, jh, jr, jm, qd, qG, qD, qJ, qS, qM, qT, qP, qU, qc, qH, qE, qK, qV, qN, qW, qQ, qX, qb, qI, qF, qL, qY, qO, qZ, qR, j0, fun h0_ => absurd ((hoff 12 (by kernel_rfl)).symm.trans h0_) (by decide), fun h0_ => absurd ((hoff 13 (by kernel_rfl)).symm.trans h0_) (by decide), fun h0_ => absurd ((hoff 14 (by kernel_rfl)).symm.trans h0_) (by decide), Q_X9_, Q_X10_, Q_X11_⟩
      refine steps_cons ?_ ?_
      ·as_aux_lemma =>
       rintro b a w' ⟨qf, qg, qh, m9_, qe, qA, ha, Q_HO_7, q8, q9, qa, Q_HB, jl, jg, jq, jh, jr, jm, qd, qG, qD, qJ, qS, qM, qT, qP, qU, qc, qH, qE, qK, qV, qN, qW, qQ, qX, qb, qI, qF, qL, qY, qO, qZ, qR, j0, g0, g2, g7, Q_X9_, Q_X10_, Q_X11_⟩ hb_ hon hoff
       refine ⟨_, rfl, fun K hK => ?_⟩
       have e72 : a.tmps[72]? = some (.agg #[.int .i64 a1_4, .int .i64 a1_5]) := by rw [ha]; exact putSel_on (e := (4, 72, .agg #[.int .i64 a1_4, .int .i64 a1_5])) 2 rfl rfl (hon 4 (by kernel_rfl)) rfl
       replace ha := Aside0.mk ha
       have HO_7 := Aside0.mk Q_HO_7
       have q3 := Aside0.mk q8
       have q2 := Aside0.mk q9
       have q4 := Aside0.mk qa
       have HB := Aside0.mk Q_HB
       refine goes_ Try.func35 (by kernel_rfl) rfl #[.agg #[.int .i64 a1_4, .int .i64 a1_5]] (by rfl) rfl rfl (by first | (simp only [List.map_toArray, List.map_cons, List.map_nil, Act.eval, Array.getD_eq_getD_getElem?, Option.getD_some, e72]; done) | (simp only [List.map_toArray, List.map_cons, List.map_nil, Act.eval, Array.getD_eq_getD_getElem?, Option.getD_some, e72]; rfl)) ?_
       with_reducible refine (torchonlaw06_near.calls a1_4 a1_5 qu qw _ A20.out).mono ?_
       rintro e w28 ⟨rfl, hb⟩
       refine ⟨_, rfl, ?_⟩
       have n0_ := Aside0.mk (Kd.R_below (by (with_reducible repeat (first | apply Kd.R_alloc | apply Kd.R_drewN | apply Kd.R_drew)); exact HO_7.out) hb)
       have n1_ := bb q3 hb
       have n2_ := bb q2 hb
       have n3_ := bb q4 hb
       have n4_ := bst HB hb
       have Qd := fun (h0_ : b 9 = true) (h1_ : b 12 = false) => (show w28.heap[qf]? = some (.cells #[.int .i64 0, .int .i64 0] 37 (0, 0)) from by first | exact (blk_below (g := qf) (o := .cells #[.int .i64 0, .int .i64 0] 37 (0, 0)) (by (with_reducible repeat (first | refine blk_drewN ?_ _ | refine blk_drew ?_ | refine blk_alloc ?_ _)); exact (qd h0_ h1_)) hb))
       have Qe := fun (h0_ : b 10 = true) (h1_ : b 13 = false) => (show w28.heap[qg]? = some (.cells #[.int .i64 0, .int .i64 0] 37 (0, 0)) from by first | exact (blk_below (g := qg) (o := .cells #[.int .i64 0, .int .i64 0] 37 (0, 0)) (by (with_reducible repeat (first | refine blk_drewN ?_ _ | refine blk_drew ?_ | refine blk_alloc ?_ _)); exact (qc h0_ h1_)) hb))
       have Qf := fun (h0_ : b 11 = true) (h1_ : b 14 = false) => (show w28.heap[qh]? = some (.cells #[.int .i64 0, .int .i64 0] 37 (0, 0)) from by first | exact (blk_below (g := qh) (o := .cells #[.int .i64 0, .int .i64 0] 37 (0, 0)) (by (with_reducible repeat (first | refine blk_drewN ?_ _ | refine blk_drew ?_ | refine blk_alloc ?_ _)); exact (qb h0_ h1_)) hb))
       clear HO_7
       clear q3
       clear q2
       clear q4
       clear HB
       have HO_7 := n0_
       have q3 := n1_
       have q2 := n2_
       have q4 := n3_
       have HB := n4_
       clear n0_ n1_ n2_ n3_ n4_
       (try clear hb)
       (try clear hb2)
       (try clear hk)
       (try clear hi)
       refine hK.out _ _ ⟨qf, qg, qh, m9_, qe, qA, (by rw [ha.out]; exact putSel_upk 3 hb_ rfl rfl rfl), (by (with_reducible repeat (first | apply Kd.R_alloc | apply Kd.R_drewN | apply Kd.R_drew)); exact HO_7.out), (pk q3), (pk q2), (pk q4), (bnow HB), jl, jg, jq, jh, jr, jm, Qd, qG, qD, qJ, qS, qM, qT, qP, qU, Qe, qH, qE, qK, qV, qN, qW, qQ, qX, Qf, qI, qF, qL, qY, qO, qZ, qR, j0, fun h0_ => absurd ((hoff 12 (by kernel_rfl)).symm.trans h0_) (by decide), fun h0_ => absurd ((hoff 13 (by kernel_rfl)).symm.trans h0_) (by decide), fun h0_ => absurd ((hoff 14 (by kernel_rfl)).symm.trans h0_) (by decide), Q_X9_, Q_X10_, Q_X11_⟩
      refine steps_cons ?_ ?_
      ·as_aux_lemma =>
       rintro b a w' ⟨qf, qg, qh, m9_, qe, qA, ha, Q_HO_7, q8, q9, qa, Q_HB, jl, jg, jq, jh, jr, jm, qd, qG, qD, qJ, qS, qM, qT, qP, qU, qc, qH, qE, qK, qV, qN, qW, qQ, qX, qb, qI, qF, qL, qY, qO, qZ, qR, j0, g0, g2, g7, Q_X9_, Q_X10_, Q_X11_⟩ hb_ hon hoff
       refine ⟨_, rfl, fun K hK => ?_⟩
       have e74 : a.tmps[74]? = some (.pointer (some ⟨qq, 6, none⟩)) := by rw [ha]; exact (putSel_off rfl).trans rfl
       replace ha := Aside0.mk ha
       have HO_7 := Aside0.mk Q_HO_7
       have q3 := Aside0.mk q8
       have q2 := Aside0.mk q9
       have q4 := Aside0.mk qa
       have HB := Aside0.mk Q_HB
       have hc0_ : w'.cell? ⟨qq, 0, none⟩ = some (.int .i64 a1_0) := (blk_cell q2.out 0).trans rfl
       have hc1_ : w'.cell? ⟨qq, 1, none⟩ = some (.int .i64 a1_1) := (blk_cell q2.out 1).trans rfl
       have hc2_ : w'.cell? ⟨qq, 2, none⟩ = some (.int .i64 a1_2) := (blk_cell q2.out 2).trans rfl
       have hc3_ : w'.cell? ⟨qq, 3, none⟩ = some (.int .i64 a1_3) := (blk_cell q2.out 3).trans rfl
       have hc4_ : w'.cell? ⟨qq, 4, none⟩ = some (.int .i64 a1_4) := (blk_cell q2.out 4).trans rfl
       have hc5_ : w'.cell? ⟨qq, 5, none⟩ = some (.int .i64 a1_5) := (blk_cell q2.out 5).trans rfl
       have hc6_ : w'.cell? ⟨qq, 6, none⟩ = some (.int .i64 a1_6) := (blk_cell q2.out 6).trans rfl
       have hc7_ : w'.cell? ⟨qq, 7, none⟩ = some (.int .i64 a1_7) := (blk_cell q2.out 7).trans rfl
       refine value_ (w1 := w') (v := .agg #[.int .i64 a1_6, .int .i64 a1_7]) (by rfl) rfl ?_ ?_
       ·go_simp
        (try simp only [i64_w])
        try rfl
       refine hK.out _ _ ⟨qf, qg, qh, m9_, qe, qA, (by rw [ha.out]; exact putSel_upk 4 hb_ rfl rfl rfl), Q_HO_7, q8, q9, qa, Q_HB, jl, jg, jq, jh, jr, jm, qd, qG, qD, qJ, qS, qM, qT, qP, qU, qc, qH, qE, qK, qV, qN, qW, qQ, qX, qb, qI, qF, qL, qY, qO, qZ, qR, j0, fun h0_ => absurd ((hoff 12 (by kernel_rfl)).symm.trans h0_) (by decide), fun h0_ => absurd ((hoff 13 (by kernel_rfl)).symm.trans h0_) (by decide), fun h0_ => absurd ((hoff 14 (by kernel_rfl)).symm.trans h0_) (by decide), Q_X9_, Q_X10_, Q_X11_⟩
      refine steps_cons ?_ ?_
      ·as_aux_lemma =>
       rintro b a w' ⟨qf, qg, qh, m9_, qe, qA, ha, Q_HO_7, q8, q9, qa, Q_HB, jl, jg, jq, jh, jr, jm, qd, qG, qD, qJ, qS, qM, qT, qP, qU, qc, qH, qE, qK, qV, qN, qW, qQ, qX, qb, qI, qF, qL, qY, qO, qZ, qR, j0, g0, g2, g7, Q_X9_, Q_X10_, Q_X11_⟩ hb_ hon hoff
       refine ⟨_, rfl, fun K hK => ?_⟩
       have e75 : a.tmps[75]? = some (.agg #[.int .i64 a1_6, .int .i64 a1_7]) := by rw [ha]; exact putSel_on (e := (7, 75, .agg #[.int .i64 a1_6, .int .i64 a1_7])) 4 rfl rfl (hon 7 (by kernel_rfl)) rfl
       replace ha := Aside0.mk ha
       have HO_7 := Aside0.mk Q_HO_7
       have q3 := Aside0.mk q8
       have q2 := Aside0.mk q9
       have q4 := Aside0.mk qa
       have HB := Aside0.mk Q_HB
       refine goes_ Try.func35 (by kernel_rfl) rfl #[.agg #[.int .i64 a1_6, .int .i64 a1_7]] (by rfl) rfl rfl (by first | (simp only [List.map_toArray, List.map_cons, List.map_nil, Act.eval, Array.getD_eq_getD_getElem?, Option.getD_some, e75]; done) | (simp only [List.map_toArray, List.map_cons, List.map_nil, Act.eval, Array.getD_eq_getD_getElem?, Option.getD_some, e75]; rfl)) ?_
       with_reducible refine (torchonlaw06_near.calls a1_6 a1_7 qx qy _ A21.out).mono ?_
       rintro e w29 ⟨rfl, hb⟩
       refine ⟨_, rfl, ?_⟩
       have n0_ := Aside0.mk (Kd.R_below (by (with_reducible repeat (first | apply Kd.R_alloc | apply Kd.R_drewN | apply Kd.R_drew)); exact HO_7.out) hb)
       have n1_ := bb q3 hb
       have n2_ := bb q2 hb
       have n3_ := bb q4 hb
       have n4_ := bst HB hb
       have Qd := fun (h0_ : b 9 = true) (h1_ : b 12 = false) => (show w29.heap[qf]? = some (.cells #[.int .i64 0, .int .i64 0] 37 (0, 0)) from by first | exact (blk_below (g := qf) (o := .cells #[.int .i64 0, .int .i64 0] 37 (0, 0)) (by (with_reducible repeat (first | refine blk_drewN ?_ _ | refine blk_drew ?_ | refine blk_alloc ?_ _)); exact (qd h0_ h1_)) hb))
       have Qe := fun (h0_ : b 10 = true) (h1_ : b 13 = false) => (show w29.heap[qg]? = some (.cells #[.int .i64 0, .int .i64 0] 37 (0, 0)) from by first | exact (blk_below (g := qg) (o := .cells #[.int .i64 0, .int .i64 0] 37 (0, 0)) (by (with_reducible repeat (first | refine blk_drewN ?_ _ | refine blk_drew ?_ | refine blk_alloc ?_ _)); exact (qc h0_ h1_)) hb))
       have Qf := fun (h0_ : b 11 = true) (h1_ : b 14 = false) => (show w29.heap[qh]? = some (.cells #[.int .i64 0, .int .i64 0] 37 (0, 0)) from by first | exact (blk_below (g := qh) (o := .cells #[.int .i64 0, .int .i64 0] 37 (0, 0)) (by (with_reducible repeat (first | refine blk_drewN ?_ _ | refine blk_drew ?_ | refine blk_alloc ?_ _)); exact (qb h0_ h1_)) hb))
       clear HO_7
       clear q3
       clear q2
       clear q4
       clear HB
       have HO_7 := n0_
       have q3 := n1_
       have q2 := n2_
       have q4 := n3_
       have HB := n4_
       clear n0_ n1_ n2_ n3_ n4_
       (try clear hb)
       (try clear hb2)
       (try clear hk)
       (try clear hi)
       refine hK.out _ _ ⟨qf, qg, qh, m9_, qe, qA, (by rw [ha.out]; exact putSel_upk 5 hb_ rfl rfl rfl), (by (with_reducible repeat (first | apply Kd.R_alloc | apply Kd.R_drewN | apply Kd.R_drew)); exact HO_7.out), (pk q3), (pk q2), (pk q4), (bnow HB), jl, jg, jq, jh, jr, jm, Qd, qG, qD, qJ, qS, qM, qT, qP, qU, Qe, qH, qE, qK, qV, qN, qW, qQ, qX, Qf, qI, qF, qL, qY, qO, qZ, qR, j0, fun h0_ => absurd ((hoff 12 (by kernel_rfl)).symm.trans h0_) (by decide), fun h0_ => absurd ((hoff 13 (by kernel_rfl)).symm.trans h0_) (by decide), fun h0_ => absurd ((hoff 14 (by kernel_rfl)).symm.trans h0_) (by decide), Q_X9_, Q_X10_, Q_X11_⟩
      refine steps_cons ?_ ?_
      ·as_aux_lemma =>
       rintro b a w' ⟨qf, qg, qh, m9_, qe, qA, ha, Q_HO_7, q8, q9, qa, Q_HB, jl, jg, jq, jh, jr, jm, qd, qG, qD, qJ, qS, qM, qT, qP, qU, qc, qH, qE, qK, qV, qN, qW, qQ, qX, qb, qI, qF, qL, qY, qO, qZ, qR, j0, g0, g2, g7, Q_X9_, Q_X10_, Q_X11_⟩ hb_ hon hoff
       refine ⟨_, rfl, fun K hK => ?_⟩
       replace ha := Aside0.mk ha
       have HO_7 := Aside0.mk Q_HO_7
       have q3 := Aside0.mk q8
       have q2 := Aside0.mk q9
       have q4 := Aside0.mk qa
       have HB := Aside0.mk Q_HB
       refine box_step ?hg (N := 10) ?hd (cs := #[.int .i64 0, .int .i64 0]) (t := 37) ?hr ?_; (case hd => rfl); (case hg => rfl); (case hr => first | (go_simp; done) | (go_simp; rfl))
       intro qf hg w26 hbox hb
       have n0_ := Aside0.mk (Kd.R_below (by (with_reducible repeat (first | apply Kd.R_alloc | apply Kd.R_drewN | apply Kd.R_drew)); exact HO_7.out) hb)
       have n1_ := bb q3 hb
       have n2_ := bb q2 hb
       have n3_ := bb q4 hb
       have n4_ := bst HB hb
       have n5_ := Aside0.mk (hbox)
       have n6_ := gw hg HB
       have n7_ := gw hg HB
       have n8_ := nlt hg q3
       have n9_ := ngt hg q3
       have qB := nlt hg q2
       have qC := ngt hg q2
       have g8 := nlt hg q4
       have g9 := ngt hg q4
       have GS := fun (h0_ : up b 9 9 = true) (h1_ : up b 9 10 = true) => (show qg ≠ qf from (by cases hb_ : b 13 with | false => exact ((by rw [hg]; exact Nat.ne_of_lt (blk_lt (g := qg) (o := .cells #[.int .i64 0, .int .i64 0] 37 (0, 0)) (by (with_reducible repeat (first | refine blk_drewN ?_ _ | refine blk_drew ?_ | refine blk_alloc ?_ _)); exact (qc h1_ hb_))) : qg ≠ qf)) | true => exact ((by rw [hg]; exact Nat.ne_of_lt (blk_lt (g := qg) (by (with_reducible repeat (first | refine blk_drewN ?_ _ | refine blk_drew ?_ | refine blk_alloc ?_ _)); exact (g2 hb_))) : qg ≠ qf))))
       have GQ := fun (h0_ : up b 9 9 = true) (h1_ : up b 9 10 = true) => (show qf ≠ qg from (by cases hb_ : b 13 with | false => exact ((by rw [hg]; exact Nat.ne_of_gt (blk_lt (g := qg) (o := .cells #[.int .i64 0, .int .i64 0] 37 (0, 0)) (by (with_reducible repeat (first | refine blk_drewN ?_ _ | refine blk_drew ?_ | refine blk_alloc ?_ _)); exact (qc h1_ hb_))) : qf ≠ qg)) | true => exact ((by rw [hg]; exact Nat.ne_of_gt (blk_lt (g := qg) (by (with_reducible repeat (first | refine blk_drewN ?_ _ | refine blk_drew ?_ | refine blk_alloc ?_ _)); exact (g2 hb_))) : qf ≠ qg))))
       have GU := fun (h0_ : up b 9 9 = true) (h1_ : up b 9 11 = true) => (show qh ≠ qf from (by cases hb_ : b 14 with | false => exact ((by rw [hg]; exact Nat.ne_of_lt (blk_lt (g := qh) (o := .cells #[.int .i64 0, .int .i64 0] 37 (0, 0)) (by (with_reducible repeat (first | refine blk_drewN ?_ _ | refine blk_drew ?_ | refine blk_alloc ?_ _)); exact (qb h1_ hb_))) : qh ≠ qf)) | true => exact ((by rw [hg]; exact Nat.ne_of_lt (blk_lt (g := qh) (by (with_reducible repeat (first | refine blk_drewN ?_ _ | refine blk_drew ?_ | refine blk_alloc ?_ _)); exact (g7 hb_))) : qh ≠ qf))))
       have GR := fun (h0_ : up b 9 9 = true) (h1_ : up b 9 11 = true) => (show qf ≠ qh from (by cases hb_ : b 14 with | false => exact ((by rw [hg]; exact Nat.ne_of_gt (blk_lt (g := qh) (o := .cells #[.int .i64 0, .int .i64 0] 37 (0, 0)) (by (with_reducible repeat (first | refine blk_drewN ?_ _ | refine blk_drew ?_ | refine blk_alloc ?_ _)); exact (qb h1_ hb_))) : qf ≠ qh)) | true => exact ((by rw [hg]; exact Nat.ne_of_gt (blk_lt (g := qh) (by (with_reducible repeat (first | refine blk_drewN ?_ _ | refine blk_drew ?_ | refine blk_alloc ?_ _)); exact (g7 hb_))) : qf ≠ qh))))
       have Qe := fun (h0_ : b 10 = true) (h1_ : b 13 = false) => (show w26.heap[qg]? = some (.cells #[.int .i64 0, .int .i64 0] 37 (0, 0)) from by first | exact (blk_below (g := qg) (o := .cells #[.int .i64 0, .int .i64 0] 37 (0, 0)) (by (with_reducible repeat (first | refine blk_drewN ?_ _ | refine blk_drew ?_ | refine blk_alloc ?_ _)); exact (qc h0_ h1_)) hb))
       have Qf := fun (h0_ : b 11 = true) (h1_ : b 14 = false) => (show w26.heap[qh]? = some (.cells #[.int .i64 0, .int .i64 0] 37 (0, 0)) from by first | exact (blk_below (g := qh) (o := .cells #[.int .i64 0, .int .i64 0] 37 (0, 0)) (by (with_reducible repeat (first | refine blk_drewN ?_ _ | refine blk_drew ?_ | refine blk_alloc ?_ _)); exact (qb h0_ h1_)) hb))
       clear HO_7
       clear q3
       clear q2
       clear q4
       clear HB
       have HO_7 := n0_
       have q3 := n1_
       have q2 := n2_
       have q4 := n3_
       have HB := n4_
       have q5 := n5_
       have Qj := n6_
       have Qg := n7_
       have ga := n8_
       have gj := n9_
       have gp := qB
       have gI := qC
       have gg := g8
       have gt := g9
       clear n0_ n1_ n2_ n3_ n4_ n5_ n6_ n7_ n8_ n9_ qB qC g8 g9
       clear hb hg
       refine hK.out _ _ ⟨qf, qg, qh, (.pointer (some ⟨qf, 0, none⟩)), qe, qA, (by rw [ha.out]; exact putSel_upk 6 hb_ rfl rfl rfl), (by (with_reducible repeat (first | apply Kd.R_alloc | apply Kd.R_drewN | apply Kd.R_drew)); exact HO_7.out), (pk q3), (pk q2), (pk q4), (bnow HB), GS, GQ, GU, GR, jr, jm, fun _ _ => (pk q5), fun _ => Qj.out, fun _ => Qg.out, fun _ => ga.out, fun _ => gj.out, fun _ => gp.out, fun _ => gI.out, fun _ => gg.out, fun _ => gt.out, Qe, qH, qE, qK, qV, qN, qW, qQ, qX, Qf, qI, qF, qL, qY, qO, qZ, qR, j0, fun h0_ => absurd ((hoff 12 (by kernel_rfl)).symm.trans h0_) (by decide), fun h0_ => absurd ((hoff 13 (by kernel_rfl)).symm.trans h0_) (by decide), fun h0_ => absurd ((hoff 14 (by kernel_rfl)).symm.trans h0_) (by decide), fun _ => rfl, Q_X10_, Q_X11_⟩
      refine steps_cons ?_ ?_
      ·as_aux_lemma =>
       rintro b a w' ⟨qf, qg, qh, m9_, qe, qA, ha, Q_HO_7, q8, q9, qa, Q_HB, jl, jg, jq, jh, jr, jm, qd, qG, qD, qJ, qS, qM, qT, qP, qU, qc, qH, qE, qK, qV, qN, qW, qQ, qX, qb, qI, qF, qL, qY, qO, qZ, qR, j0, g0, g2, g7, Q_X9_, Q_X10_, Q_X11_⟩ hb_ hon hoff
       refine ⟨_, rfl, fun K hK => ?_⟩
       replace ha := Aside0.mk ha
       have HO_7 := Aside0.mk Q_HO_7
       have q3 := Aside0.mk q8
       have q2 := Aside0.mk q9
       have q4 := Aside0.mk qa
       have HB := Aside0.mk Q_HB
       refine box_step ?hg (N := 11) ?hd (cs := #[.int .i64 0, .int .i64 0]) (t := 37) ?hr ?_; (case hd => rfl); (case hg => rfl); (case hr => first | (go_simp; done) | (go_simp; rfl))
       intro qg hg w26 hbox hb
       have n0_ := Aside0.mk (Kd.R_below (by (with_reducible repeat (first | apply Kd.R_alloc | apply Kd.R_drewN | apply Kd.R_drew)); exact HO_7.out) hb)
       have n1_ := bb q3 hb
       have n2_ := bb q2 hb
       have n3_ := bb q4 hb
       have n4_ := bst HB hb
       have n5_ := Aside0.mk (hbox)
       have n6_ := gw hg HB
       have n7_ := gw hg HB
       have n8_ := nlt hg q3
       have n9_ := ngt hg q3
       have qB := nlt hg q2
       have qC := ngt hg q2
       have g8 := nlt hg q4
       have g9 := ngt hg q4
       have GS := fun (h0_ : up b 10 9 = true) (h1_ : up b 10 10 = true) => (show qg ≠ qf from (by cases hb_ : b 12 with | false => exact ((by rw [hg]; exact Nat.ne_of_gt (blk_lt (g := qf) (o := .cells #[.int .i64 0, .int .i64 0] 37 (0, 0)) (by (with_reducible repeat (first | refine blk_drewN ?_ _ | refine blk_drew ?_ | refine blk_alloc ?_ _)); exact (qd h0_ hb_))) : qg ≠ qf)) | true => exact ((by rw [hg]; exact Nat.ne_of_gt (blk_lt (g := qf) (by (with_reducible repeat (first | refine blk_drewN ?_ _ | refine blk_drew ?_ | refine blk_alloc ?_ _)); exact (g0 hb_))) : qg ≠ qf))))
       have GQ := fun (h0_ : up b 10 9 = true) (h1_ : up b 10 10 = true) => (show qf ≠ qg from (by cases hb_ : b 12 with | false => exact ((by rw [hg]; exact Nat.ne_of_lt (blk_lt (g := qf) (o := .cells #[.int .i64 0, .int .i64 0] 37 (0, 0)) (by (with_reducible repeat (first | refine blk_drewN ?_ _ | refine blk_drew ?_ | refine blk_alloc ?_ _)); exact (qd h0_ hb_))) : qf ≠ qg)) | true => exact ((by rw [hg]; exact Nat.ne_of_lt (blk_lt (g := qf) (by (with_reducible repeat (first | refine blk_drewN ?_ _ | refine blk_drew ?_ | refine blk_alloc ?_ _)); exact (g0 hb_))) : qf ≠ qg))))
       have GV := fun (h0_ : up b 10 10 = true) (h1_ : up b 10 11 = true) => (show qh ≠ qg from (by cases hb_ : b 14 with | false => exact ((by rw [hg]; exact Nat.ne_of_lt (blk_lt (g := qh) (o := .cells #[.int .i64 0, .int .i64 0] 37 (0, 0)) (by (with_reducible repeat (first | refine blk_drewN ?_ _ | refine blk_drew ?_ | refine blk_alloc ?_ _)); exact (qb h1_ hb_))) : qh ≠ qg)) | true => exact ((by rw [hg]; exact Nat.ne_of_lt (blk_lt (g := qh) (by (with_reducible repeat (first | refine blk_drewN ?_ _ | refine blk_drew ?_ | refine blk_alloc ?_ _)); exact (g7 hb_))) : qh ≠ qg))))
       have GT := fun (h0_ : up b 10 10 = true) (h1_ : up b 10 11 = true) => (show qg ≠ qh from (by cases hb_ : b 14 with | false => exact ((by rw [hg]; exact Nat.ne_of_gt (blk_lt (g := qh) (o := .cells #[.int .i64 0, .int .i64 0] 37 (0, 0)) (by (with_reducible repeat (first | refine blk_drewN ?_ _ | refine blk_drew ?_ | refine blk_alloc ?_ _)); exact (qb h1_ hb_))) : qg ≠ qh)) | true => exact ((by rw [hg]; exact Nat.ne_of_gt (blk_lt (g := qh) (by (with_reducible repeat (first | refine blk_drewN ?_ _ | refine blk_drew ?_ | refine blk_alloc ?_ _)); exact (g7 hb_))) : qg ≠ qh))))
       have Qd := fun (h0_ : b 9 = true) (h1_ : b 12 = false) => (show w26.heap[qf]? = some (.cells #[.int .i64 0, .int .i64 0] 37 (0, 0)) from by first | exact (blk_below (g := qf) (o := .cells #[.int .i64 0, .int .i64 0] 37 (0, 0)) (by (with_reducible repeat (first | refine blk_drewN ?_ _ | refine blk_drew ?_ | refine blk_alloc ?_ _)); exact (qd h0_ h1_)) hb))
       have Qf := fun (h0_ : b 11 = true) (h1_ : b 14 = false) => (show w26.heap[qh]? = some (.cells #[.int .i64 0, .int .i64 0] 37 (0, 0)) from by first | exact (blk_below (g := qh) (o := .cells #[.int .i64 0, .int .i64 0] 37 (0, 0)) (by (with_reducible repeat (first | refine blk_drewN ?_ _ | refine blk_drew ?_ | refine blk_alloc ?_ _)); exact (qb h0_ h1_)) hb))
       clear HO_7
       clear q3
       clear q2
       clear q4
       clear HB
       have HO_7 := n0_
       have q3 := n1_
       have q2 := n2_
       have q4 := n3_
       have HB := n4_
       have q6 := n5_
       have Qk := n6_
       have Qh := n7_
       have gb := n8_
       have gm := n9_
       have gq := qB
       have gJ := qC
       have gh := g8
       have gx := g9
       clear n0_ n1_ n2_ n3_ n4_ n5_ n6_ n7_ n8_ n9_ qB qC g8 g9
       clear hb hg
       refine hK.out _ _ ⟨qf, qg, qh, m9_, (.pointer (some ⟨qg, 0, none⟩)), qA, (by rw [ha.out]; exact putSel_upk 7 hb_ rfl rfl rfl), (by (with_reducible repeat (first | apply Kd.R_alloc | apply Kd.R_drewN | apply Kd.R_drew)); exact HO_7.out), (pk q3), (pk q2), (pk q4), (bnow HB), GS, GQ, jq, jh, GV, GT, Qd, qG, qD, qJ, qS, qM, qT, qP, qU, fun _ _ => (pk q6), fun _ => Qk.out, fun _ => Qh.out, fun _ => gb.out, fun _ => gm.out, fun _ => gq.out, fun _ => gJ.out, fun _ => gh.out, fun _ => gx.out, Qf, qI, qF, qL, qY, qO, qZ, qR, j0, fun h0_ => absurd ((hoff 12 (by kernel_rfl)).symm.trans h0_) (by decide), fun h0_ => absurd ((hoff 13 (by kernel_rfl)).symm.trans h0_) (by decide), fun h0_ => absurd ((hoff 14 (by kernel_rfl)).symm.trans h0_) (by decide), Q_X9_, fun _ => rfl, Q_X11_⟩
      refine steps_cons ?_ ?_
      ·as_aux_lemma =>
       rintro b a w' ⟨qf, qg, qh, m9_, qe, qA, ha, Q_HO_7, q8, q9, qa, Q_HB, jl, jg, jq, jh, jr, jm, qd, qG, qD, qJ, qS, qM, qT, qP, qU, qc, qH, qE, qK, qV, qN, qW, qQ, qX, qb, qI, qF, qL, qY, qO, qZ, qR, j0, g0, g2, g7, Q_X9_, Q_X10_, Q_X11_⟩ hb_ hon hoff
       refine ⟨_, rfl, fun K hK => ?_⟩
       replace ha := Aside0.mk ha
       have HO_7 := Aside0.mk Q_HO_7
       have q3 := Aside0.mk q8
       have q2 := Aside0.mk q9
       have q4 := Aside0.mk qa
       have HB := Aside0.mk Q_HB
       refine box_step ?hg (N := 12) ?hd (cs := #[.int .i64 0, .int .i64 0]) (t := 37) ?hr ?_; (case hd => rfl); (case hg => rfl); (case hr => first | (go_simp; done) | (go_simp; rfl))
       intro qh hg w26 hbox hb
       have n0_ := Aside0.mk (Kd.R_below (by (with_reducible repeat (first | apply Kd.R_alloc | apply Kd.R_drewN | apply Kd.R_drew)); exact HO_7.out) hb)
       have n1_ := bb q3 hb
       have n2_ := bb q2 hb
       have n3_ := bb q4 hb
       have n4_ := bst HB hb
       have n5_ := Aside0.mk (hbox)
       have n6_ := gw hg HB
       have n7_ := gw hg HB
       have n8_ := nlt hg q3
       have n9_ := ngt hg q3
       have qB := nlt hg q2
       have qC := ngt hg q2
       have g8 := nlt hg q4
       have g9 := ngt hg q4
       have GU := fun (h0_ : up b 11 9 = true) (h1_ : up b 11 11 = true) => (show qh ≠ qf from (by cases hb_ : b 12 with | false => exact ((by rw [hg]; exact Nat.ne_of_gt (blk_lt (g := qf) (o := .cells #[.int .i64 0, .int .i64 0] 37 (0, 0)) (by (with_reducible repeat (first | refine blk_drewN ?_ _ | refine blk_drew ?_ | refine blk_alloc ?_ _)); exact (qd h0_ hb_))) : qh ≠ qf)) | true => exact ((by rw [hg]; exact Nat.ne_of_gt (blk_lt (g := qf) (by (with_reducible repeat (first | refine blk_drewN ?_ _ | refine blk_drew ?_ | refine blk_alloc ?_ _)); exact (g0 hb_))) : qh ≠ qf))))
       have GR := fun (h0_ : up b 11 9 = true) (h1_ : up b 11 11 = true) => (show qf ≠ qh from (by cases hb_ : b 12 with | false => exact ((by rw [hg]; exact Nat.ne_of_lt (blk_lt (g := qf) (o := .cells #[.int .i64 0, .int .i64 0] 37 (0, 0)) (by (with_reducible repeat (first | refine blk_drewN ?_ _ | refine blk_drew ?_ | refine blk_alloc ?_ _)); exact (qd h0_ hb_))) : qf ≠ qh)) | true => exact ((by rw [hg]; exact Nat.ne_of_lt (blk_lt (g := qf) (by (with_reducible repeat (first | refine blk_drewN ?_ _ | refine blk_drew ?_ | refine blk_alloc ?_ _)); exact (g0 hb_))) : qf ≠ qh))))
       have GV := fun (h0_ : up b 11 10 = true) (h1_ : up b 11 11 = true) => (show qh ≠ qg from (by cases hb_ : b 13 with | false => exact ((by rw [hg]; exact Nat.ne_of_gt (blk_lt (g := qg) (o := .cells #[.int .i64 0, .int .i64 0] 37 (0, 0)) (by (with_reducible repeat (first | refine blk_drewN ?_ _ | refine blk_drew ?_ | refine blk_alloc ?_ _)); exact (qc h0_ hb_))) : qh ≠ qg)) | true => exact ((by rw [hg]; exact Nat.ne_of_gt (blk_lt (g := qg) (by (with_reducible repeat (first | refine blk_drewN ?_ _ | refine blk_drew ?_ | refine blk_alloc ?_ _)); exact (g2 hb_))) : qh ≠ qg))))
       have GT := fun (h0_ : up b 11 10 = true) (h1_ : up b 11 11 = true) => (show qg ≠ qh from (by cases hb_ : b 13 with | false => exact ((by rw [hg]; exact Nat.ne_of_lt (blk_lt (g := qg) (o := .cells #[.int .i64 0, .int .i64 0] 37 (0, 0)) (by (with_reducible repeat (first | refine blk_drewN ?_ _ | refine blk_drew ?_ | refine blk_alloc ?_ _)); exact (qc h0_ hb_))) : qg ≠ qh)) | true => exact ((by rw [hg]; exact Nat.ne_of_lt (blk_lt (g := qg) (by (with_reducible repeat (first | refine blk_drewN ?_ _ | refine blk_drew ?_ | refine blk_alloc ?_ _)); exact (g2 hb_))) : qg ≠ qh))))
       have Qd := fun (h0_ : b 9 = true) (h1_ : b 12 = false) => (show w26.heap[qf]? = some (.cells #[.int .i64 0, .int .i64 0] 37 (0, 0)) from by first | exact (blk_below (g := qf) (o := .cells #[.int .i64 0, .int .i64 0] 37 (0, 0)) (by (with_reducible repeat (first | refine blk_drewN ?_ _ | refine blk_drew ?_ | refine blk_alloc ?_ _)); exact (qd h0_ h1_)) hb))
       have Qe := fun (h0_ : b 10 = true) (h1_ : b 13 = false) => (show w26.heap[qg]? = some (.cells #[.int .i64 0, .int .i64 0] 37 (0, 0)) from by first | exact (blk_below (g := qg) (o := .cells #[.int .i64 0, .int .i64 0] 37 (0, 0)) (by (with_reducible repeat (first | refine blk_drewN ?_ _ | refine blk_drew ?_ | refine blk_alloc ?_ _)); exact (qc h0_ h1_)) hb))
       clear HO_7
       clear q3
       clear q2
       clear q4
       clear HB
       have HO_7 := n0_
       have q3 := n1_
       have q2 := n2_
       have q4 := n3_
       have HB := n4_
       have q7 := n5_
       have Ql := n6_
       have Qi := n7_
       have gc := n8_
       have gn := n9_
       have gr := qB
       have gK := qC
       have gi := g8
       have gA := g9
       clear n0_ n1_ n2_ n3_ n4_ n5_ n6_ n7_ n8_ n9_ qB qC g8 g9
       clear hb hg
       refine hK.out _ _ ⟨qf, qg, qh, m9_, qe, (.pointer (some ⟨qh, 0, none⟩)), (by rw [ha.out]; exact putSel_upk 8 hb_ rfl rfl rfl), (by (with_reducible repeat (first | apply Kd.R_alloc | apply Kd.R_drewN | apply Kd.R_drew)); exact HO_7.out), (pk q3), (pk q2), (pk q4), (bnow HB), jl, jg, GU, GR, GV, GT, Qd, qG, qD, qJ, qS, qM, qT, qP, qU, Qe, qH, qE, qK, qV, qN, qW, qQ, qX, fun _ _ => (pk q7), fun _ => Ql.out, fun _ => Qi.out, fun _ => gc.out, fun _ => gn.out, fun _ => gr.out, fun _ => gK.out, fun _ => gi.out, fun _ => gA.out, fun h0_ => absurd ((hoff 12 (by kernel_rfl)).symm.trans h0_) (by decide), fun h0_ => absurd ((hoff 13 (by kernel_rfl)).symm.trans h0_) (by decide), fun h0_ => absurd ((hoff 14 (by kernel_rfl)).symm.trans h0_) (by decide), Q_X9_, Q_X10_, fun _ => rfl⟩
      refine steps_cons ?_ ?_
      ·as_aux_lemma =>
       rintro b a w' ⟨qf, qg, qh, m9_, qe, qA, ha, Q_HO_7, q8, q9, qa, Q_HB, jl, jg, jq, jh, jr, jm, qd, qG, qD, qJ, qS, qM, qT, qP, qU, qc, qH, qE, qK, qV, qN, qW, qQ, qX, qb, qI, qF, qL, qY, qO, qZ, qR, j0, g0, g2, g7, Q_X9_, Q_X10_, Q_X11_⟩ hb_ hon hoff
       refine ⟨_, rfl, fun K hK => ?_⟩
       have e10 : a.tmps[10]? = some (m9_) := by rw [ha]; exact putSel_on (e := (9, 10, m9_)) 6 rfl rfl (hon 9 (by kernel_rfl)) rfl
       rw [Q_X9_ (hon 9 (by kernel_rfl))] at e10
       have e70 : a.tmps[70]? = some (.agg #[.int .i64 qt, .int .i64 qv]) := by rw [ha]; exact putSel_on (e := (2, 70, .agg #[.int .i64 qt, .int .i64 qv])) 1 rfl rfl (hon 2 (by kernel_rfl)) rfl
       replace ha := Aside0.mk ha
       have HO_7 := Aside0.mk Q_HO_7
       have q3 := Aside0.mk q8
       have q2 := Aside0.mk q9
       have q4 := Aside0.mk qa
       have HB := Aside0.mk Q_HB
       have gy := Aside0.mk (jl (hon 9 (by kernel_rfl)) (hon 10 (by kernel_rfl)))
       have gu := Aside0.mk (jg (hon 9 (by kernel_rfl)) (hon 10 (by kernel_rfl)))
       have gB := Aside0.mk (jq (hon 9 (by kernel_rfl)) (hon 11 (by kernel_rfl)))
       have gv := Aside0.mk (jh (hon 9 (by kernel_rfl)) (hon 11 (by kernel_rfl)))
       have gC := Aside0.mk (jr (hon 10 (by kernel_rfl)) (hon 11 (by kernel_rfl)))
       have gz := Aside0.mk (jm (hon 10 (by kernel_rfl)) (hon 11 (by kernel_rfl)))
       have q5 := Aside0.mk (qd (hon 9 (by kernel_rfl)) hb_)
       have Qj := Aside0.mk (qG (hon 9 (by kernel_rfl)))
       have Qg := Aside0.mk (qD (hon 9 (by kernel_rfl)))
       have ga := Aside0.mk (qJ (hon 9 (by kernel_rfl)))
       have gj := Aside0.mk (qS (hon 9 (by kernel_rfl)))
       have gp := Aside0.mk (qM (hon 9 (by kernel_rfl)))
       have gI := Aside0.mk (qT (hon 9 (by kernel_rfl)))
       have gg := Aside0.mk (qP (hon 9 (by kernel_rfl)))
       have gt := Aside0.mk (qU (hon 9 (by kernel_rfl)))
       have q6 := Aside0.mk (qc (hon 10 (by kernel_rfl)) (hoff 13 (by kernel_rfl)))
       have Qk := Aside0.mk (qH (hon 10 (by kernel_rfl)))
       have Qh := Aside0.mk (qE (hon 10 (by kernel_rfl)))
       have gb := Aside0.mk (qK (hon 10 (by kernel_rfl)))
       have gm := Aside0.mk (qV (hon 10 (by kernel_rfl)))
       have gq := Aside0.mk (qN (hon 10 (by kernel_rfl)))
       have gJ := Aside0.mk (qW (hon 10 (by kernel_rfl)))
       have gh := Aside0.mk (qQ (hon 10 (by kernel_rfl)))
       have gx := Aside0.mk (qX (hon 10 (by kernel_rfl)))
       have q7 := Aside0.mk (qb (hon 11 (by kernel_rfl)) (hoff 14 (by kernel_rfl)))
       have Ql := Aside0.mk (qI (hon 11 (by kernel_rfl)))
       have Qi := Aside0.mk (qF (hon 11 (by kernel_rfl)))
       have gc := Aside0.mk (qL (hon 11 (by kernel_rfl)))
       have gn := Aside0.mk (qY (hon 11 (by kernel_rfl)))
       have gr := Aside0.mk (qO (hon 11 (by kernel_rfl)))
       have gK := Aside0.mk (qZ (hon 11 (by kernel_rfl)))
       have gi := Aside0.mk (qR (hon 11 (by kernel_rfl)))
       have gA := Aside0.mk (j0 (hon 11 (by kernel_rfl)))
       have qb1 : w'.cell? ⟨qf, 0, none⟩ = some (.int .i64 0) := (blk_cell q5.out 0).trans rfl
       have q5p := blk_frozen q5.out 0
       have q9R := ga.out
       have q9S := gp.out
       have q9T := gg.out
       have q9U := gy.out
       have q9V := gB.out
       have q67 := gj.out
       have q68 := gI.out
       have q69 := gt.out
       have q6a := gu.out
       have q6b := gv.out
       have qb2 : w'.cell? ⟨qf, 1, none⟩ = some (.int .i64 0) := (blk_cell q5.out 1).trans rfl
       have q5q := blk_frozen q5.out 1
       have q9W := ga.out
       have q9X := gp.out
       have q9Y := gg.out
       have q9Z := gy.out
       have qa0 := gB.out
       have q6c := gj.out
       have q6d := gI.out
       have q6e := gt.out
       have q6f := gu.out
       have q6g := gv.out
       refine skip_ (w1 := ?_) (by rfl) rfl ?_ ?_
       rotate_left
       ·go_simp
        rfl
       refine hK.out _ _ ⟨qf, qg, qh, m9_, qe, qA, (by rw [ha.out]; exact putSel_none (v := undef) rfl), (by (with_reducible repeat (first | apply Kd.R_alloc | apply Kd.R_drewN | apply Kd.R_drew)); exact Kd.R_mono (Kd.R_far (p := ⟨qf, 1, none⟩) (Kd.R_far (p := ⟨qf, 0, none⟩) (Kd.R_types HO_7.out q5.out (by decide)) (fun _ hk => hk.2) (.int .i64 qt)) (fun _ hk => hk.2) (.int .i64 qv)) (fun _ hk => hk.1)), (by (with_reducible repeat (first | refine blk_drewN ?_ _ | refine blk_drew ?_ | refine blk_alloc ?_ _)); refine blk_far ?_ ga.out _; (with_reducible repeat (first | refine blk_drewN ?_ _ | refine blk_drew ?_ | refine blk_alloc ?_ _)); refine blk_far ?_ ga.out _; (with_reducible repeat (first | refine blk_drewN ?_ _ | refine blk_drew ?_ | refine blk_alloc ?_ _)); exact q3.out), (by (with_reducible repeat (first | refine blk_drewN ?_ _ | refine blk_drew ?_ | refine blk_alloc ?_ _)); refine blk_far ?_ gp.out _; (with_reducible repeat (first | refine blk_drewN ?_ _ | refine blk_drew ?_ | refine blk_alloc ?_ _)); refine blk_far ?_ gp.out _; (with_reducible repeat (first | refine blk_drewN ?_ _ | refine blk_drew ?_ | refine blk_alloc ?_ _)); exact q2.out), (by (with_reducible repeat (first | refine blk_drewN ?_ _ | refine blk_drew ?_ | refine blk_alloc ?_ _)); refine blk_far ?_ gg.out _; (with_reducible repeat (first | refine blk_drewN ?_ _ | refine blk_drew ?_ | refine blk_alloc ?_ _)); refine blk_far ?_ gg.out _; (with_reducible repeat (first | refine blk_drewN ?_ _ | refine blk_drew ?_ | refine blk_alloc ?_ _)); exact q4.out), (bnow HB), fun _ _ => gy.out, fun _ _ => gu.out, fun _ _ => gB.out, fun _ _ => gv.out, fun _ _ => gC.out, fun _ _ => gz.out, fun _ h1_ => absurd ((up_self b 12).symm.trans h1_) (by decide), fun _ => Qj.out, fun _ => Qg.out, fun _ => ga.out, fun _ => gj.out, fun _ => gp.out, fun _ => gI.out, fun _ => gg.out, fun _ => gt.out, fun _ _ => (by (with_reducible repeat (first | refine blk_drewN ?_ _ | refine blk_drew ?_ | refine blk_alloc ?_ _)); refine blk_far ?_ gy.out _; (with_reducible repeat (first | refine blk_drewN ?_ _ | refine blk_drew ?_ | refine blk_alloc ?_ _)); refine blk_far ?_ gy.out _; (with_reducible repeat (first | refine blk_drewN ?_ _ | refine blk_drew ?_ | refine blk_alloc ?_ _)); exact q6.out), fun _ => Qk.out, fun _ => Qh.out, fun _ => gb.out, fun _ => gm.out, fun _ => gq.out, fun _ => gJ.out, fun _ => gh.out, fun _ => gx.out, fun _ _ => (by (with_reducible repeat (first | refine blk_drewN ?_ _ | refine blk_drew ?_ | refine blk_alloc ?_ _)); refine blk_far ?_ gB.out _; (with_reducible repeat (first | refine blk_drewN ?_ _ | refine blk_drew ?_ | refine blk_alloc ?_ _)); refine blk_far ?_ gB.out _; (with_reducible repeat (first | refine blk_drewN ?_ _ | refine blk_drew ?_ | refine blk_alloc ?_ _)); exact q7.out), fun _ => Ql.out, fun _ => Qi.out, fun _ => gc.out, fun _ => gn.out, fun _ => gr.out, fun _ => gK.out, fun _ => gi.out, fun _ => gA.out, fun _ => (by (with_reducible repeat (first | refine blk_drewN ?_ _ | refine blk_drew ?_ | refine blk_alloc ?_ _)); refine blk_put (cs := #[.int .i64 qt, .int .i64 0]) ?_ 1 _ rfl; (with_reducible repeat (first | refine blk_drewN ?_ _ | refine blk_drew ?_ | refine blk_alloc ?_ _)); refine blk_put (cs := #[.int .i64 0, .int .i64 0]) ?_ 0 _ rfl; (with_reducible repeat (first | refine blk_drewN ?_ _ | refine blk_drew ?_ | refine blk_alloc ?_ _)); exact q5.out), fun h0_ => absurd ((hoff 13 (by kernel_rfl)).symm.trans h0_) (by decide), fun h0_ => absurd ((hoff 14 (by kernel_rfl)).symm.trans h0_) (by decide), Q_X9_, Q_X10_, Q_X11_⟩
      refine steps_cons ?_ ?_
      ·as_aux_lemma =>
       rintro b a w' ⟨qf, qg, qh, m9_, qe, qA, ha, Q_HO_7, q8, q9, qa, Q_HB, jl, jg, jq, jh, jr, jm, qd, qG, qD, qJ, qS, qM, qT, qP, qU, qc, qH, qE, qK, qV, qN, qW, qQ, qX, qb, qI, qF, qL, qY, qO, qZ, qR, j0, g0, g2, g7, Q_X9_, Q_X10_, Q_X11_⟩ hb_ hon hoff
       refine ⟨_, rfl, fun K hK => ?_⟩
       have e11 : a.tmps[11]? = some (qe) := by rw [ha]; exact putSel_on (e := (10, 11, qe)) 7 rfl rfl (hon 10 (by kernel_rfl)) rfl
       rw [Q_X10_ (hon 10 (by kernel_rfl))] at e11
       have e73 : a.tmps[73]? = some (.agg #[.int .i64 qu, .int .i64 qw]) := by rw [ha]; exact putSel_on (e := (5, 73, .agg #[.int .i64 qu, .int .i64 qw])) 3 rfl rfl (hon 5 (by kernel_rfl)) rfl
       replace ha := Aside0.mk ha
       have HO_7 := Aside0.mk Q_HO_7
       have q3 := Aside0.mk q8
       have q2 := Aside0.mk q9
       have q4 := Aside0.mk qa
       have HB := Aside0.mk Q_HB
       have gy := Aside0.mk (jl (hon 9 (by kernel_rfl)) (hon 10 (by kernel_rfl)))
       have gu := Aside0.mk (jg (hon 9 (by kernel_rfl)) (hon 10 (by kernel_rfl)))
       have gB := Aside0.mk (jq (hon 9 (by kernel_rfl)) (hon 11 (by kernel_rfl)))
       have gv := Aside0.mk (jh (hon 9 (by kernel_rfl)) (hon 11 (by kernel_rfl)))
       have gC := Aside0.mk (jr (hon 10 (by kernel_rfl)) (hon 11 (by kernel_rfl)))
       have gz := Aside0.mk (jm (hon 10 (by kernel_rfl)) (hon 11 (by kernel_rfl)))
       have Qj := Aside0.mk (qG (hon 9 (by kernel_rfl)))
       have Qg := Aside0.mk (qD (hon 9 (by kernel_rfl)))
       have ga := Aside0.mk (qJ (hon 9 (by kernel_rfl)))
       have gj := Aside0.mk (qS (hon 9 (by kernel_rfl)))
       have gp := Aside0.mk (qM (hon 9 (by kernel_rfl)))
       have gI := Aside0.mk (qT (hon 9 (by kernel_rfl)))
       have gg := Aside0.mk (qP (hon 9 (by kernel_rfl)))
       have gt := Aside0.mk (qU (hon 9 (by kernel_rfl)))
       have q6 := Aside0.mk (qc (hon 10 (by kernel_rfl)) hb_)
       have Qk := Aside0.mk (qH (hon 10 (by kernel_rfl)))
       have Qh := Aside0.mk (qE (hon 10 (by kernel_rfl)))
       have gb := Aside0.mk (qK (hon 10 (by kernel_rfl)))
       have gm := Aside0.mk (qV (hon 10 (by kernel_rfl)))
       have gq := Aside0.mk (qN (hon 10 (by kernel_rfl)))
       have gJ := Aside0.mk (qW (hon 10 (by kernel_rfl)))
       have gh := Aside0.mk (qQ (hon 10 (by kernel_rfl)))
       have gx := Aside0.mk (qX (hon 10 (by kernel_rfl)))
       have q7 := Aside0.mk (qb (hon 11 (by kernel_rfl)) (hoff 14 (by kernel_rfl)))
       have Ql := Aside0.mk (qI (hon 11 (by kernel_rfl)))
       have Qi := Aside0.mk (qF (hon 11 (by kernel_rfl)))
       have gc := Aside0.mk (qL (hon 11 (by kernel_rfl)))
       have gn := Aside0.mk (qY (hon 11 (by kernel_rfl)))
       have gr := Aside0.mk (qO (hon 11 (by kernel_rfl)))
       have gK := Aside0.mk (qZ (hon 11 (by kernel_rfl)))
       have gi := Aside0.mk (qR (hon 11 (by kernel_rfl)))
       have gA := Aside0.mk (j0 (hon 11 (by kernel_rfl)))
       have q5 := Aside0.mk (g0 (hon 12 (by kernel_rfl)))
       have qb3 : w'.cell? ⟨qg, 0, none⟩ = some (.int .i64 0) := (blk_cell q6.out 0).trans rfl
       have q5r := blk_frozen q6.out 0
       have qa1 := gb.out
       have qa2 := gq.out
       have qa3 := gh.out
       have qa4 := gu.out
       have qa5 := gC.out
       have q6h := gm.out
       have q6i := gJ.out
       have q6j := gx.out
       have q6k := gy.out
       have q6l := gz.out
       have qb4 : w'.cell? ⟨qg, 1, none⟩ = some (.int .i64 0) := (blk_cell q6.out 1).trans rfl
       have q5s := blk_frozen q6.out 1
       have qa6 := gb.out
       have qa7 := gq.out
       have qa8 := gh.out
       have qa9 := gu.out
       have qaa := gC.out
       have q6m := gm.out
       have q6n := gJ.out
       have q6o := gx.out
       have q6p := gy.out
       have q6q := gz.out
       refine skip_ (w1 := ?_) (by rfl) rfl ?_ ?_
       rotate_left
       ·go_simp
        rfl
       refine hK.out _ _ ⟨qf, qg, qh, m9_, qe, qA, (by rw [ha.out]; exact putSel_none (v := undef) rfl), (by (with_reducible repeat (first | apply Kd.R_alloc | apply Kd.R_drewN | apply Kd.R_drew)); exact Kd.R_mono (Kd.R_far (p := ⟨qg, 1, none⟩) (Kd.R_far (p := ⟨qg, 0, none⟩) (Kd.R_types HO_7.out q6.out (by decide)) (fun _ hk => hk.2) (.int .i64 qu)) (fun _ hk => hk.2) (.int .i64 qw)) (fun _ hk => hk.1)), (by (with_reducible repeat (first | refine blk_drewN ?_ _ | refine blk_drew ?_ | refine blk_alloc ?_ _)); refine blk_far ?_ gb.out _; (with_reducible repeat (first | refine blk_drewN ?_ _ | refine blk_drew ?_ | refine blk_alloc ?_ _)); refine blk_far ?_ gb.out _; (with_reducible repeat (first | refine blk_drewN ?_ _ | refine blk_drew ?_ | refine blk_alloc ?_ _)); exact q3.out), (by (with_reducible repeat (first | refine blk_drewN ?_ _ | refine blk_drew ?_ | refine blk_alloc ?_ _)); refine blk_far ?_ gq.out _; (with_reducible repeat (first | refine blk_drewN ?_ _ | refine blk_drew ?_ | refine blk_alloc ?_ _)); refine blk_far ?_ gq.out _; (with_reducible repeat (first | refine blk_drewN ?_ _ | refine blk_drew ?_ | refine blk_alloc ?_ _)); exact q2.out), (by (with_reducible repeat (first | refine blk_drewN ?_ _ | refine blk_drew ?_ | refine blk_alloc ?_ _)); refine blk_far ?_ gh.out _; (with_reducible repeat (first | refine blk_drewN ?_ _ | refine blk_drew ?_ | refine blk_alloc ?_ _)); refine blk_far ?_ gh.out _; (with_reducible repeat (first | refine blk_drewN ?_ _ | refine blk_drew ?_ | refine blk_alloc ?_ _)); exact q4.out), (bnow HB), fun _ _ => gy.out, fun _ _ => gu.out, fun _ _ => gB.out, fun _ _ => gv.out, fun _ _ => gC.out, fun _ _ => gz.out, fun _ h1_ => absurd ((hon 12 (by kernel_rfl)).symm.trans h1_) (by decide), fun _ => Qj.out, fun _ => Qg.out, fun _ => ga.out, fun _ => gj.out, fun _ => gp.out, fun _ => gI.out, fun _ => gg.out, fun _ => gt.out, fun _ h1_ => absurd ((up_self b 13).symm.trans h1_) (by decide), fun _ => Qk.out, fun _ => Qh.out, fun _ => gb.out, fun _ => gm.out, fun _ => gq.out, fun _ => gJ.out, fun _ => gh.out, fun _ => gx.out, fun _ _ => (by (with_reducible repeat (first | refine blk_drewN ?_ _ | refine blk_drew ?_ | refine blk_alloc ?_ _)); refine blk_far ?_ gC.out _; (with_reducible repeat (first | refine blk_drewN ?_ _ | refine blk_drew ?_ | refine blk_alloc ?_ _)); refine blk_far ?_ gC.out _; (with_reducible repeat (first | refine blk_drewN ?_ _ | refine blk_drew ?_ | refine blk_alloc ?_ _)); exact q7.out), fun _ => Ql.out, fun _ => Qi.out, fun _ => gc.out, fun _ => gn.out, fun _ => gr.out, fun _ => gK.out, fun _ => gi.out, fun _ => gA.out, fun _ => (by (with_reducible repeat (first | refine blk_drewN ?_ _ | refine blk_drew ?_ | refine blk_alloc ?_ _)); refine blk_far ?_ gu.out _; (with_reducible repeat (first | refine blk_drewN ?_ _ | refine blk_drew ?_ | refine blk_alloc ?_ _)); refine blk_far ?_ gu.out _; (with_reducible repeat (first | refine blk_drewN ?_ _ | refine blk_drew ?_ | refine blk_alloc ?_ _)); exact q5.out), fun _ => (by (with_reducible repeat (first | refine blk_drewN ?_ _ | refine blk_drew ?_ | refine blk_alloc ?_ _)); refine blk_put (cs := #[.int .i64 qu, .int .i64 0]) ?_ 1 _ rfl; (with_reducible repeat (first | refine blk_drewN ?_ _ | refine blk_drew ?_ | refine blk_alloc ?_ _)); refine blk_put (cs := #[.int .i64 0, .int .i64 0]) ?_ 0 _ rfl; (with_reducible repeat (first | refine blk_drewN ?_ _ | refine blk_drew ?_ | refine blk_alloc ?_ _)); exact q6.out), fun h0_ => absurd ((hoff 14 (by kernel_rfl)).symm.trans h0_) (by decide), Q_X9_, Q_X10_, Q_X11_⟩
      refine steps_cons ?_ ?_
      ·as_aux_lemma =>
       rintro b a w' ⟨qf, qg, qh, m9_, qe, qA, ha, Q_HO_7, q8, q9, qa, Q_HB, jl, jg, jq, jh, jr, jm, qd, qG, qD, qJ, qS, qM, qT, qP, qU, qc, qH, qE, qK, qV, qN, qW, qQ, qX, qb, qI, qF, qL, qY, qO, qZ, qR, j0, g0, g2, g7, Q_X9_, Q_X10_, Q_X11_⟩ hb_ hon hoff
       refine ⟨_, rfl, fun K hK => ?_⟩
       have e12 : a.tmps[12]? = some (qA) := by rw [ha]; exact putSel_on (e := (11, 12, qA)) 8 rfl rfl (hon 11 (by kernel_rfl)) rfl
       rw [Q_X11_ (hon 11 (by kernel_rfl))] at e12
       have e76 : a.tmps[76]? = some (.agg #[.int .i64 qx, .int .i64 qy]) := by rw [ha]; exact putSel_on (e := (8, 76, .agg #[.int .i64 qx, .int .i64 qy])) 5 rfl rfl (hon 8 (by kernel_rfl)) rfl
       replace ha := Aside0.mk ha
       have HO_7 := Aside0.mk Q_HO_7
       have q3 := Aside0.mk q8
       have q2 := Aside0.mk q9
       have q4 := Aside0.mk qa
       have HB := Aside0.mk Q_HB
       have gy := Aside0.mk (jl (hon 9 (by kernel_rfl)) (hon 10 (by kernel_rfl)))
       have gu := Aside0.mk (jg (hon 9 (by kernel_rfl)) (hon 10 (by kernel_rfl)))
       have gB := Aside0.mk (jq (hon 9 (by kernel_rfl)) (hon 11 (by kernel_rfl)))
       have gv := Aside0.mk (jh (hon 9 (by kernel_rfl)) (hon 11 (by kernel_rfl)))
       have gC := Aside0.mk (jr (hon 10 (by kernel_rfl)) (hon 11 (by kernel_rfl)))
       have gz := Aside0.mk (jm (hon 10 (by kernel_rfl)) (hon 11 (by kernel_rfl)))
       have Qj := Aside0.mk (qG (hon 9 (by kernel_rfl)))
       have Qg := Aside0.mk (qD (hon 9 (by kernel_rfl)))
       have ga := Aside0.mk (qJ (hon 9 (by kernel_rfl)))
       have gj := Aside0.mk (qS (hon 9 (by kernel_rfl)))
       have gp := Aside0.mk (qM (hon 9 (by kernel_rfl)))
       have gI := Aside0.mk (qT (hon 9 (by kernel_rfl)))
       have gg := Aside0.mk (qP (hon 9 (by kernel_rfl)))
       have gt := Aside0.mk (qU (hon 9 (by kernel_rfl)))
       have Qk := Aside0.mk (qH (hon 10 (by kernel_rfl)))
       have Qh := Aside0.mk (qE (hon 10 (by kernel_rfl)))
       have gb := Aside0.mk (qK (hon 10 (by kernel_rfl)))
       have gm := Aside0.mk (qV (hon 10 (by kernel_rfl)))
       have gq := Aside0.mk (qN (hon 10 (by kernel_rfl)))
       have gJ := Aside0.mk (qW (hon 10 (by kernel_rfl)))
       have gh := Aside0.mk (qQ (hon 10 (by kernel_rfl)))
       have gx := Aside0.mk (qX (hon 10 (by kernel_rfl)))
       have q7 := Aside0.mk (qb (hon 11 (by kernel_rfl)) hb_)
       have Ql := Aside0.mk (qI (hon 11 (by kernel_rfl)))
       have Qi := Aside0.mk (qF (hon 11 (by kernel_rfl)))
       have gc := Aside0.mk (qL (hon 11 (by kernel_rfl)))
       have gn := Aside0.mk (qY (hon 11 (by kernel_rfl)))
       have gr := Aside0.mk (qO (hon 11 (by kernel_rfl)))
       have gK := Aside0.mk (qZ (hon 11 (by kernel_rfl)))
       have gi := Aside0.mk (qR (hon 11 (by kernel_rfl)))
       have gA := Aside0.mk (j0 (hon 11 (by kernel_rfl)))
       have q5 := Aside0.mk (g0 (hon 12 (by kernel_rfl)))
       have q6 := Aside0.mk (g2 (hon 13 (by kernel_rfl)))
       have qb5 : w'.cell? ⟨qh, 0, none⟩ = some (.int .i64 0) := (blk_cell q7.out 0).trans rfl
       have q5t := blk_frozen q7.out 0
       have qab := gc.out
       have qac := gr.out
       have qad := gi.out
       have qae := gv.out
       have qaf := gz.out
       have q6r := gn.out
       have q6s := gK.out
       have q6t := gA.out
       have q6u := gB.out
       have q6v := gC.out
       have qb6 : w'.cell? ⟨qh, 1, none⟩ = some (.int .i64 0) := (blk_cell q7.out 1).trans rfl
       have q5u := blk_frozen q7.out 1
       have qag := gc.out
       have qah := gr.out
       have qai := gi.out
       have qaj := gv.out
       have qak := gz.out
       have q6w := gn.out
       have q6x := gK.out
       have q6y := gA.out
       have q6z := gB.out
       have q6A := gC.out
       refine skip_ (w1 := ?_) (by rfl) rfl ?_ ?_
       rotate_left
       ·go_simp
        rfl
       refine hK.out _ _ ⟨qf, qg, qh, m9_, qe, qA, (by rw [ha.out]; exact putSel_none (v := undef) rfl), (by (with_reducible repeat (first | apply Kd.R_alloc | apply Kd.R_drewN | apply Kd.R_drew)); exact Kd.R_mono (Kd.R_far (p := ⟨qh, 1, none⟩) (Kd.R_far (p := ⟨qh, 0, none⟩) (Kd.R_types HO_7.out q7.out (by decide)) (fun _ hk => hk.2) (.int .i64 qx)) (fun _ hk => hk.2) (.int .i64 qy)) (fun _ hk => hk.1)), (by (with_reducible repeat (first | refine blk_drewN ?_ _ | refine blk_drew ?_ | refine blk_alloc ?_ _)); refine blk_far ?_ gc.out _; (with_reducible repeat (first | refine blk_drewN ?_ _ | refine blk_drew ?_ | refine blk_alloc ?_ _)); refine blk_far ?_ gc.out _; (with_reducible repeat (first | refine blk_drewN ?_ _ | refine blk_drew ?_ | refine blk_alloc ?_ _)); exact q3.out), (by (with_reducible repeat (first | refine blk_drewN ?_ _ | refine blk_drew ?_ | refine blk_alloc ?_ _)); refine blk_far ?_ gr.out _; (with_reducible repeat (first | refine blk_drewN ?_ _ | refine blk_drew ?_ | refine blk_alloc ?_ _)); refine blk_far ?_ gr.out _; (with_reducible repeat (first | refine blk_drewN ?_ _ | refine blk_drew ?_ | refine blk_alloc ?_ _)); exact q2.out), (by (with_reducible repeat (first | refine blk_drewN ?_ _ | refine blk_drew ?_ | refine blk_alloc ?_ _)); refine blk_far ?_ gi.out _; (with_reducible repeat (first | refine blk_drewN ?_ _ | refine blk_drew ?_ | refine blk_alloc ?_ _)); refine blk_far ?_ gi.out _; (with_reducible repeat (first | refine blk_drewN ?_ _ | refine blk_drew ?_ | refine blk_alloc ?_ _)); exact q4.out), (bnow HB), fun _ _ => gy.out, fun _ _ => gu.out, fun _ _ => gB.out, fun _ _ => gv.out, fun _ _ => gC.out, fun _ _ => gz.out, fun _ h1_ => absurd ((hon 12 (by kernel_rfl)).symm.trans h1_) (by decide), fun _ => Qj.out, fun _ => Qg.out, fun _ => ga.out, fun _ => gj.out, fun _ => gp.out, fun _ => gI.out, fun _ => gg.out, fun _ => gt.out, fun _ h1_ => absurd ((hon 13 (by kernel_rfl)).symm.trans h1_) (by decide), fun _ => Qk.out, fun _ => Qh.out, fun _ => gb.out, fun _ => gm.out, fun _ => gq.out, fun _ => gJ.out, fun _ => gh.out, fun _ => gx.out, fun _ h1_ => absurd ((up_self b 14).symm.trans h1_) (by decide), fun _ => Ql.out, fun _ => Qi.out, fun _ => gc.out, fun _ => gn.out, fun _ => gr.out, fun _ => gK.out, fun _ => gi.out, fun _ => gA.out, fun _ => (by (with_reducible repeat (first | refine blk_drewN ?_ _ | refine blk_drew ?_ | refine blk_alloc ?_ _)); refine blk_far ?_ gv.out _; (with_reducible repeat (first | refine blk_drewN ?_ _ | refine blk_drew ?_ | refine blk_alloc ?_ _)); refine blk_far ?_ gv.out _; (with_reducible repeat (first | refine blk_drewN ?_ _ | refine blk_drew ?_ | refine blk_alloc ?_ _)); exact q5.out), fun _ => (by (with_reducible repeat (first | refine blk_drewN ?_ _ | refine blk_drew ?_ | refine blk_alloc ?_ _)); refine blk_far ?_ gz.out _; (with_reducible repeat (first | refine blk_drewN ?_ _ | refine blk_drew ?_ | refine blk_alloc ?_ _)); refine blk_far ?_ gz.out _; (with_reducible repeat (first | refine blk_drewN ?_ _ | refine blk_drew ?_ | refine blk_alloc ?_ _)); exact q6.out), fun _ => (by (with_reducible repeat (first | refine blk_drewN ?_ _ | refine blk_drew ?_ | refine blk_alloc ?_ _)); refine blk_put (cs := #[.int .i64 qx, .int .i64 0]) ?_ 1 _ rfl; (with_reducible repeat (first | refine blk_drewN ?_ _ | refine blk_drew ?_ | refine blk_alloc ?_ _)); refine blk_put (cs := #[.int .i64 0, .int .i64 0]) ?_ 0 _ rfl; (with_reducible repeat (first | refine blk_drewN ?_ _ | refine blk_drew ?_ | refine blk_alloc ?_ _)); exact q7.out), Q_X9_, Q_X10_, Q_X11_⟩
      exact steps_nil
     rintro b a w38 hall ⟨qf, qg, qh, m9_, qe, qA, ha, Q_HO_7, q8, q9, qa, Q_HB, jl, jg, jq, jh, jr, jm, qd, qG, qD, qJ, qS, qM, qT, qP, qU, qc, qH, qE, qK, qV, qN, qW, qQ, qX, qb, qI, qF, qL, qY, qO, qZ, qR, j0, g0, g2, g7, Q_X9_, Q_X10_, Q_X11_⟩
     clear q3 q2 q4 HB HO_7
     have hb1_ := hall 1 (by kernel_rfl)
     have hb2_ := hall 2 (by kernel_rfl)
     have hb4_ := hall 4 (by kernel_rfl)
     have hb5_ := hall 5 (by kernel_rfl)
     have hb7_ := hall 7 (by kernel_rfl)
     have hb8_ := hall 8 (by kernel_rfl)
     have hb9_ := hall 9 (by kernel_rfl)
     have hb10_ := hall 10 (by kernel_rfl)
     have hb11_ := hall 11 (by kernel_rfl)
     have hb12_ := hall 12 (by kernel_rfl)
     have hb13_ := hall 13 (by kernel_rfl)
     have hb14_ := hall 14 (by kernel_rfl)
     subst ha
     obtain rfl := Q_X9_ hb9_
     obtain rfl := Q_X10_ hb10_
     obtain rfl := Q_X11_ hb11_
     simp only [putSel, hb1_, hb2_, hb4_, hb5_, hb7_, hb8_, hb9_, hb10_, hb11_, hb12_, hb13_, hb14_, if_true, Act.put, List.setIfInBounds_toArray, List.set_cons_zero, List.set_cons_succ]
     have HO_7 := Aside0.mk Q_HO_7
     clear Q_HO_7
     have q3 := Aside0.mk q8
     clear q8
     have q2 := Aside0.mk q9
     clear q9
     have q4 := Aside0.mk qa
     clear qa
     have HB := Aside0.mk Q_HB
     clear Q_HB
     have gy := Aside0.mk (jl hb9_ hb10_)
     clear jl
     have gu := Aside0.mk (jg hb9_ hb10_)
     clear jg
     have gB := Aside0.mk (jq hb9_ hb11_)
     clear jq
     have gv := Aside0.mk (jh hb9_ hb11_)
     clear jh
     have gC := Aside0.mk (jr hb10_ hb11_)
     clear jr
     have gz := Aside0.mk (jm hb10_ hb11_)
     clear jm
     clear qd
     have Qj := Aside0.mk (qG hb9_)
     clear qG
     have Qg := Aside0.mk (qD hb9_)
     clear qD
     have ga := Aside0.mk (qJ hb9_)
     clear qJ
     have gj := Aside0.mk (qS hb9_)
     clear qS
     have gp := Aside0.mk (qM hb9_)
     clear qM
     have gI := Aside0.mk (qT hb9_)
     clear qT
     have gg := Aside0.mk (qP hb9_)
     clear qP
     have gt := Aside0.mk (qU hb9_)
     clear qU
     clear qc
     have Qk := Aside0.mk (qH hb10_)
     clear qH
     have Qh := Aside0.mk (qE hb10_)
     clear qE
     have gb := Aside0.mk (qK hb10_)
     clear qK
     have gm := Aside0.mk (qV hb10_)
     clear qV
     have gq := Aside0.mk (qN hb10_)
     clear qN
     have gJ := Aside0.mk (qW hb10_)
     clear qW
     have gh := Aside0.mk (qQ hb10_)
     clear qQ
     have gx := Aside0.mk (qX hb10_)
     clear qX
     clear qb
     have Ql := Aside0.mk (qI hb11_)
     clear qI
     have Qi := Aside0.mk (qF hb11_)
     clear qF
     have gc := Aside0.mk (qL hb11_)
     clear qL
     have gn := Aside0.mk (qY hb11_)
     clear qY
     have gr := Aside0.mk (qO hb11_)
     clear qO
     have gK := Aside0.mk (qZ hb11_)
     clear qZ
     have gi := Aside0.mk (qR hb11_)
     clear qR
     have gA := Aside0.mk (j0 hb11_)
     clear j0
     have q5 := Aside0.mk (g0 hb12_)
     clear g0
     have q6 := Aside0.mk (g2 hb13_)
     clear g2
     have q7 := Aside0.mk (g7 hb14_)
     clear g7
     clear hall hb1_ hb2_ hb4_ hb5_ hb7_ hb8_ hb9_ hb10_ hb11_ hb12_ hb13_ hb14_
     have q8j := QS.out
     have q9B := QU.out
     have q8k := QT.out
     have q9C := QV.out
     have q8l := ga.out
     have q9D := gj.out
     have q8m := gb.out
     have q9E := gm.out
     have q8n := gc.out
     have q9F := gn.out
     have ⟨q1a, q1b, q1c, q1M, q1N, q1O⟩ := cf3 q3
     have q8o := gI.out
     have q9G := gp.out
     have q8p := gt.out
     have q9H := gg.out
     have q8q := gu.out
     have q9I := gy.out
     have q8r := gv.out
     have q9J := gB.out
     have ⟨q1d, q1e, q1P, q1Q⟩ := cf2 q5
     have q8s := gJ.out
     have q9K := gq.out
     have q8t := gx.out
     have q9L := gh.out
     have q8u := gz.out
     have q9M := gC.out
     have ⟨q1f, q1g, q1R, q1S⟩ := cf2 q6
     go_upto_region 10 with (first | ((with_reducible refine gate_callee (f := 20) rfl ?_); refine gl 81 Try.func20 (grids_Square.calls kj5 a0_0 a0_1 a0_2 qt qv qu qw gG Gk _ A22.out) ?_; rintro e w54 ⟨rfl, hb⟩; refine ⟨_, rfl, ?_⟩; replace HO_7 := Aside0.mk (Kd.R_below (by (with_reducible repeat (first | apply Kd.R_alloc | apply Kd.R_drewN | apply Kd.R_drew)); exact HO_7.out) hb); replace q3 := bb q3 hb; replace q2 := bb q2 hb; replace q4 := bb q4 hb; replace q5 := bb q5 hb; replace q6 := bb q6 hb; replace q7 := bb q7 hb; replace HB := bst HB hb; (try clear hb); (try clear hb2); (try clear hk); (try clear hi); have ⟨q1h, q1i, q1T, q1U⟩ := cf2 q5; have ⟨q1j, q1k, q1V, q1W⟩ := cf2 q6; have q8v := gK.out; have q9N := gr.out; have q8w := gA.out; have q9O := gi.out; have ⟨q1l, q1m, q1X, q1Y⟩ := cf2 q7) | ((with_reducible refine gate_callee (f := 21) rfl ?_); refine gl 88 Try.func21 (grids_Side.calls kj5 qt qv qu qw qx qy gO q2m _ A23.out) ?_; rintro e w60 ⟨rfl, hb⟩; refine ⟨_, rfl, ?_⟩; replace HO_7 := Aside0.mk (Kd.R_below (by (with_reducible repeat (first | apply Kd.R_alloc | apply Kd.R_drewN | apply Kd.R_drew)); exact HO_7.out) hb); replace q3 := bb q3 hb; replace q2 := bb q2 hb; replace q4 := bb q4 hb; replace q5 := bb q5 hb; replace q6 := bb q6 hb; replace q7 := bb q7 hb; replace HB := bst HB hb; (try clear hb); (try clear hb2); (try clear hk); (try clear hi)))
     (try simp only [Act.put, List.setIfInBounds_toArray, List.set_cons_zero, List.set_cons_succ])
     go_cut [96] (fun v96 wc => ∃ (kq : Nat) (x96_23 : Bool), v96 = .bool x96_23 ∧ Aside0 (torchonlaw06_GridsKeep.j1 kq q0 (q0.length : Int) gG gO x96_23 a0_0 a0_1 a0_2 a2_0 a2_1 a2_2 a2_3 qt qv qu qw qx qy = some r) ∧ Aside0 (kq ≤ kj5) ∧ Aside0 (Kd.R k25 25 wc w.heap.size (fun k_ => k_ ≠ qs) (.slice JP q0.length gF) q0) ∧ Aside0 (wc.heap[jV]? = some (.cells #[.int .i64 a0_0, .int .i64 a0_1, .int .i64 a0_2] 23 (0, 0))) ∧ Aside0 (wc.heap[qq]? = some (.cells #[.int .i64 a1_0, .int .i64 a1_1, .int .i64 a1_2, .int .i64 a1_3, .int .i64 a1_4, .int .i64 a1_5, .int .i64 a1_6, .int .i64 a1_7] 39 (0, 0))) ∧ Aside0 (wc.heap[qs]? = some (.cells #[.int .i64 a2_0, .int .i64 a2_1, .int .i64 a2_2, .int .i64 a2_3] 25 (0, 0))) ∧ Aside0 (wc.heap[qf]? = some (.cells #[.int .i64 qt, .int .i64 qv] 37 (0, 0))) ∧ Aside0 (wc.heap[qg]? = some (.cells #[.int .i64 qu, .int .i64 qw] 37 (0, 0))) ∧ Aside0 (wc.heap[qh]? = some (.cells #[.int .i64 qx, .int .i64 qy] 37 (0, 0))) ∧ Aside0 (Below w.heap.size w wc))
     case first => as_aux_lemma =>
      have H := Gs.out
      clear Gs
      by_cases c61 : Gk = 0
      ·rw [if_pos c61] at H
       have JX : (Gk == 0) = true := beq_iff_eq.mpr c61
       have q0D : (Gk != 0) = false := bne_eq_false_iff_eq.mpr c61
       clear c61
       (first | rw [JX] | (simp only [i64_w, i32_w]; rw [JX]) | skip)
       have H' := Aside0.mk H
       clear H
       go_wp2
       go_meet
       case rel => exact ⟨_, ((q2m != 0)), (by first | rfl | (simp; done) | (simp [*]; done)), H', ⟨by have := HJ5.out; first | omega | exact Nat.le_refl _⟩, ⟨by (with_reducible repeat (first | apply Kd.R_alloc | apply Kd.R_drewN | apply Kd.R_drew)); exact HO_7.out⟩, ⟨pk q3⟩, ⟨pk q2⟩, ⟨pk q4⟩, ⟨pk q5⟩, ⟨pk q6⟩, ⟨pk q7⟩, ⟨bnow HB⟩⟩
      ·rw [if_neg c61] at H
       exact absurd H (by simp)
     case rest => as_aux_lemma =>
      clear Gs
      try clear c1; try clear c2; try clear p2; try clear c3; try clear c4; try clear c5; try clear c6; try clear c7; try clear c20; try clear c21; try clear c35; try clear c39; try clear c40; try clear c41; try clear c42; try clear c43; try clear c45; try clear c46; try clear c47; try clear c48; try clear c50; try clear c51; try clear c52; try clear c57; try clear c58; try clear c61; try clear JX; try clear q0D; try clear q1a; try clear q1b; try clear q1c; try clear q1d; try clear q1e; try clear q1f; try clear q1g; try clear q1h; try clear q1i; try clear q1j; try clear q1k; try clear q1l; try clear q1m; try clear q1M; try clear q1N; try clear q1O; try clear q1P; try clear q1Q; try clear q1R; try clear q1S; try clear q1T; try clear q1U; try clear q1V; try clear q1W; try clear q1X; try clear q1Y
      obtain ⟨kq, x96_23, rfl, HA, HJ23, HO_7, q3, q2, q4, q5, q6, q7, HB⟩ := hcut
      cases kq with
      | zero => exact absurd HA.out (by simp [torchonlaw06_GridsKeep.j1])
      | succ kj23 =>
       have H := HA.out
       clear HA
       simp only [torchonlaw06_GridsKeep.j1] at H
       by_cases c62 : x96_23 = true
       ·subst c62
        have H1 : (none) = some r := by rw [if_pos rfl] at H; exact H
        clear H
        have H := H1
        clear H1
        exact absurd H (by simp)
       ·replace c62 := Bool.eq_false_iff.mpr c62
        subst c62
        have H1 : (torchonlaw06_GridsKeep.l0 kj23 q0 (q0.length : Int) gG gO 0 a0_0 a0_1 a0_2 a2_0 a2_1 a2_2 a2_3 qt qv qu qw qx qy) = some r := by rw [if_neg (show ¬ (false = true) by decide)] at H; exact H
        clear H
        have H := H1
        clear H1
        have H' := Aside0.mk H
        clear H
        go_wp2
        go_loopg [17] kj23 (fun kq v17 w' => ∃ (x17_3 : Int), v17 = .int .i64 x17_3 ∧ Aside0 (torchonlaw06_GridsKeep.l0 kq q0 (q0.length : Int) gG gO x17_3 a0_0 a0_1 a0_2 a2_0 a2_1 a2_2 a2_3 qt qv qu qw qx qy = some r) ∧ Aside0 (kq ≤ kj23) ∧ Aside0 (Kd.R k25 25 w' w.heap.size (fun k_ => k_ ≠ qs) (.slice JP q0.length gF) q0) ∧ Aside0 (w'.heap[jV]? = some (.cells #[.int .i64 a0_0, .int .i64 a0_1, .int .i64 a0_2] 23 (0, 0))) ∧ Aside0 (w'.heap[qq]? = some (.cells #[.int .i64 a1_0, .int .i64 a1_1, .int .i64 a1_2, .int .i64 a1_3, .int .i64 a1_4, .int .i64 a1_5, .int .i64 a1_6, .int .i64 a1_7] 39 (0, 0))) ∧ Aside0 (w'.heap[qs]? = some (.cells #[.int .i64 a2_0, .int .i64 a2_1, .int .i64 a2_2, .int .i64 a2_3] 25 (0, 0))) ∧ Aside0 (w'.heap[qf]? = some (.cells #[.int .i64 qt, .int .i64 qv] 37 (0, 0))) ∧ Aside0 (w'.heap[qg]? = some (.cells #[.int .i64 qu, .int .i64 qw] 37 (0, 0))) ∧ Aside0 (w'.heap[qh]? = some (.cells #[.int .i64 qx, .int .i64 qy] 37 (0, 0))) ∧ Aside0 (Below w.heap.size w w'))
        case atStart => exact ⟨(0), (by first | rfl | (simp; done) | (simp [*]; done)), H', ⟨Nat.le_refl _⟩, ⟨by (with_reducible repeat (first | apply Kd.R_alloc | apply Kd.R_drewN | apply Kd.R_drew)); exact HO_7.out⟩, ⟨pk q3⟩, ⟨pk q2⟩, ⟨pk q4⟩, ⟨pk q5⟩, ⟨pk q6⟩, ⟨pk q7⟩, ⟨bnow HB⟩⟩
        case round => as_aux_lemma =>
         clear H'
         try clear c1; try clear c2; try clear p2; try clear c3; try clear c4; try clear c5; try clear c6; try clear c7; try clear c20; try clear c21; try clear c35; try clear c39; try clear c40; try clear c41; try clear c42; try clear c43; try clear c45; try clear c46; try clear c47; try clear c48; try clear c50; try clear c51; try clear c52; try clear c57; try clear c58; try clear c61; try clear JX; try clear q0D; try clear c62; try clear q1a; try clear q1b; try clear q1c; try clear q1d; try clear q1e; try clear q1f; try clear q1g; try clear q1h; try clear q1i; try clear q1j; try clear q1k; try clear q1l; try clear q1m; try clear q1M; try clear q1N; try clear q1O; try clear q1P; try clear q1Q; try clear q1R; try clear q1S; try clear q1T; try clear q1U; try clear q1V; try clear q1W; try clear q1X; try clear q1Y; try clear p2
         obtain ⟨x17_3, rfl, HA, HK3, HO_7, q3, q2, q4, q5, q6, q7, HB⟩ := hrel
         cases gk with
         | zero => exact absurd HA.out (by simp [torchonlaw06_GridsKeep.l0])
         | succ k3 =>
          have H := HA.out
          clear HA
          simp only [torchonlaw06_GridsKeep.l0] at H
          by_cases c63 : x17_3 < (q0.length : Int)
          ·rw [if_pos c63] at H
           have q3y : decide (x17_3 < (q0.length : Int)) = true := decide_eq_true c63
           clear c63
           by_cases c64 : 0 ≤ x17_3
           ·rw [if_pos c64] at H
            have q4v : decide (0 ≤ x17_3) = true := decide_eq_true c64
            clear c64
            by_cases c65 : x17_3 < (q0.length : Int)
            ·rw [if_pos c65] at H
             have q4w : decide (x17_3 < (q0.length : Int)) = true := decide_eq_true c65
             clear c65
             obtain ⟨GM, A66, H⟩ := ob H
             by_cases c67 : GM = true
             ·subst c67
              have H1 : ((grids_Apply.f k3 ((rd_T25 q0 x17_3).f0) ((rd_T25 q0 x17_3).f1) ((rd_T25 q0 x17_3).f2) ((rd_T25 q0 x17_3).f3) 0 0 qt qv).bind fun gL => ((grids_Apply.f k3 ((rd_T25 q0 x17_3).f0) ((rd_T25 q0 x17_3).f1) ((rd_T25 q0 x17_3).f2) ((rd_T25 q0 x17_3).f3) 0 0 qu qw).bind fun gM => ((grids_Apply.f k3 ((rd_T25 q0 x17_3).f0) ((rd_T25 q0 x17_3).f1) ((rd_T25 q0 x17_3).f2) ((rd_T25 q0 x17_3).f3) 0 0 qx qy).bind fun QW => ((some (wrap64 (((rd_T25 q0 x17_3).f0) * ((rd_T25 q0 x17_3).f3)))).bind fun Ji => ((some (wrap64 (((rd_T25 q0 x17_3).f1) * ((rd_T25 q0 x17_3).f2)))).bind fun Jj => ((some (wrap64 (Ji - Jj))).bind fun Jk => ((grids_Square.f k3 a0_0 a0_1 a0_2 gL.1 gL.2.1 gM.1 gM.2.1).bind fun Ju => ((grids_Side.f k3 gL.1 gL.2.1 gM.1 gM.2.1 QW.1 QW.2.1).bind fun Jv => ((grids_Invert.f k3 ((rd_T25 q0 x17_3).f0) ((rd_T25 q0 x17_3).f1) ((rd_T25 q0 x17_3).f2) ((rd_T25 q0 x17_3).f3) 0 0).bind fun gN => (if gL.2.2 = 0 then (if gM.2.2 = 0 then (if QW.2.2 = 0 then (if Ju.2 = 0 then (if Jv.2 = 0 then (if gN.2.2.2.2.2.2 = 0 then (if Ju.1 = gG then ((some (wrap64 (Jk * gO))).bind fun QR => (if Jv.1 = QR then ((torchonlaw06_in.f k3 q0 gN.1 gN.2.1 gN.2.2.1 gN.2.2.2.1).bind fun Jg => (torchonlaw06_GridsKeep.j3 k3 q0 (q0.length : Int) gG gO x17_3 (!Jg) a0_0 a0_1 a0_2 a2_0 a2_1 a2_2 a2_3 qt qv qu qw qx qy)) else (none))) else (none)) else (none)) else (none)) else (none)) else (none)) else (none)) else (none))))))))))) = some r := by rw [if_pos rfl] at H; exact H
              clear H
              have H := H1
              clear H1
              obtain ⟨⟨jT, jW, g3⟩, A68, H⟩ := ob H
              obtain ⟨⟨jX, jZ, g4⟩, A69, H⟩ := ob H
              obtain ⟨⟨g1, g5, g6⟩, A70, H⟩ := ob H
              obtain ⟨Ji, E710, H⟩ := oc H
              have E71w : (IntKind.i64.wrap (((rd_T25 q0 x17_3).f0) * ((rd_T25 q0 x17_3).f3))) = Ji := (i64_w _).trans E710
              obtain ⟨Jj, E720, H⟩ := oc H
              have E72w : (IntKind.i64.wrap (((rd_T25 q0 x17_3).f1) * ((rd_T25 q0 x17_3).f2))) = Jj := (i64_w _).trans E720
              obtain ⟨Jk, E730, H⟩ := oc H
              have E73w : (IntKind.i64.wrap (Ji - Jj)) = Jk := (i64_w _).trans E730
              obtain ⟨⟨Gl, Gm⟩, A74, H⟩ := ob H
              obtain ⟨⟨Gn, Gp⟩, A75, H⟩ := ob H
              obtain ⟨⟨Jc, Jd, Je, Jf, JN, JO, Gq⟩, A76, H⟩ := ob H
              have Gt := Aside0.mk H
              clear H
              have GG : 0 ≤ (x17_3 : Int) := of_decide_eq_true (by first | (with_reducible assumption) | assumption)
              have GJ : x17_3 < (q0.length : Int) := of_decide_eq_true (by first | (with_reducible assumption) | assumption)
              obtain ⟨qj, q3z, qbd, qbe, qbf, qbg⟩ := at_T25 (Kd.R_reads' HO_7.out).2.2 x17_3 GG GJ
              cases q3z
              replace GG := eq_true GG
              replace GJ := eq_true GJ
              try go_wp2_with (first | ((with_reducible refine gate_callee (f := 15) rfl ?_); refine gl 106 Try.func15 (torchonref06_Matrix.calls ((rd_T25 q0 x17_3).f0) ((rd_T25 q0 x17_3).f1) ((rd_T25 q0 x17_3).f2) ((rd_T25 q0 x17_3).f3) true _ A66.out) ?_; rintro e w78 ⟨rfl, hb⟩; refine ⟨_, rfl, ?_⟩; replace HO_7 := Aside0.mk (Kd.R_below (by (with_reducible repeat (first | apply Kd.R_alloc | apply Kd.R_drewN | apply Kd.R_drew)); exact HO_7.out) hb); replace q3 := bb q3 hb; replace q2 := bb q2 hb; replace q4 := bb q4 hb; replace q5 := bb q5 hb; replace q6 := bb q6 hb; replace q7 := bb q7 hb; replace HB := bst HB hb; (try clear hb); (try clear hb2); (try clear hk); (try clear hi)))
              replace HO_7 := Aside0.mk (Kd.R_drew HO_7.out)
              replace q3 := bd q3
              replace q2 := bd q2
              replace q4 := bd q4
              replace q5 := bd q5
              replace q6 := bd q6
              replace q7 := bd q7
              replace HB := bdn HB
              have Ge : 0 ≤ (x17_3 : Int) := of_decide_eq_true (by first | (with_reducible assumption) | assumption)
              have Gh : x17_3 < (q0.length : Int) := of_decide_eq_true (by first | (with_reducible assumption) | assumption)
              obtain ⟨q2F, q3A, q3W, q3X, q3Y, q3Z⟩ := at_T25 (Kd.R_reads' HO_7.out).2.2 x17_3 Ge Gh
              obtain rfl : qj = q2F := (by injection q3A)
              replace Ge := eq_true Ge
              replace Gh := eq_true Gh
              refine start_ (n := 13) (S := fun w' => True) (ds := []) #[false, false, false, false, false, false, false, false, false, false, false, false, false] (by kernel_rfl) rfl rfl trivial (fun hHeld => ?_); refine with_tabW torchonlaw06_GridsKeep.tab17 torchonlaw06_GridsKeep.bits17 (fun HT_ HW_ => ?_)
              generalize w78.drew = w79 at HO_7 q3 q2 q4 q5 q6 q7 HB q3W q3X q3Y q3Z hHeld ⊢
              refine pz 0 109 HT_ ?_
              refine pz 1 110 HT_ ?_
              refine inv_at [2, 3, 4, 5, 6, 7, 8, 9, 10, 11, 12] (fun a0_ b a w' => ∃ (qm : Nat) (qe : Value), a = putSel a0_ b [(2, 111, .pointer (some (qj.add ((x17_3).toNat * 4)))), (3, 112, .agg #[.int .i64 ((rd_T25 q0 x17_3).f0), .int .i64 ((rd_T25 q0 x17_3).f1), .int .i64 ((rd_T25 q0 x17_3).f2), .int .i64 ((rd_T25 q0 x17_3).f3)]), (4, 113, .agg #[.int .i64 ((rd_T25 q0 x17_3).f0), .int .i64 ((rd_T25 q0 x17_3).f1), .int .i64 ((rd_T25 q0 x17_3).f2), .int .i64 ((rd_T25 q0 x17_3).f3), .int .i64 0, .int .i64 0]), (5, 114, .agg #[.int .i64 qt, .int .i64 qv]), (6, 115, .tuple #[.agg #[.int .i64 jT, .int .i64 jW], .int .i64 g3]), (7, 108, .tuple #[.agg #[.int .i64 jT, .int .i64 jW], .int .i64 g3]), (8, 116, .agg #[.int .i64 jT, .int .i64 jW]), (9, 117, .int .i64 g3), (10, 18, qe), (12, 19, .int .i64 g3)] ∧ (Kd.R k25 25 w' w.heap.size (fun k_ => k_ ≠ qs) (.slice (some qj) q0.length gF) q0) ∧ (w'.heap[jV]? = some (.cells #[.int .i64 a0_0, .int .i64 a0_1, .int .i64 a0_2] 23 (0, 0))) ∧ (w'.heap[qq]? = some (.cells #[.int .i64 a1_0, .int .i64 a1_1, .int .i64 a1_2, .int .i64 a1_3, .int .i64 a1_4, .int .i64 a1_5, .int .i64 a1_6, .int .i64 a1_7] 39 (0, 0))) ∧ (w'.heap[qs]? = some (.cells #[.int .i64 a2_0, .int .i64 a2_1, .int .i64 a2_2, .int .i64 a2_3] 25 (0, 0))) ∧ (w'.heap[qf]? = some (.cells #[.int .i64 qt, .int .i64 qv] 37 (0, 0))) ∧ (w'.heap[qg]? = some (.cells #[.int .i64 qu, .int .i64 qw] 37 (0, 0))) ∧ (w'.heap[qh]? = some (.cells #[.int .i64 qx, .int .i64 qy] 37 (0, 0))) ∧ (Below w.heap.size w w') ∧ (b 10 = true → b 11 = false → w'.heap[qm]? = some (.cells #[.int .i64 0, .int .i64 0] 37 (0, 0))) ∧ (b 10 = true → w.heap.size ≤ qm) ∧ (b 10 = true → w.heap.size ≤ qm) ∧ (b 10 = true → jV ≠ qm) ∧ (b 10 = true → qm ≠ jV) ∧ (b 10 = true → qq ≠ qm) ∧ (b 10 = true → qm ≠ qq) ∧ (b 10 = true → qs ≠ qm) ∧ (b 10 = true → qm ≠ qs) ∧ (b 10 = true → qf ≠ qm) ∧ (b 10 = true → qm ≠ qf) ∧ (b 10 = true → qg ≠ qm) ∧ (b 10 = true → qm ≠ qg) ∧ (b 10 = true → qh ≠ qm) ∧ (b 10 = true → qm ≠ qh) ∧ (b 11 = true → w'.heap[qm]? = some (.cells #[.int .i64 jT, .int .i64 jW] 37 (0, 0))) ∧ (b 10 = true → (qe : Value) = .pointer (some ⟨qm, 0, none⟩))) HT_.out HW_.out (by kernel_rfl) (by kernel_rfl) ?_ ?_ ?_
              ·exact ⟨0, .bool false, by simp only [putSel, Bool.false_eq_true, if_false], HO_7.out, q3.out, q2.out, q4.out, q5.out, q6.out, q7.out, HB.out, fun h_ => absurd h_ (by decide), fun h_ => absurd h_ (by decide), fun h_ => absurd h_ (by decide), fun h_ => absurd h_ (by decide), fun h_ => absurd h_ (by decide), fun h_ => absurd h_ (by decide), fun h_ => absurd h_ (by decide), fun h_ => absurd h_ (by decide), fun h_ => absurd h_ (by decide), fun h_ => absurd h_ (by decide), fun h_ => absurd h_ (by decide), fun h_ => absurd h_ (by decide), fun h_ => absurd h_ (by decide), fun h_ => absurd h_ (by decide), fun h_ => absurd h_ (by decide), fun h_ => absurd h_ (by decide), fun h_ => absurd h_ (by decide)⟩
              ·skip
               clear q3 q2 q4 q5 q6 q7 HB HO_7
               refine steps_cons ?_ ?_
               ·as_aux_lemma =>
                rintro b a w' ⟨qm, qe, ha, Q_HO_7, q8, q9, qa, qd, qc, qb, Q_HB, qk, j4, j1, j7, jv, ja, jw, jd, jx, ji, jy, jn, jz, js, jA, gd, Q_X10_⟩ hb_ hon hoff
                refine ⟨_, rfl, fun K hK => ?_⟩
                have q4y : a.tmps[109]? = some (.slice (some qj) q0.length gF) := by rw [ha]; exact (putSel_off rfl).trans rfl
                have q4z : a.tmps[110]? = some (.int .i64 x17_3) := by rw [ha]; exact (putSel_off rfl).trans rfl
                replace ha := Aside0.mk ha
                have HO_7 := Aside0.mk Q_HO_7
                have q3 := Aside0.mk q8
                have q2 := Aside0.mk q9
                have q4 := Aside0.mk qa
                have q5 := Aside0.mk qd
                have q6 := Aside0.mk qc
                have q7 := Aside0.mk qb
                have HB := Aside0.mk Q_HB
                refine value_ (w1 := w') (v := .pointer (some (qj.add ((x17_3).toNat * 4)))) (by rfl) rfl ?_ ?_
                ·go_simp
                 (try simp only [i64_w])
                 try rfl
                refine hK.out _ _ ⟨qm, qe, (by rw [ha.out]; exact putSel_upk 0 hb_ rfl rfl rfl), Q_HO_7, q8, q9, qa, qd, qc, qb, Q_HB, qk, j4, j1, j7, jv, ja, jw, jd, jx, ji, jy, jn, jz, js, jA, fun h0_ => absurd ((hoff 11 (by kernel_rfl)).symm.trans h0_) (by decide), Q_X10_⟩
               refine steps_cons ?_ ?_
               ·as_aux_lemma =>
                rintro b a w' ⟨qm, qe, ha, Q_HO_7, q8, q9, qa, qd, qc, qb, Q_HB, qk, j4, j1, j7, jv, ja, jw, jd, jx, ji, jy, jn, jz, js, jA, gd, Q_X10_⟩ hb_ hon hoff
                refine ⟨_, rfl, fun K hK => ?_⟩
                have q4A : a.tmps[111]? = some (.pointer (some (qj.add ((x17_3).toNat * 4)))) := by rw [ha]; exact putSel_on (e := (2, 111, .pointer (some (qj.add ((x17_3).toNat * 4))))) 0 rfl rfl (hon 2 (by kernel_rfl)) rfl
                replace ha := Aside0.mk ha
                have HO_7 := Aside0.mk Q_HO_7
                have q3 := Aside0.mk q8
                have q2 := Aside0.mk q9
                have q4 := Aside0.mk qa
                have q5 := Aside0.mk qd
                have q6 := Aside0.mk qc
                have q7 := Aside0.mk qb
                have HB := Aside0.mk Q_HB
                obtain ⟨ad1051_z, e1051_z, hx1051_0_z, hx1051_1_z, hx1051_2_z, hx1051_3_z⟩ := at_T25 (Kd.R_reads' HO_7.out).2.2 x17_3 (of_eq_true Ge) (of_eq_true Gh)
                cases e1051_z
                have q1Z : w'.cell? (qj.add ((x17_3).toNat * 4)) = some (.int .i64 ((rd_T25 q0 x17_3).f0)) := (by first | exact hx1051_0_z | (have h_ := hx1051_0_z; (try simp only [Int.reduceToNat, Nat.zero_mul, Nat.reduceMul, Nat.reduceEqDiff, Go.Addr.add, ↓reduceIte, Addr.add_zero'] at h_); exact h_))
                have q20 : w'.cell? ⟨(qj.add ((x17_3).toNat * 4)).block, (qj.add ((x17_3).toNat * 4)).off + 1, none⟩ = some (.int .i64 ((rd_T25 q0 x17_3).f1)) := (by first | exact hx1051_1_z | (have h_ := hx1051_1_z; (try simp only [Int.reduceToNat, Nat.zero_mul, Nat.reduceMul, Nat.reduceEqDiff, Go.Addr.add, ↓reduceIte, Addr.add_zero'] at h_); exact h_))
                have q21 : w'.cell? ⟨(qj.add ((x17_3).toNat * 4)).block, (qj.add ((x17_3).toNat * 4)).off + 2, none⟩ = some (.int .i64 ((rd_T25 q0 x17_3).f2)) := (by first | exact hx1051_2_z | (have h_ := hx1051_2_z; (try simp only [Int.reduceToNat, Nat.zero_mul, Nat.reduceMul, Nat.reduceEqDiff, Go.Addr.add, ↓reduceIte, Addr.add_zero'] at h_); exact h_))
                have q22 : w'.cell? ⟨(qj.add ((x17_3).toNat * 4)).block, (qj.add ((x17_3).toNat * 4)).off + 3, none⟩ = some (.int .i64 ((rd_T25 q0 x17_3).f3)) := (by first | exact hx1051_3_z | (have h_ := hx1051_3_z; (try simp only [Int.reduceToNat, Nat.zero_mul, Nat.reduceMul, Nat.reduceEqDiff, Go.Addr.add, ↓reduceIte, Addr.add_zero'] at h_); exact h_))
                refine value_ (w1 := w') (v := .agg #[.int .i64 ((rd_T25 q0 x17_3).f0), .int .i64 ((rd_T25 q0 x17_3).f1), .int .i64 ((rd_T25 q0 x17_3).f2), .int .i64 ((rd_T25 q0 x17_3).f3)]) (by rfl) rfl ?_ ?_
                ·go_simp
                 (try simp only [i64_w])
                 try rfl
                refine hK.out _ _ ⟨qm, qe, (by rw [ha.out]; exact putSel_upk 1 hb_ rfl rfl rfl), Q_HO_7, q8, q9, qa, qd, qc, qb, Q_HB, qk, j4, j1, j7, jv, ja, jw, jd, jx, ji, jy, jn, jz, js, jA, fun h0_ => absurd ((hoff 11 (by kernel_rfl)).symm.trans h0_) (by decide), Q_X10_⟩
               refine steps_cons ?_ ?_
               ·as_aux_lemma =>
                rintro b a w' ⟨qm, qe, ha, Q_HO_7, q8, q9, qa, qd, qc, qb, Q_HB, qk, j4, j1, j7, jv, ja, jw, jd, jx, ji, jy, jn, jz, js, jA, gd, Q_X10_⟩ hb_ hon hoff
                refine ⟨_, rfl, fun K hK => ?_⟩
                have q4B : a.tmps[112]? = some (.agg #[.int .i64 ((rd_T25 q0 x17_3).f0), .int .i64 ((rd_T25 q0 x17_3).f1), .int .i64 ((rd_T25 q0 x17_3).f2), .int .i64 ((rd_T25 q0 x17_3).f3)]) := by rw [ha]; exact putSel_on (e := (3, 112, .agg #[.int .i64 ((rd_T25 q0 x17_3).f0), .int .i64 ((rd_T25 q0 x17_3).f1), .int .i64 ((rd_T25 q0 x17_3).f2), .int .i64 ((rd_T25 q0 x17_3).f3)])) 1 rfl rfl (hon 3 (by kernel_rfl)) rfl
                replace ha := Aside0.mk ha
                have HO_7 := Aside0.mk Q_HO_7
                have q3 := Aside0.mk q8
                have q2 := Aside0.mk q9
                have q4 := Aside0.mk qa
                have q5 := Aside0.mk qd
                have q6 := Aside0.mk qc
                have q7 := Aside0.mk qb
                have HB := Aside0.mk Q_HB
                refine value_ (w1 := w') (v := .agg #[.int .i64 ((rd_T25 q0 x17_3).f0), .int .i64 ((rd_T25 q0 x17_3).f1), .int .i64 ((rd_T25 q0 x17_3).f2), .int .i64 ((rd_T25 q0 x17_3).f3), .int .i64 0, .int .i64 0]) (by rfl) rfl ?_ ?_
                ·go_simp
                 (try simp only [i64_w])
                 try rfl
                refine hK.out _ _ ⟨qm, qe, (by rw [ha.out]; exact putSel_upk 2 hb_ rfl rfl rfl), Q_HO_7, q8, q9, qa, qd, qc, qb, Q_HB, qk, j4, j1, j7, jv, ja, jw, jd, jx, ji, jy, jn, jz, js, jA, fun h0_ => absurd ((hoff 11 (by kernel_rfl)).symm.trans h0_) (by decide), Q_X10_⟩
               refine steps_cons ?_ ?_
               ·as_aux_lemma =>
                rintro b a w' ⟨qm, qe, ha, Q_HO_7, q8, q9, qa, qd, qc, qb, Q_HB, qk, j4, j1, j7, jv, ja, jw, jd, jx, ji, jy, jn, jz, js, jA, gd, Q_X10_⟩ hb_ hon hoff
                refine ⟨_, rfl, fun K hK => ?_⟩
                have e10 : a.tmps[10]? = some (.pointer (some ⟨qf, 0, none⟩)) := by rw [ha]; exact (putSel_off rfl).trans rfl
                replace ha := Aside0.mk ha
                have HO_7 := Aside0.mk Q_HO_7
                have q3 := Aside0.mk q8
                have q2 := Aside0.mk q9
                have q4 := Aside0.mk qa
                have q5 := Aside0.mk qd
                have q6 := Aside0.mk qc
                have q7 := Aside0.mk qb
                have HB := Aside0.mk Q_HB
                have hc0_ : w'.cell? ⟨qf, 0, none⟩ = some (.int .i64 qt) := (blk_cell q5.out 0).trans rfl
                have hc1_ : w'.cell? ⟨qf, 1, none⟩ = some (.int .i64 qv) := (blk_cell q5.out 1).trans rfl
                refine value_ (w1 := w') (v := .agg #[.int .i64 qt, .int .i64 qv]) (by rfl) rfl ?_ ?_
                ·go_simp
                 (try simp only [i64_w])
                 try rfl
                refine hK.out _ _ ⟨qm, qe, (by rw [ha.out]; exact putSel_upk 3 hb_ rfl rfl rfl), Q_HO_7, q8, q9, qa, qd, qc, qb, Q_HB, qk, j4, j1, j7, jv, ja, jw, jd, jx, ji, jy, jn, jz, js, jA, fun h0_ => absurd ((hoff 11 (by kernel_rfl)).symm.trans h0_) (by decide), Q_X10_⟩
               refine steps_cons ?_ ?_
               ·as_aux_lemma =>
                rintro b a w' ⟨qm, qe, ha, Q_HO_7, q8, q9, qa, qd, qc, qb, Q_HB, qk, j4, j1, j7, jv, ja, jw, jd, jx, ji, jy, jn, jz, js, jA, gd, Q_X10_⟩ hb_ hon hoff
                refine ⟨_, rfl, fun K hK => ?_⟩
                have q0E : a.tmps[113]? = some (.agg #[.int .i64 ((rd_T25 q0 x17_3).f0), .int .i64 ((rd_T25 q0 x17_3).f1), .int .i64 ((rd_T25 q0 x17_3).f2), .int .i64 ((rd_T25 q0 x17_3).f3), .int .i64 0, .int .i64 0]) := by rw [ha]; exact putSel_on (e := (4, 113, .agg #[.int .i64 ((rd_T25 q0 x17_3).f0), .int .i64 ((rd_T25 q0 x17_3).f1), .int .i64 ((rd_T25 q0 x17_3).f2), .int .i64 ((rd_T25 q0 x17_3).f3), .int .i64 0, .int .i64 0])) 2 rfl rfl (hon 4 (by kernel_rfl)) rfl
                have q0F : a.tmps[114]? = some (.agg #[.int .i64 qt, .int .i64 qv]) := by rw [ha]; exact putSel_on (e := (5, 114, .agg #[.int .i64 qt, .int .i64 qv])) 3 rfl rfl (hon 5 (by kernel_rfl)) rfl
                replace ha := Aside0.mk ha
                have HO_7 := Aside0.mk Q_HO_7
                have q3 := Aside0.mk q8
                have q2 := Aside0.mk q9
                have q4 := Aside0.mk qa
                have q5 := Aside0.mk qd
                have q6 := Aside0.mk qc
                have q7 := Aside0.mk qb
                have HB := Aside0.mk Q_HB
                refine goes_ Try.func27 (by kernel_rfl) rfl #[.agg #[.int .i64 ((rd_T25 q0 x17_3).f0), .int .i64 ((rd_T25 q0 x17_3).f1), .int .i64 ((rd_T25 q0 x17_3).f2), .int .i64 ((rd_T25 q0 x17_3).f3), .int .i64 0, .int .i64 0], .agg #[.int .i64 qt, .int .i64 qv]] (by rfl) rfl rfl (by first | (simp only [List.map_toArray, List.map_cons, List.map_nil, Act.eval, Array.getD_eq_getD_getElem?, Option.getD_some, q0E, q0F]; done) | (simp only [List.map_toArray, List.map_cons, List.map_nil, Act.eval, Array.getD_eq_getD_getElem?, Option.getD_some, q0E, q0F]; rfl)) ?_
                with_reducible refine (grids_Apply.calls k3 ((rd_T25 q0 x17_3).f0) ((rd_T25 q0 x17_3).f1) ((rd_T25 q0 x17_3).f2) ((rd_T25 q0 x17_3).f3) 0 0 qt qv jT jW g3 _ A68.out).mono ?_
                rintro e w80 ⟨rfl, hb⟩
                refine ⟨_, rfl, ?_⟩
                have n0_ := Aside0.mk (Kd.R_below (by (with_reducible repeat (first | apply Kd.R_alloc | apply Kd.R_drewN | apply Kd.R_drew)); exact HO_7.out) hb)
                have n1_ := bb q3 hb
                have n2_ := bb q2 hb
                have n3_ := bb q4 hb
                have n4_ := bb q5 hb
                have n5_ := bb q6 hb
                have n6_ := bb q7 hb
                have n7_ := bst HB hb
                have q4c := fun (h0_ : b 10 = true) (h1_ : b 11 = false) => (show w80.heap[qm]? = some (.cells #[.int .i64 0, .int .i64 0] 37 (0, 0)) from by first | exact (blk_below (g := qm) (o := .cells #[.int .i64 0, .int .i64 0] 37 (0, 0)) (by (with_reducible repeat (first | refine blk_drewN ?_ _ | refine blk_drew ?_ | refine blk_alloc ?_ _)); exact (qk h0_ h1_)) hb))
                clear HO_7
                clear q3
                clear q2
                clear q4
                clear q5
                clear q6
                clear q7
                clear HB
                have HO_7 := n0_
                have q3 := n1_
                have q2 := n2_
                have q4 := n3_
                have q5 := n4_
                have q6 := n5_
                have q7 := n6_
                have HB := n7_
                clear n0_ n1_ n2_ n3_ n4_ n5_ n6_ n7_
                (try clear hb)
                (try clear hb2)
                (try clear hk)
                (try clear hi)
                refine hK.out _ _ ⟨qm, qe, (by rw [ha.out]; exact putSel_upk 4 hb_ rfl rfl rfl), (by (with_reducible repeat (first | apply Kd.R_alloc | apply Kd.R_drewN | apply Kd.R_drew)); exact HO_7.out), (pk q3), (pk q2), (pk q4), (pk q5), (pk q6), (pk q7), (bnow HB), q4c, j4, j1, j7, jv, ja, jw, jd, jx, ji, jy, jn, jz, js, jA, fun h0_ => absurd ((hoff 11 (by kernel_rfl)).symm.trans h0_) (by decide), Q_X10_⟩
               refine steps_cons ?_ ?_
               ·as_aux_lemma =>
                rintro b a w' ⟨qm, qe, ha, Q_HO_7, q8, q9, qa, qd, qc, qb, Q_HB, qk, j4, j1, j7, jv, ja, jw, jd, jx, ji, jy, jn, jz, js, jA, gd, Q_X10_⟩ hb_ hon hoff
                refine ⟨_, rfl, fun K hK => ?_⟩
                have q4C : a.tmps[115]? = some (.tuple #[.agg #[.int .i64 jT, .int .i64 jW], .int .i64 g3]) := by rw [ha]; exact putSel_on (e := (6, 115, .tuple #[.agg #[.int .i64 jT, .int .i64 jW], .int .i64 g3])) 4 rfl rfl (hon 6 (by kernel_rfl)) rfl
                replace ha := Aside0.mk ha
                have HO_7 := Aside0.mk Q_HO_7
                have q3 := Aside0.mk q8
                have q2 := Aside0.mk q9
                have q4 := Aside0.mk qa
                have q5 := Aside0.mk qd
                have q6 := Aside0.mk qc
                have q7 := Aside0.mk qb
                have HB := Aside0.mk Q_HB
                refine value_ (w1 := w') (v := .tuple #[.agg #[.int .i64 jT, .int .i64 jW], .int .i64 g3]) (by rfl) rfl ?_ ?_
                ·go_simp
                 (try simp only [i64_w])
                 try rfl
                refine hK.out _ _ ⟨qm, qe, (by rw [ha.out]; exact putSel_upk 5 hb_ rfl rfl rfl), Q_HO_7, q8, q9, qa, qd, qc, qb, Q_HB, qk, j4, j1, j7, jv, ja, jw, jd, jx, ji, jy, jn, jz, js, jA, fun h0_ => absurd ((hoff 11 (by kernel_rfl)).symm.trans h0_) (by decide), Q_X10_⟩
               refine steps_cons ?_ ?_
               ·as_aux_lemma =>
                rintro b a w' ⟨qm, qe, ha, Q_HO_7, q8, q9, qa, qd, qc, qb, Q_HB, qk, j4, j1, j7, jv, ja, jw, jd, jx, ji, jy, jn, jz, js, jA, gd, Q_X10_⟩ hb_ hon hoff
                refine ⟨_, rfl, fun K hK => ?_⟩
                have q3I : a.tmps[108]? = some (.tuple #[.agg #[.int .i64 jT, .int .i64 jW], .int .i64 g3]) := by rw [ha]; exact putSel_on (e := (7, 108, .tuple #[.agg #[.int .i64 jT, .int .i64 jW], .int .i64 g3])) 5 rfl rfl (hon 7 (by kernel_rfl)) rfl
                replace ha := Aside0.mk ha
                have HO_7 := Aside0.mk Q_HO_7
                have q3 := Aside0.mk q8
                have q2 := Aside0.mk q9
                have q4 := Aside0.mk qa
                have q5 := Aside0.mk qd
                have q6 := Aside0.mk qc
                have q7 := Aside0.mk qb
                have HB := Aside0.mk Q_HB
                refine value_ (w1 := w') (v := .agg #[.int .i64 jT, .int .i64 jW]) (by rfl) rfl ?_ ?_
                ·go_simp
                 (try simp only [i64_w])
                 try rfl
                refine hK.out _ _ ⟨qm, qe, (by rw [ha.out]; exact putSel_upk 6 hb_ rfl rfl rfl), Q_HO_7, q8, q9, qa, qd, qc, qb, Q_HB, qk, j4, j1, j7, jv, ja, jw, jd, jx, ji, jy, jn, jz, js, jA, fun h0_ => absurd ((hoff 11 (by kernel_rfl)).symm.trans h0_) (by decide), Q_X10_⟩
               refine steps_cons ?_ ?_
               ·as_aux_lemma =>
                rintro b a w' ⟨qm, qe, ha, Q_HO_7, q8, q9, qa, qd, qc, qb, Q_HB, qk, j4, j1, j7, jv, ja, jw, jd, jx, ji, jy, jn, jz, js, jA, gd, Q_X10_⟩ hb_ hon hoff
                refine ⟨_, rfl, fun K hK => ?_⟩
                have q3I : a.tmps[108]? = some (.tuple #[.agg #[.int .i64 jT, .int .i64 jW], .int .i64 g3]) := by rw [ha]; exact putSel_on (e := (7, 108, .tuple #[.agg #[.int .i64 jT, .int .i64 jW], .int .i64 g3])) 5 rfl rfl (hon 7 (by kernel_rfl)) rfl
                replace ha := Aside0.mk ha
                have HO_7 := Aside0.mk Q_HO_7
                have q3 := Aside0.mk q8
                have q2 := Aside0.mk q9
                have q4 := Aside0.mk qa
                have q5 := Aside0.mk qd
                have q6 := Aside0.mk qc
                have q7 := Aside0.mk qb
                have HB := Aside0.mk Q_HB
                refine value_ (w1 := w') (v := .int .i64 g3) (by rfl) rfl ?_ ?_
                ·go_simp
                 (try simp only [i64_w])
                 try rfl
                refine hK.out _ _ ⟨qm, qe, (by rw [ha.out]; exact putSel_upk 7 hb_ rfl rfl rfl), Q_HO_7, q8, q9, qa, qd, qc, qb, Q_HB, qk, j4, j1, j7, jv, ja, jw, jd, jx, ji, jy, jn, jz, js, jA, gd, Q_X10_⟩
               refine steps_cons ?_ ?_
               ·as_aux_lemma =>
                rintro b a w' ⟨qm, qe, ha, Q_HO_7, q8, q9, qa, qd, qc, qb, Q_HB, qk, j4, j1, j7, jv, ja, jw, jd, jx, ji, jy, jn, jz, js, jA, gd, Q_X10_⟩ hb_ hon hoff
                refine ⟨_, rfl, fun K hK => ?_⟩
                replace ha := Aside0.mk ha
                have HO_7 := Aside0.mk Q_HO_7
                have q3 := Aside0.mk q8
                have q2 := Aside0.mk q9
                have q4 := Aside0.mk qa
                have q5 := Aside0.mk qd
                have q6 := Aside0.mk qc
                have q7 := Aside0.mk qb
                have HB := Aside0.mk Q_HB
                refine box_step ?hg (N := 18) ?hd (cs := #[.int .i64 0, .int .i64 0]) (t := 37) ?hr ?_; (case hd => rfl); (case hg => rfl); (case hr => first | (go_simp; done) | (go_simp; rfl))
                intro qm hg w80 hbox hb
                have n0_ := Aside0.mk (Kd.R_below (by (with_reducible repeat (first | apply Kd.R_alloc | apply Kd.R_drewN | apply Kd.R_drew)); exact HO_7.out) hb)
                have n1_ := bb q3 hb
                have n2_ := bb q2 hb
                have n3_ := bb q4 hb
                have n4_ := bb q5 hb
                have n5_ := bb q6 hb
                have n6_ := bb q7 hb
                have n7_ := bst HB hb
                have n8_ := Aside0.mk (hbox)
                have n9_ := gw hg HB
                have qB := gw hg HB
                have qC := nlt hg q3
                have g8 := ngt hg q3
                have g9 := nlt hg q2
                have QH := ngt hg q2
                have QI := nlt hg q4
                have QJ := ngt hg q4
                have QK := nlt hg q5
                have QL := ngt hg q5
                have QM := nlt hg q6
                have QN := ngt hg q6
                have QO := nlt hg q7
                have QP := ngt hg q7
                clear HO_7
                clear q3
                clear q2
                clear q4
                clear q5
                clear q6
                clear q7
                clear HB
                have HO_7 := n0_
                have q3 := n1_
                have q2 := n2_
                have q4 := n3_
                have q5 := n4_
                have q6 := n5_
                have q7 := n6_
                have HB := n7_
                have qi := n8_
                have Jp := n9_
                have Jm := qB
                have gQ := qC
                have Qm := g8
                have gT := g9
                have Qn := QH
                have gW := QI
                have Qo := QJ
                have gZ := QK
                have Qp := QL
                have Q2 := QM
                have Qq := QN
                have Q5 := QO
                have Qr := QP
                clear n0_ n1_ n2_ n3_ n4_ n5_ n6_ n7_ n8_ n9_ qB qC g8 g9 QH QI QJ QK QL QM QN QO QP
                clear hb hg
                refine hK.out _ _ ⟨qm, (.pointer (some ⟨qm, 0, none⟩)), (by rw [ha.out]; exact putSel_upk 8 hb_ rfl rfl rfl), (by (with_reducible repeat (first | apply Kd.R_alloc | apply Kd.R_drewN | apply Kd.R_drew)); exact HO_7.out), (pk q3), (pk q2), (pk q4), (pk q5), (pk q6), (pk q7), (bnow HB), fun _ _ => (pk qi), fun _ => Jp.out, fun _ => Jm.out, fun _ => gQ.out, fun _ => Qm.out, fun _ => gT.out, fun _ => Qn.out, fun _ => gW.out, fun _ => Qo.out, fun _ => gZ.out, fun _ => Qp.out, fun _ => Q2.out, fun _ => Qq.out, fun _ => Q5.out, fun _ => Qr.out, fun h0_ => absurd ((hoff 11 (by kernel_rfl)).symm.trans h0_) (by decide), fun _ => rfl⟩
               refine steps_cons ?_ ?_
               ·as_aux_lemma =>
                rintro b a w' ⟨qm, qe, ha, Q_HO_7, q8, q9, qa, qd, qc, qb, Q_HB, qk, j4, j1, j7, jv, ja, jw, jd, jx, ji, jy, jn, jz, js, jA, gd, Q_X10_⟩ hb_ hon hoff
                refine ⟨_, rfl, fun K hK => ?_⟩
                have e18 : a.tmps[18]? = some (qe) := by rw [ha]; exact putSel_on (e := (10, 18, qe)) 8 rfl rfl (hon 10 (by kernel_rfl)) rfl
                rw [Q_X10_ (hon 10 (by kernel_rfl))] at e18
                have q4D : a.tmps[116]? = some (.agg #[.int .i64 jT, .int .i64 jW]) := by rw [ha]; exact putSel_on (e := (8, 116, .agg #[.int .i64 jT, .int .i64 jW])) 6 rfl rfl (hon 8 (by kernel_rfl)) rfl
                replace ha := Aside0.mk ha
                have HO_7 := Aside0.mk Q_HO_7
                have q3 := Aside0.mk q8
                have q2 := Aside0.mk q9
                have q4 := Aside0.mk qa
                have q5 := Aside0.mk qd
                have q6 := Aside0.mk qc
                have q7 := Aside0.mk qb
                have HB := Aside0.mk Q_HB
                have qi := Aside0.mk (qk (hon 10 (by kernel_rfl)) hb_)
                have Jp := Aside0.mk (j4 (hon 10 (by kernel_rfl)))
                have Jm := Aside0.mk (j1 (hon 10 (by kernel_rfl)))
                have gQ := Aside0.mk (j7 (hon 10 (by kernel_rfl)))
                have Qm := Aside0.mk (jv (hon 10 (by kernel_rfl)))
                have gT := Aside0.mk (ja (hon 10 (by kernel_rfl)))
                have Qn := Aside0.mk (jw (hon 10 (by kernel_rfl)))
                have gW := Aside0.mk (jd (hon 10 (by kernel_rfl)))
                have Qo := Aside0.mk (jx (hon 10 (by kernel_rfl)))
                have gZ := Aside0.mk (ji (hon 10 (by kernel_rfl)))
                have Qp := Aside0.mk (jy (hon 10 (by kernel_rfl)))
                have Q2 := Aside0.mk (jn (hon 10 (by kernel_rfl)))
                have Qq := Aside0.mk (jz (hon 10 (by kernel_rfl)))
                have Q5 := Aside0.mk (js (hon 10 (by kernel_rfl)))
                have Qr := Aside0.mk (jA (hon 10 (by kernel_rfl)))
                have qb7 : w'.cell? ⟨qm, 0, none⟩ = some (.int .i64 0) := (blk_cell qi.out 0).trans rfl
                have q5v := blk_frozen qi.out 0
                have qal := gQ.out
                have qam := gT.out
                have qan := gW.out
                have qao := gZ.out
                have qap := Q2.out
                have qaq := Q5.out
                have q6B := Qm.out
                have q6C := Qn.out
                have q6D := Qo.out
                have q6E := Qp.out
                have q6F := Qq.out
                have q6G := Qr.out
                have qb8 : w'.cell? ⟨qm, 1, none⟩ = some (.int .i64 0) := (blk_cell qi.out 1).trans rfl
                have q5w := blk_frozen qi.out 1
                have qar := gQ.out
                have qas := gT.out
                have qat := gW.out
                have qau := gZ.out
                have qav := Q2.out
                have qaw := Q5.out
                have q6H := Qm.out
                have q6I := Qn.out
                have q6J := Qo.out
                have q6K := Qp.out
                have q6L := Qq.out
                have q6M := Qr.out
                refine skip_ (w1 := ?_) (by rfl) rfl ?_ ?_
                rotate_left
                ·go_simp
                 rfl
                refine hK.out _ _ ⟨qm, qe, (by rw [ha.out]; exact putSel_none (v := undef) rfl), (by (with_reducible repeat (first | apply Kd.R_alloc | apply Kd.R_drewN | apply Kd.R_drew)); exact Kd.R_mono (Kd.R_far (p := ⟨qm, 1, none⟩) (Kd.R_far (p := ⟨qm, 0, none⟩) (Kd.R_types HO_7.out qi.out (by decide)) (fun _ hk => hk.2) (.int .i64 jT)) (fun _ hk => hk.2) (.int .i64 jW)) (fun _ hk => hk.1)), (by (with_reducible repeat (first | refine blk_drewN ?_ _ | refine blk_drew ?_ | refine blk_alloc ?_ _)); refine blk_far ?_ gQ.out _; (with_reducible repeat (first | refine blk_drewN ?_ _ | refine blk_drew ?_ | refine blk_alloc ?_ _)); refine blk_far ?_ gQ.out _; (with_reducible repeat (first | refine blk_drewN ?_ _ | refine blk_drew ?_ | refine blk_alloc ?_ _)); exact q3.out), (by (with_reducible repeat (first | refine blk_drewN ?_ _ | refine blk_drew ?_ | refine blk_alloc ?_ _)); refine blk_far ?_ gT.out _; (with_reducible repeat (first | refine blk_drewN ?_ _ | refine blk_drew ?_ | refine blk_alloc ?_ _)); refine blk_far ?_ gT.out _; (with_reducible repeat (first | refine blk_drewN ?_ _ | refine blk_drew ?_ | refine blk_alloc ?_ _)); exact q2.out), (by (with_reducible repeat (first | refine blk_drewN ?_ _ | refine blk_drew ?_ | refine blk_alloc ?_ _)); refine blk_far ?_ gW.out _; (with_reducible repeat (first | refine blk_drewN ?_ _ | refine blk_drew ?_ | refine blk_alloc ?_ _)); refine blk_far ?_ gW.out _; (with_reducible repeat (first | refine blk_drewN ?_ _ | refine blk_drew ?_ | refine blk_alloc ?_ _)); exact q4.out), (by (with_reducible repeat (first | refine blk_drewN ?_ _ | refine blk_drew ?_ | refine blk_alloc ?_ _)); refine blk_far ?_ gZ.out _; (with_reducible repeat (first | refine blk_drewN ?_ _ | refine blk_drew ?_ | refine blk_alloc ?_ _)); refine blk_far ?_ gZ.out _; (with_reducible repeat (first | refine blk_drewN ?_ _ | refine blk_drew ?_ | refine blk_alloc ?_ _)); exact q5.out), (by (with_reducible repeat (first | refine blk_drewN ?_ _ | refine blk_drew ?_ | refine blk_alloc ?_ _)); refine blk_far ?_ Q2.out _; (with_reducible repeat (first | refine blk_drewN ?_ _ | refine blk_drew ?_ | refine blk_alloc ?_ _)); refine blk_far ?_ Q2.out _; (with_reducible repeat (first | refine blk_drewN ?_ _ | refine blk_drew ?_ | refine blk_alloc ?_ _)); exact q6.out), (by (with_reducible repeat (first | refine blk_drewN ?_ _ | refine blk_drew ?_ | refine blk_alloc ?_ _)); refine blk_far ?_ Q5.out _; (with_reducible repeat (first | refine blk_drewN ?_ _ | refine blk_drew ?_ | refine blk_alloc ?_ _)); refine blk_far ?_ Q5.out _; (with_reducible repeat (first | refine blk_drewN ?_ _ | refine blk_drew ?_ | refine blk_alloc ?_ _)); exact q7.out), (bnow HB), fun _ h1_ => absurd ((up_self b 11).symm.trans h1_) (by decide), fun _ => Jp.out, fun _ => Jm.out, fun _ => gQ.out, fun _ => Qm.out, fun _ => gT.out, fun _ => Qn.out, fun _ => gW.out, fun _ => Qo.out, fun _ => gZ.out, fun _ => Qp.out, fun _ => Q2.out, fun _ => Qq.out, fun _ => Q5.out, fun _ => Qr.out, fun _ => (by (with_reducible repeat (first | refine blk_drewN ?_ _ | refine blk_drew ?_ | refine blk_alloc ?_ _)); refine blk_put (cs := #[.int .i64 jT, .int .i64 0]) ?_ 1 _ rfl; (with_reducible repeat (first | refine blk_drewN ?_ _ | refine blk_drew ?_ | refine blk_alloc ?_ _)); refine blk_put (cs := #[.int .i64 0, .int .i64 0]) ?_ 0 _ rfl; (with_reducible repeat (first | refine blk_drewN ?_ _ | refine blk_drew ?_ | refine blk_alloc ?_ _)); exact qi.out), Q_X10_⟩
               refine steps_cons ?_ ?_
               ·as_aux_lemma =>
                rintro b a w' ⟨qm, qe, ha, Q_HO_7, q8, q9, qa, qd, qc, qb, Q_HB, qk, j4, j1, j7, jv, ja, jw, jd, jx, ji, jy, jn, jz, js, jA, gd, Q_X10_⟩ hb_ hon hoff
                refine ⟨_, rfl, fun K hK => ?_⟩
                have q4E : a.tmps[117]? = some (.int .i64 g3) := by rw [ha]; exact putSel_on (e := (9, 117, .int .i64 g3)) 7 rfl rfl (hon 9 (by kernel_rfl)) rfl
                replace ha := Aside0.mk ha
                have HO_7 := Aside0.mk Q_HO_7
                have q3 := Aside0.mk q8
                have q2 := Aside0.mk q9
                have q4 := Aside0.mk qa
                have q5 := Aside0.mk qd
                have q6 := Aside0.mk qc
                have q7 := Aside0.mk qb
                have HB := Aside0.mk Q_HB
                have Jp := Aside0.mk (j4 (hon 10 (by kernel_rfl)))
                have Jm := Aside0.mk (j1 (hon 10 (by kernel_rfl)))
                have gQ := Aside0.mk (j7 (hon 10 (by kernel_rfl)))
                have Qm := Aside0.mk (jv (hon 10 (by kernel_rfl)))
                have gT := Aside0.mk (ja (hon 10 (by kernel_rfl)))
                have Qn := Aside0.mk (jw (hon 10 (by kernel_rfl)))
                have gW := Aside0.mk (jd (hon 10 (by kernel_rfl)))
                have Qo := Aside0.mk (jx (hon 10 (by kernel_rfl)))
                have gZ := Aside0.mk (ji (hon 10 (by kernel_rfl)))
                have Qp := Aside0.mk (jy (hon 10 (by kernel_rfl)))
                have Q2 := Aside0.mk (jn (hon 10 (by kernel_rfl)))
                have Qq := Aside0.mk (jz (hon 10 (by kernel_rfl)))
                have Q5 := Aside0.mk (js (hon 10 (by kernel_rfl)))
                have Qr := Aside0.mk (jA (hon 10 (by kernel_rfl)))
                have qi := Aside0.mk (gd (hon 11 (by kernel_rfl)))
                refine value_ (w1 := w') (v := .int .i64 g3) (by rfl) rfl ?_ ?_
                ·go_simp
                 (try simp only [i64_w])
                 try rfl
                refine hK.out _ _ ⟨qm, qe, (by rw [ha.out]; exact putSel_upk 9 hb_ rfl rfl rfl), Q_HO_7, q8, q9, qa, qd, qc, qb, Q_HB, fun _ h1_ => absurd ((hon 11 (by kernel_rfl)).symm.trans h1_) (by decide), j4, j1, j7, jv, ja, jw, jd, jx, ji, jy, jn, jz, js, jA, gd, Q_X10_⟩
               exact steps_nil
              rintro b a w84 hall ⟨qm, qe, ha, Q_HO_7, q8, q9, qa, qd, qc, qb, Q_HB, qk, j4, j1, j7, jv, ja, jw, jd, jx, ji, jy, jn, jz, js, jA, gd, Q_X10_⟩
              clear q3 q2 q4 q5 q6 q7 HB HO_7
              have hb2_ := hall 2 (by kernel_rfl)
              have hb3_ := hall 3 (by kernel_rfl)
              have hb4_ := hall 4 (by kernel_rfl)
              have hb5_ := hall 5 (by kernel_rfl)
              have hb6_ := hall 6 (by kernel_rfl)
              have hb7_ := hall 7 (by kernel_rfl)
              have hb8_ := hall 8 (by kernel_rfl)
              have hb9_ := hall 9 (by kernel_rfl)
              have hb10_ := hall 10 (by kernel_rfl)
              have hb11_ := hall 11 (by kernel_rfl)
              have hb12_ := hall 12 (by kernel_rfl)
              subst ha
              obtain rfl := Q_X10_ hb10_
              simp only [putSel, hb2_, hb3_, hb4_, hb5_, hb6_, hb7_, hb8_, hb9_, hb10_, hb11_, hb12_, if_true, Act.put, List.setIfInBounds_toArray, List.set_cons_zero, List.set_cons_succ]
              have HO_7 := Aside0.mk Q_HO_7
              clear Q_HO_7
              have q3 := Aside0.mk q8
              clear q8
              have q2 := Aside0.mk q9
              clear q9
              have q4 := Aside0.mk qa
              clear qa
              have q5 := Aside0.mk qd
              clear qd
              have q6 := Aside0.mk qc
              clear qc
              have q7 := Aside0.mk qb
              clear qb
              have HB := Aside0.mk Q_HB
              clear Q_HB
              clear qk
              have Jp := Aside0.mk (j4 hb10_)
              clear j4
              have Jm := Aside0.mk (j1 hb10_)
              clear j1
              have gQ := Aside0.mk (j7 hb10_)
              clear j7
              have Qm := Aside0.mk (jv hb10_)
              clear jv
              have gT := Aside0.mk (ja hb10_)
              clear ja
              have Qn := Aside0.mk (jw hb10_)
              clear jw
              have gW := Aside0.mk (jd hb10_)
              clear jd
              have Qo := Aside0.mk (jx hb10_)
              clear jx
              have gZ := Aside0.mk (ji hb10_)
              clear ji
              have Qp := Aside0.mk (jy hb10_)
              clear jy
              have Q2 := Aside0.mk (jn hb10_)
              clear jn
              have Qq := Aside0.mk (jz hb10_)
              clear jz
              have Q5 := Aside0.mk (js hb10_)
              clear js
              have Qr := Aside0.mk (jA hb10_)
              clear jA
              have qi := Aside0.mk (gd hb11_)
              clear gd
              clear hall hb2_ hb3_ hb4_ hb5_ hb6_ hb7_ hb8_ hb9_ hb10_ hb11_ hb12_
              try go_wp2
              replace HO_7 := Aside0.mk (Kd.R_drew HO_7.out)
              replace q3 := bd q3
              replace q2 := bd q2
              replace q4 := bd q4
              replace q5 := bd q5
              replace q6 := bd q6
              replace q7 := bd q7
              replace qi := bd qi
              replace HB := bdn HB
              have Gf : 0 ≤ (x17_3 : Int) := of_decide_eq_true (by first | (with_reducible assumption) | assumption)
              have Gi : x17_3 < (q0.length : Int) := of_decide_eq_true (by first | (with_reducible assumption) | assumption)
              obtain ⟨q2G, q3B, q40, q41, q42, q43⟩ := at_T25 (Kd.R_reads' HO_7.out).2.2 x17_3 Gf Gi
              obtain rfl : qj = q2G := (by injection q3B)
              replace Gf := eq_true Gf
              replace Gi := eq_true Gi
              refine start_ (n := 13) (S := fun w' => True) (ds := []) #[false, false, false, false, false, false, false, false, false, false, false, false, false] (by kernel_rfl) rfl rfl trivial (fun hHeld => ?_); refine with_tabW torchonlaw06_GridsKeep.tab18 torchonlaw06_GridsKeep.bits18 (fun HT_ HW_ => ?_)
              generalize w84.drew = w85 at HO_7 q3 q2 q4 q5 q6 q7 qi HB q40 q41 q42 q43 hHeld ⊢
              refine pz 0 119 HT_ ?_
              refine pz 1 120 HT_ ?_
              refine inv_at [2, 3, 4, 5, 6, 7, 8, 9, 10, 11, 12] (fun a0_ b a w' => ∃ (qn : Nat) (qe : Value), a = putSel a0_ b [(2, 121, .pointer (some (qj.add ((x17_3).toNat * 4)))), (3, 122, .agg #[.int .i64 ((rd_T25 q0 x17_3).f0), .int .i64 ((rd_T25 q0 x17_3).f1), .int .i64 ((rd_T25 q0 x17_3).f2), .int .i64 ((rd_T25 q0 x17_3).f3)]), (4, 123, .agg #[.int .i64 ((rd_T25 q0 x17_3).f0), .int .i64 ((rd_T25 q0 x17_3).f1), .int .i64 ((rd_T25 q0 x17_3).f2), .int .i64 ((rd_T25 q0 x17_3).f3), .int .i64 0, .int .i64 0]), (5, 124, .agg #[.int .i64 qu, .int .i64 qw]), (6, 125, .tuple #[.agg #[.int .i64 jX, .int .i64 jZ], .int .i64 g4]), (7, 118, .tuple #[.agg #[.int .i64 jX, .int .i64 jZ], .int .i64 g4]), (8, 126, .agg #[.int .i64 jX, .int .i64 jZ]), (9, 127, .int .i64 g4), (10, 20, qe), (12, 21, .int .i64 g4)] ∧ (Kd.R k25 25 w' w.heap.size (fun k_ => k_ ≠ qs) (.slice (some qj) q0.length gF) q0) ∧ (w'.heap[jV]? = some (.cells #[.int .i64 a0_0, .int .i64 a0_1, .int .i64 a0_2] 23 (0, 0))) ∧ (w'.heap[qq]? = some (.cells #[.int .i64 a1_0, .int .i64 a1_1, .int .i64 a1_2, .int .i64 a1_3, .int .i64 a1_4, .int .i64 a1_5, .int .i64 a1_6, .int .i64 a1_7] 39 (0, 0))) ∧ (w'.heap[qs]? = some (.cells #[.int .i64 a2_0, .int .i64 a2_1, .int .i64 a2_2, .int .i64 a2_3] 25 (0, 0))) ∧ (w'.heap[qf]? = some (.cells #[.int .i64 qt, .int .i64 qv] 37 (0, 0))) ∧ (w'.heap[qg]? = some (.cells #[.int .i64 qu, .int .i64 qw] 37 (0, 0))) ∧ (w'.heap[qh]? = some (.cells #[.int .i64 qx, .int .i64 qy] 37 (0, 0))) ∧ (w'.heap[qm]? = some (.cells #[.int .i64 jT, .int .i64 jW] 37 (0, 0))) ∧ (Below w.heap.size w w') ∧ (b 10 = true → b 11 = false → w'.heap[qn]? = some (.cells #[.int .i64 0, .int .i64 0] 37 (0, 0))) ∧ (b 10 = true → w.heap.size ≤ qn) ∧ (b 10 = true → w.heap.size ≤ qn) ∧ (b 10 = true → jV ≠ qn) ∧ (b 10 = true → qn ≠ jV) ∧ (b 10 = true → qq ≠ qn) ∧ (b 10 = true → qn ≠ qq) ∧ (b 10 = true → qs ≠ qn) ∧ (b 10 = true → qn ≠ qs) ∧ (b 10 = true → qf ≠ qn) ∧ (b 10 = true → qn ≠ qf) ∧ (b 10 = true → qg ≠ qn) ∧ (b 10 = true → qn ≠ qg) ∧ (b 10 = true → qh ≠ qn) ∧ (b 10 = true → qn ≠ qh) ∧ (b 10 = true → qm ≠ qn) ∧ (b 10 = true → qn ≠ qm) ∧ (b 11 = true → w'.heap[qn]? = some (.cells #[.int .i64 jX, .int .i64 jZ] 37 (0, 0))) ∧ (b 10 = true → (qe : Value) = .pointer (some ⟨qn, 0, none⟩))) HT_.out HW_.out (by kernel_rfl) (by kernel_rfl) ?_ ?_ ?_
              ·exact ⟨0, .bool false, by simp only [putSel, Bool.false_eq_true, if_false], HO_7.out, q3.out, q2.out, q4.out, q5.out, q6.out, q7.out, qi.out, HB.out, fun h_ => absurd h_ (by decide), fun h_ => absurd h_ (by decide), fun h_ => absurd h_ (by decide), fun h_ => absurd h_ (by decide), fun h_ => absurd h_ (by decide), fun h_ => absurd h_ (by decide), fun h_ => absurd h_ (by decide), fun h_ => absurd h_ (by decide), fun h_ => absurd h_ (by decide), fun h_ => absurd h_ (by decide), fun h_ => absurd h_ (by decide), fun h_ => absurd h_ (by decide), fun h_ => absurd h_ (by decide), fun h_ => absurd h_ (by decide), fun h_ => absurd h_ (by decide), fun h_ => absurd h_ (by decide), fun h_ => absurd h_ (by decide), fun h_ => absurd h_ (by decide), fun h_ => absurd h_ (by decide)⟩
              ·skip
               clear q3 q2 q4 q5 q6 q7 qi HB HO_7
               refine steps_cons ?_ ?_
               ·as_aux_lemma =>
                rintro b a w' ⟨qn, qe, ha, Q_HO_7, q8, q9, qa, qd, qc, qb, qk, Q_HB, qo, j5, j2, j8, jD, jb, jE, je, jF, jj, jG, jo, jH, jt, jI, jB, jJ, ge, Q_X10_⟩ hb_ hon hoff
                refine ⟨_, rfl, fun K hK => ?_⟩
                have q4F : a.tmps[119]? = some (.slice (some qj) q0.length gF) := by rw [ha]; exact (putSel_off rfl).trans rfl
                have q4G : a.tmps[120]? = some (.int .i64 x17_3) := by rw [ha]; exact (putSel_off rfl).trans rfl
                replace ha := Aside0.mk ha
                have HO_7 := Aside0.mk Q_HO_7
                have q3 := Aside0.mk q8
                have q2 := Aside0.mk q9
                have q4 := Aside0.mk qa
                have q5 := Aside0.mk qd
                have q6 := Aside0.mk qc
                have q7 := Aside0.mk qb
                have qi := Aside0.mk qk
                have HB := Aside0.mk Q_HB
                refine value_ (w1 := w') (v := .pointer (some (qj.add ((x17_3).toNat * 4)))) (by rfl) rfl ?_ ?_
                ·go_simp
                 (try simp only [i64_w])
                 try rfl
                refine hK.out _ _ ⟨qn, qe, (by rw [ha.out]; exact putSel_upk 0 hb_ rfl rfl rfl), Q_HO_7, q8, q9, qa, qd, qc, qb, qk, Q_HB, qo, j5, j2, j8, jD, jb, jE, je, jF, jj, jG, jo, jH, jt, jI, jB, jJ, fun h0_ => absurd ((hoff 11 (by kernel_rfl)).symm.trans h0_) (by decide), Q_X10_⟩
               refine steps_cons ?_ ?_
               ·as_aux_lemma =>
                rintro b a w' ⟨qn, qe, ha, Q_HO_7, q8, q9, qa, qd, qc, qb, qk, Q_HB, qo, j5, j2, j8, jD, jb, jE, je, jF, jj, jG, jo, jH, jt, jI, jB, jJ, ge, Q_X10_⟩ hb_ hon hoff
                refine ⟨_, rfl, fun K hK => ?_⟩
                have q4H : a.tmps[121]? = some (.pointer (some (qj.add ((x17_3).toNat * 4)))) := by rw [ha]; exact putSel_on (e := (2, 121, .pointer (some (qj.add ((x17_3).toNat * 4))))) 0 rfl rfl (hon 2 (by kernel_rfl)) rfl
                replace ha := Aside0.mk ha
                have HO_7 := Aside0.mk Q_HO_7
                have q3 := Aside0.mk q8
                have q2 := Aside0.mk q9
                have q4 := Aside0.mk qa
                have q5 := Aside0.mk qd
                have q6 := Aside0.mk qc
                have q7 := Aside0.mk qb
                have qi := Aside0.mk qk
                have HB := Aside0.mk Q_HB
                obtain ⟨ad1056_z, e1056_z, hx1056_0_z, hx1056_1_z, hx1056_2_z, hx1056_3_z⟩ := at_T25 (Kd.R_reads' HO_7.out).2.2 x17_3 (of_eq_true Gf) (of_eq_true Gi)
                cases e1056_z
                have q1Z : w'.cell? (qj.add ((x17_3).toNat * 4)) = some (.int .i64 ((rd_T25 q0 x17_3).f0)) := (by first | exact hx1056_0_z | (have h_ := hx1056_0_z; (try simp only [Int.reduceToNat, Nat.zero_mul, Nat.reduceMul, Nat.reduceEqDiff, Go.Addr.add, ↓reduceIte, Addr.add_zero'] at h_); exact h_))
                have q20 : w'.cell? ⟨(qj.add ((x17_3).toNat * 4)).block, (qj.add ((x17_3).toNat * 4)).off + 1, none⟩ = some (.int .i64 ((rd_T25 q0 x17_3).f1)) := (by first | exact hx1056_1_z | (have h_ := hx1056_1_z; (try simp only [Int.reduceToNat, Nat.zero_mul, Nat.reduceMul, Nat.reduceEqDiff, Go.Addr.add, ↓reduceIte, Addr.add_zero'] at h_); exact h_))
                have q21 : w'.cell? ⟨(qj.add ((x17_3).toNat * 4)).block, (qj.add ((x17_3).toNat * 4)).off + 2, none⟩ = some (.int .i64 ((rd_T25 q0 x17_3).f2)) := (by first | exact hx1056_2_z | (have h_ := hx1056_2_z; (try simp only [Int.reduceToNat, Nat.zero_mul, Nat.reduceMul, Nat.reduceEqDiff, Go.Addr.add, ↓reduceIte, Addr.add_zero'] at h_); exact h_))
                have q22 : w'.cell? ⟨(qj.add ((x17_3).toNat * 4)).block, (qj.add ((x17_3).toNat * 4)).off + 3, none⟩ = some (.int .i64 ((rd_T25 q0 x17_3).f3)) := (by first | exact hx1056_3_z | (have h_ := hx1056_3_z; (try simp only [Int.reduceToNat, Nat.zero_mul, Nat.reduceMul, Nat.reduceEqDiff, Go.Addr.add, ↓reduceIte, Addr.add_zero'] at h_); exact h_))
                refine value_ (w1 := w') (v := .agg #[.int .i64 ((rd_T25 q0 x17_3).f0), .int .i64 ((rd_T25 q0 x17_3).f1), .int .i64 ((rd_T25 q0 x17_3).f2), .int .i64 ((rd_T25 q0 x17_3).f3)]) (by rfl) rfl ?_ ?_
                ·go_simp
                 (try simp only [i64_w])
                 try rfl
                refine hK.out _ _ ⟨qn, qe, (by rw [ha.out]; exact putSel_upk 1 hb_ rfl rfl rfl), Q_HO_7, q8, q9, qa, qd, qc, qb, qk, Q_HB, qo, j5, j2, j8, jD, jb, jE, je, jF, jj, jG, jo, jH, jt, jI, jB, jJ, fun h0_ => absurd ((hoff 11 (by kernel_rfl)).symm.trans h0_) (by decide), Q_X10_⟩
               refine steps_cons ?_ ?_
               ·as_aux_lemma =>
                rintro b a w' ⟨qn, qe, ha, Q_HO_7, q8, q9, qa, qd, qc, qb, qk, Q_HB, qo, j5, j2, j8, jD, jb, jE, je, jF, jj, jG, jo, jH, jt, jI, jB, jJ, ge, Q_X10_⟩ hb_ hon hoff
                refine ⟨_, rfl, fun K hK => ?_⟩
                have q4I : a.tmps[122]? = some (.agg #[.int .i64 ((rd_T25 q0 x17_3).f0), .int .i64 ((rd_T25 q0 x17_3).f1), .int .i64 ((rd_T25 q0 x17_3).f2), .int .i64 ((rd_T25 q0 x17_3).f3)]) := by rw [ha]; exact putSel_on (e := (3, 122, .agg #[.int .i64 ((rd_T25 q0 x17_3).f0), .int .i64 ((rd_T25 q0 x17_3).f1), .int .i64 ((rd_T25 q0 x17_3).f2), .int .i64 ((rd_T25 q0 x17_3).f3)])) 1 rfl rfl (hon 3 (by kernel_rfl)) rfl
                replace ha := Aside0.mk ha
                have HO_7 := Aside0.mk Q_HO_7
                have q3 := Aside0.mk q8
                have q2 := Aside0.mk q9
                have q4 := Aside0.mk qa
                have q5 := Aside0.mk qd
                have q6 := Aside0.mk qc
                have q7 := Aside0.mk qb
                have qi := Aside0.mk qk
                have HB := Aside0.mk Q_HB
                refine value_ (w1 := w') (v := .agg #[.int .i64 ((rd_T25 q0 x17_3).f0), .int .i64 ((rd_T25 q0 x17_3).f1), .int .i64 ((rd_T25 q0 x17_3).f2), .int .i64 ((rd_T25 q0 x17_3).f3), .int .i64 0, .int .i64 0]) (by rfl) rfl ?_ ?_
                ·go_simp
                 (try simp only [i64_w])
                 try rfl
                refine hK.out _ _ ⟨qn, qe, (by rw [ha.out]; exact putSel_upk 2 hb_ rfl rfl rfl), Q_HO_7, q8, q9, qa, qd, qc, qb, qk, Q_HB, qo, j5, j2, j8, jD, jb, jE, je, jF, jj, jG, jo, jH, jt, jI, jB, jJ, fun h0_ => absurd ((hoff 11 (by kernel_rfl)).symm.trans h0_) (by decide), Q_X10_⟩
               refine steps_cons ?_ ?_
               ·as_aux_lemma =>
                rintro b a w' ⟨qn, qe, ha, Q_HO_7, q8, q9, qa, qd, qc, qb, qk, Q_HB, qo, j5, j2, j8, jD, jb, jE, je, jF, jj, jG, jo, jH, jt, jI, jB, jJ, ge, Q_X10_⟩ hb_ hon hoff
                refine ⟨_, rfl, fun K hK => ?_⟩
                have e11 : a.tmps[11]? = some (.pointer (some ⟨qg, 0, none⟩)) := by rw [ha]; exact (putSel_off rfl).trans rfl
                replace ha := Aside0.mk ha
                have HO_7 := Aside0.mk Q_HO_7
                have q3 := Aside0.mk q8
                have q2 := Aside0.mk q9
                have q4 := Aside0.mk qa
                have q5 := Aside0.mk qd
                have q6 := Aside0.mk qc
                have q7 := Aside0.mk qb
                have qi := Aside0.mk qk
                have HB := Aside0.mk Q_HB
                have hc0_ : w'.cell? ⟨qg, 0, none⟩ = some (.int .i64 qu) := (blk_cell q6.out 0).trans rfl
                have hc1_ : w'.cell? ⟨qg, 1, none⟩ = some (.int .i64 qw) := (blk_cell q6.out 1).trans rfl
                refine value_ (w1 := w') (v := .agg #[.int .i64 qu, .int .i64 qw]) (by rfl) rfl ?_ ?_
                ·go_simp
                 (try simp only [i64_w])
                 try rfl
                refine hK.out _ _ ⟨qn, qe, (by rw [ha.out]; exact putSel_upk 3 hb_ rfl rfl rfl), Q_HO_7, q8, q9, qa, qd, qc, qb, qk, Q_HB, qo, j5, j2, j8, jD, jb, jE, je, jF, jj, jG, jo, jH, jt, jI, jB, jJ, fun h0_ => absurd ((hoff 11 (by kernel_rfl)).symm.trans h0_) (by decide), Q_X10_⟩
               refine steps_cons ?_ ?_
               ·as_aux_lemma =>
                rintro b a w' ⟨qn, qe, ha, Q_HO_7, q8, q9, qa, qd, qc, qb, qk, Q_HB, qo, j5, j2, j8, jD, jb, jE, je, jF, jj, jG, jo, jH, jt, jI, jB, jJ, ge, Q_X10_⟩ hb_ hon hoff
                refine ⟨_, rfl, fun K hK => ?_⟩
                have q0G : a.tmps[123]? = some (.agg #[.int .i64 ((rd_T25 q0 x17_3).f0), .int .i64 ((rd_T25 q0 x17_3).f1), .int .i64 ((rd_T25 q0 x17_3).f2), .int .i64 ((rd_T25 q0 x17_3).f3), .int .i64 0, .int .i64 0]) := by rw [ha]; exact putSel_on (e := (4, 123, .agg #[.int .i64 ((rd_T25 q0 x17_3).f0), .int .i64 ((rd_T25 q0 x17_3).f1), .int .i64 ((rd_T25 q0 x17_3).f2), .int .i64 ((rd_T25 q0 x17_3).f3), .int .i64 0, .int .i64 0])) 2 rfl rfl (hon 4 (by kernel_rfl)) rfl
                have q0H : a.tmps[124]? = some (.agg #[.int .i64 qu, .int .i64 qw]) := by rw [ha]; exact putSel_on (e := (5, 124, .agg #[.int .i64 qu, .int .i64 qw])) 3 rfl rfl (hon 5 (by kernel_rfl)) rfl
                replace ha := Aside0.mk ha
                have HO_7 := Aside0.mk Q_HO_7
                have q3 := Aside0.mk q8
                have q2 := Aside0.mk q9
                have q4 := Aside0.mk qa
                have q5 := Aside0.mk qd
                have q6 := Aside0.mk qc
                have q7 := Aside0.mk qb
                have qi := Aside0.mk qk
                have HB := Aside0.mk Q_HB
                refine goes_ Try.func27 (by kernel_rfl) rfl #[.agg #[.int .i64 ((rd_T25 q0 x17_3).f0), .int .i64 ((rd_T25 q0 x17_3).f1), .int .i64 ((rd_T25 q0 x17_3).f2), .int .i64 ((rd_T25 q0 x17_3).f3), .int .i64 0, .int .i64 0], .agg #[.int .i64 qu, .int .i64 qw]] (by rfl) rfl rfl (by first | (simp only [List.map_toArray, List.map_cons, List.map_nil, Act.eval, Array.getD_eq_getD_getElem?, Option.getD_some, q0G, q0H]; done) | (simp only [List.map_toArray, List.map_cons, List.map_nil, Act.eval, Array.getD_eq_getD_getElem?, Option.getD_some, q0G, q0H]; rfl)) ?_
                with_reducible refine (grids_Apply.calls k3 ((rd_T25 q0 x17_3).f0) ((rd_T25 q0 x17_3).f1) ((rd_T25 q0 x17_3).f2) ((rd_T25 q0 x17_3).f3) 0 0 qu qw jX jZ g4 _ A69.out).mono ?_
                rintro e w86 ⟨rfl, hb⟩
                refine ⟨_, rfl, ?_⟩
                have n0_ := Aside0.mk (Kd.R_below (by (with_reducible repeat (first | apply Kd.R_alloc | apply Kd.R_drewN | apply Kd.R_drew)); exact HO_7.out) hb)
                have n1_ := bb q3 hb
                have n2_ := bb q2 hb
                have n3_ := bb q4 hb
                have n4_ := bb q5 hb
                have n5_ := bb q6 hb
                have n6_ := bb q7 hb
                have n7_ := bb qi hb
                have n8_ := bst HB hb
                have q4d := fun (h0_ : b 10 = true) (h1_ : b 11 = false) => (show w86.heap[qn]? = some (.cells #[.int .i64 0, .int .i64 0] 37 (0, 0)) from by first | exact (blk_below (g := qn) (o := .cells #[.int .i64 0, .int .i64 0] 37 (0, 0)) (by (with_reducible repeat (first | refine blk_drewN ?_ _ | refine blk_drew ?_ | refine blk_alloc ?_ _)); exact (qo h0_ h1_)) hb))
                clear HO_7
                clear q3
                clear q2
                clear q4
                clear q5
                clear q6
                clear q7
                clear qi
                clear HB
                have HO_7 := n0_
                have q3 := n1_
                have q2 := n2_
                have q4 := n3_
                have q5 := n4_
                have q6 := n5_
                have q7 := n6_
                have qi := n7_
                have HB := n8_
                clear n0_ n1_ n2_ n3_ n4_ n5_ n6_ n7_ n8_
                (try clear hb)
                (try clear hb2)
                (try clear hk)
                (try clear hi)
                refine hK.out _ _ ⟨qn, qe, (by rw [ha.out]; exact putSel_upk 4 hb_ rfl rfl rfl), (by (with_reducible repeat (first | apply Kd.R_alloc | apply Kd.R_drewN | apply Kd.R_drew)); exact HO_7.out), (pk q3), (pk q2), (pk q4), (pk q5), (pk q6), (pk q7), (pk qi), (bnow HB), q4d, j5, j2, j8, jD, jb, jE, je, jF, jj, jG, jo, jH, jt, jI, jB, jJ, fun h0_ => absurd ((hoff 11 (by kernel_rfl)).symm.trans h0_) (by decide), Q_X10_⟩
               refine steps_cons ?_ ?_
               ·as_aux_lemma =>
                rintro b a w' ⟨qn, qe, ha, Q_HO_7, q8, q9, qa, qd, qc, qb, qk, Q_HB, qo, j5, j2, j8, jD, jb, jE, je, jF, jj, jG, jo, jH, jt, jI, jB, jJ, ge, Q_X10_⟩ hb_ hon hoff
                refine ⟨_, rfl, fun K hK => ?_⟩
                have q4J : a.tmps[125]? = some (.tuple #[.agg #[.int .i64 jX, .int .i64 jZ], .int .i64 g4]) := by rw [ha]; exact putSel_on (e := (6, 125, .tuple #[.agg #[.int .i64 jX, .int .i64 jZ], .int .i64 g4])) 4 rfl rfl (hon 6 (by kernel_rfl)) rfl
                replace ha := Aside0.mk ha
                have HO_7 := Aside0.mk Q_HO_7
                have q3 := Aside0.mk q8
                have q2 := Aside0.mk q9
                have q4 := Aside0.mk qa
                have q5 := Aside0.mk qd
                have q6 := Aside0.mk qc
                have q7 := Aside0.mk qb
                have qi := Aside0.mk qk
                have HB := Aside0.mk Q_HB
                refine value_ (w1 := w') (v := .tuple #[.agg #[.int .i64 jX, .int .i64 jZ], .int .i64 g4]) (by rfl) rfl ?_ ?_
                ·go_simp
                 (try simp only [i64_w])
                 try rfl
                refine hK.out _ _ ⟨qn, qe, (by rw [ha.out]; exact putSel_upk 5 hb_ rfl rfl rfl), Q_HO_7, q8, q9, qa, qd, qc, qb, qk, Q_HB, qo, j5, j2, j8, jD, jb, jE, je, jF, jj, jG, jo, jH, jt, jI, jB, jJ, fun h0_ => absurd ((hoff 11 (by kernel_rfl)).symm.trans h0_) (by decide), Q_X10_⟩
               refine steps_cons ?_ ?_
               ·as_aux_lemma =>
                rintro b a w' ⟨qn, qe, ha, Q_HO_7, q8, q9, qa, qd, qc, qb, qk, Q_HB, qo, j5, j2, j8, jD, jb, jE, je, jF, jj, jG, jo, jH, jt, jI, jB, jJ, ge, Q_X10_⟩ hb_ hon hoff
                refine ⟨_, rfl, fun K hK => ?_⟩
                have q3L : a.tmps[118]? = some (.tuple #[.agg #[.int .i64 jX, .int .i64 jZ], .int .i64 g4]) := by rw [ha]; exact putSel_on (e := (7, 118, .tuple #[.agg #[.int .i64 jX, .int .i64 jZ], .int .i64 g4])) 5 rfl rfl (hon 7 (by kernel_rfl)) rfl
                replace ha := Aside0.mk ha
                have HO_7 := Aside0.mk Q_HO_7
                have q3 := Aside0.mk q8
                have q2 := Aside0.mk q9
                have q4 := Aside0.mk qa
                have q5 := Aside0.mk qd
                have q6 := Aside0.mk qc
                have q7 := Aside0.mk qb
                have qi := Aside0.mk qk
                have HB := Aside0.mk Q_HB
                refine value_ (w1 := w') (v := .agg #[.int .i64 jX, .int .i64 jZ]) (by rfl) rfl ?_ ?_
                ·go_simp
                 (try simp only [i64_w])
                 try rfl
                refine hK.out _ _ ⟨qn, qe, (by rw [ha.out]; exact putSel_upk 6 hb_ rfl rfl rfl), Q_HO_7, q8, q9, qa, qd, qc, qb, qk, Q_HB, qo, j5, j2, j8, jD, jb, jE, je, jF, jj, jG, jo, jH, jt, jI, jB, jJ, fun h0_ => absurd ((hoff 11 (by kernel_rfl)).symm.trans h0_) (by decide), Q_X10_⟩
               refine steps_cons ?_ ?_
               ·as_aux_lemma =>
                rintro b a w' ⟨qn, qe, ha, Q_HO_7, q8, q9, qa, qd, qc, qb, qk, Q_HB, qo, j5, j2, j8, jD, jb, jE, je, jF, jj, jG, jo, jH, jt, jI, jB, jJ, ge, Q_X10_⟩ hb_ hon hoff
                refine ⟨_, rfl, fun K hK => ?_⟩
                have q3L : a.tmps[118]? = some (.tuple #[.agg #[.int .i64 jX, .int .i64 jZ], .int .i64 g4]) := by rw [ha]; exact putSel_on (e := (7, 118, .tuple #[.agg #[.int .i64 jX, .int .i64 jZ], .int .i64 g4])) 5 rfl rfl (hon 7 (by kernel_rfl)) rfl
                replace ha := Aside0.mk ha
                have HO_7 := Aside0.mk Q_HO_7
                have q3 := Aside0.mk q8
                have q2 := Aside0.mk q9
                have q4 := Aside0.mk qa
                have q5 := Aside0.mk qd
                have q6 := Aside0.mk qc
                have q7 := Aside0.mk qb
                have qi := Aside0.mk qk
                have HB := Aside0.mk Q_HB
                refine value_ (w1 := w') (v := .int .i64 g4) (by rfl) rfl ?_ ?_
                ·go_simp
                 (try simp only [i64_w])
                 try rfl
                refine hK.out _ _ ⟨qn, qe, (by rw [ha.out]; exact putSel_upk 7 hb_ rfl rfl rfl), Q_HO_7, q8, q9, qa, qd, qc, qb, qk, Q_HB, qo, j5, j2, j8, jD, jb, jE, je, jF, jj, jG, jo, jH, jt, jI, jB, jJ, ge, Q_X10_⟩
               refine steps_cons ?_ ?_
               ·as_aux_lemma =>
                rintro b a w' ⟨qn, qe, ha, Q_HO_7, q8, q9, qa, qd, qc, qb, qk, Q_HB, qo, j5, j2, j8, jD, jb, jE, je, jF, jj, jG, jo, jH, jt, jI, jB, jJ, ge, Q_X10_⟩ hb_ hon hoff
                refine ⟨_, rfl, fun K hK => ?_⟩
                replace ha := Aside0.mk ha
                have HO_7 := Aside0.mk Q_HO_7
                have q3 := Aside0.mk q8
                have q2 := Aside0.mk q9
                have q4 := Aside0.mk qa
                have q5 := Aside0.mk qd
                have q6 := Aside0.mk qc
                have q7 := Aside0.mk qb
                have qi := Aside0.mk qk
                have HB := Aside0.mk Q_HB
                refine box_step ?hg (N := 20) ?hd (cs := #[.int .i64 0, .int .i64 0]) (t := 37) ?hr ?_; (case hd => rfl); (case hg => rfl); (case hr => first | (go_simp; done) | (go_simp; rfl))
                intro qn hg w86 hbox hb
                have n0_ := Aside0.mk (Kd.R_below (by (with_reducible repeat (first | apply Kd.R_alloc | apply Kd.R_drewN | apply Kd.R_drew)); exact HO_7.out) hb)
                have n1_ := bb q3 hb
                have n2_ := bb q2 hb
                have n3_ := bb q4 hb
                have n4_ := bb q5 hb
                have n5_ := bb q6 hb
                have n6_ := bb q7 hb
                have n7_ := bb qi hb
                have n8_ := bst HB hb
                have n9_ := Aside0.mk (hbox)
                have qB := gw hg HB
                have qC := gw hg HB
                have g8 := nlt hg q3
                have g9 := ngt hg q3
                have QH := nlt hg q2
                have QI := ngt hg q2
                have QJ := nlt hg q4
                have QK := ngt hg q4
                have QL := nlt hg q5
                have QM := ngt hg q5
                have QN := nlt hg q6
                have QO := ngt hg q6
                have QP := nlt hg q7
                have Jz := ngt hg q7
                have JA := nlt hg qi
                have JB := ngt hg qi
                clear HO_7
                clear q3
                clear q2
                clear q4
                clear q5
                clear q6
                clear q7
                clear qi
                clear HB
                have HO_7 := n0_
                have q3 := n1_
                have q2 := n2_
                have q4 := n3_
                have q5 := n4_
                have q6 := n5_
                have q7 := n6_
                have qi := n7_
                have HB := n8_
                have ql := n9_
                have Jq := qB
                have Jn := qC
                have gR := g8
                have Qs := g9
                have gU := QH
                have Qt := QI
                have gX := QJ
                have Qu := QK
                have Q0 := QL
                have Qv := QM
                have Q3 := QN
                have Qw := QO
                have Q6 := QP
                have Qx := Jz
                have Q8 := JA
                have Qy := JB
                clear n0_ n1_ n2_ n3_ n4_ n5_ n6_ n7_ n8_ n9_ qB qC g8 g9 QH QI QJ QK QL QM QN QO QP Jz JA JB
                clear hb hg
                refine hK.out _ _ ⟨qn, (.pointer (some ⟨qn, 0, none⟩)), (by rw [ha.out]; exact putSel_upk 8 hb_ rfl rfl rfl), (by (with_reducible repeat (first | apply Kd.R_alloc | apply Kd.R_drewN | apply Kd.R_drew)); exact HO_7.out), (pk q3), (pk q2), (pk q4), (pk q5), (pk q6), (pk q7), (pk qi), (bnow HB), fun _ _ => (pk ql), fun _ => Jq.out, fun _ => Jn.out, fun _ => gR.out, fun _ => Qs.out, fun _ => gU.out, fun _ => Qt.out, fun _ => gX.out, fun _ => Qu.out, fun _ => Q0.out, fun _ => Qv.out, fun _ => Q3.out, fun _ => Qw.out, fun _ => Q6.out, fun _ => Qx.out, fun _ => Q8.out, fun _ => Qy.out, fun h0_ => absurd ((hoff 11 (by kernel_rfl)).symm.trans h0_) (by decide), fun _ => rfl⟩
               refine steps_cons ?_ ?_
               ·as_aux_lemma =>
                rintro b a w' ⟨qn, qe, ha, Q_HO_7, q8, q9, qa, qd, qc, qb, qk, Q_HB, qo, j5, j2, j8, jD, jb, jE, je, jF, jj, jG, jo, jH, jt, jI, jB, jJ, ge, Q_X10_⟩ hb_ hon hoff
                refine ⟨_, rfl, fun K hK => ?_⟩
                have e20 : a.tmps[20]? = some (qe) := by rw [ha]; exact putSel_on (e := (10, 20, qe)) 8 rfl rfl (hon 10 (by kernel_rfl)) rfl
                rw [Q_X10_ (hon 10 (by kernel_rfl))] at e20
                have q4K : a.tmps[126]? = some (.agg #[.int .i64 jX, .int .i64 jZ]) := by rw [ha]; exact putSel_on (e := (8, 126, .agg #[.int .i64 jX, .int .i64 jZ])) 6 rfl rfl (hon 8 (by kernel_rfl)) rfl
                replace ha := Aside0.mk ha
                have HO_7 := Aside0.mk Q_HO_7
                have q3 := Aside0.mk q8
                have q2 := Aside0.mk q9
                have q4 := Aside0.mk qa
                have q5 := Aside0.mk qd
                have q6 := Aside0.mk qc
                have q7 := Aside0.mk qb
                have qi := Aside0.mk qk
                have HB := Aside0.mk Q_HB
                have ql := Aside0.mk (qo (hon 10 (by kernel_rfl)) hb_)
                have Jq := Aside0.mk (j5 (hon 10 (by kernel_rfl)))
                have Jn := Aside0.mk (j2 (hon 10 (by kernel_rfl)))
                have gR := Aside0.mk (j8 (hon 10 (by kernel_rfl)))
                have Qs := Aside0.mk (jD (hon 10 (by kernel_rfl)))
                have gU := Aside0.mk (jb (hon 10 (by kernel_rfl)))
                have Qt := Aside0.mk (jE (hon 10 (by kernel_rfl)))
                have gX := Aside0.mk (je (hon 10 (by kernel_rfl)))
                have Qu := Aside0.mk (jF (hon 10 (by kernel_rfl)))
                have Q0 := Aside0.mk (jj (hon 10 (by kernel_rfl)))
                have Qv := Aside0.mk (jG (hon 10 (by kernel_rfl)))
                have Q3 := Aside0.mk (jo (hon 10 (by kernel_rfl)))
                have Qw := Aside0.mk (jH (hon 10 (by kernel_rfl)))
                have Q6 := Aside0.mk (jt (hon 10 (by kernel_rfl)))
                have Qx := Aside0.mk (jI (hon 10 (by kernel_rfl)))
                have Q8 := Aside0.mk (jB (hon 10 (by kernel_rfl)))
                have Qy := Aside0.mk (jJ (hon 10 (by kernel_rfl)))
                have qb9 : w'.cell? ⟨qn, 0, none⟩ = some (.int .i64 0) := (blk_cell ql.out 0).trans rfl
                have q5x := blk_frozen ql.out 0
                have qax := gR.out
                have qay := gU.out
                have qaz := gX.out
                have qaA := Q0.out
                have qaB := Q3.out
                have qaC := Q6.out
                have qaD := Q8.out
                have q6N := Qs.out
                have q6O := Qt.out
                have q6P := Qu.out
                have q6Q := Qv.out
                have q6R := Qw.out
                have q6S := Qx.out
                have q6T := Qy.out
                have qba : w'.cell? ⟨qn, 1, none⟩ = some (.int .i64 0) := (blk_cell ql.out 1).trans rfl
                have q5y := blk_frozen ql.out 1
                have qaE := gR.out
                have qaF := gU.out
                have qaG := gX.out
                have qaH := Q0.out
                have qaI := Q3.out
                have qaJ := Q6.out
                have qaK := Q8.out
                have q6U := Qs.out
                have q6V := Qt.out
                have q6W := Qu.out
                have q6X := Qv.out
                have q6Y := Qw.out
                have q6Z := Qx.out
                have q70 := Qy.out
                refine skip_ (w1 := ?_) (by rfl) rfl ?_ ?_
                rotate_left
                ·go_simp
                 rfl
                refine hK.out _ _ ⟨qn, qe, (by rw [ha.out]; exact putSel_none (v := undef) rfl), (by (with_reducible repeat (first | apply Kd.R_alloc | apply Kd.R_drewN | apply Kd.R_drew)); exact Kd.R_mono (Kd.R_far (p := ⟨qn, 1, none⟩) (Kd.R_far (p := ⟨qn, 0, none⟩) (Kd.R_types HO_7.out ql.out (by decide)) (fun _ hk => hk.2) (.int .i64 jX)) (fun _ hk => hk.2) (.int .i64 jZ)) (fun _ hk => hk.1)), (by (with_reducible repeat (first | refine blk_drewN ?_ _ | refine blk_drew ?_ | refine blk_alloc ?_ _)); refine blk_far ?_ gR.out _; (with_reducible repeat (first | refine blk_drewN ?_ _ | refine blk_drew ?_ | refine blk_alloc ?_ _)); refine blk_far ?_ gR.out _; (with_reducible repeat (first | refine blk_drewN ?_ _ | refine blk_drew ?_ | refine blk_alloc ?_ _)); exact q3.out), (by (with_reducible repeat (first | refine blk_drewN ?_ _ | refine blk_drew ?_ | refine blk_alloc ?_ _)); refine blk_far ?_ gU.out _; (with_reducible repeat (first | refine blk_drewN ?_ _ | refine blk_drew ?_ | refine blk_alloc ?_ _)); refine blk_far ?_ gU.out _; (with_reducible repeat (first | refine blk_drewN ?_ _ | refine blk_drew ?_ | refine blk_alloc ?_ _)); exact q2.out), (by (with_reducible repeat (first | refine blk_drewN ?_ _ | refine blk_drew ?_ | refine blk_alloc ?_ _)); refine blk_far ?_ gX.out _; (with_reducible repeat (first | refine blk_drewN ?_ _ | refine blk_drew ?_ | refine blk_alloc ?_ _)); refine blk_far ?_ gX.out _; (with_reducible repeat (first | refine blk_drewN ?_ _ | refine blk_drew ?_ | refine blk_alloc ?_ _)); exact q4.out), (by (with_reducible repeat (first | refine blk_drewN ?_ _ | refine blk_drew ?_ | refine blk_alloc ?_ _)); refine blk_far ?_ Q0.out _; (with_reducible repeat (first | refine blk_drewN ?_ _ | refine blk_drew ?_ | refine blk_alloc ?_ _)); refine blk_far ?_ Q0.out _; (with_reducible repeat (first | refine blk_drewN ?_ _ | refine blk_drew ?_ | refine blk_alloc ?_ _)); exact q5.out), (by (with_reducible repeat (first | refine blk_drewN ?_ _ | refine blk_drew ?_ | refine blk_alloc ?_ _)); refine blk_far ?_ Q3.out _; (with_reducible repeat (first | refine blk_drewN ?_ _ | refine blk_drew ?_ | refine blk_alloc ?_ _)); refine blk_far ?_ Q3.out _; (with_reducible repeat (first | refine blk_drewN ?_ _ | refine blk_drew ?_ | refine blk_alloc ?_ _)); exact q6.out), (by (with_reducible repeat (first | refine blk_drewN ?_ _ | refine blk_drew ?_ | refine blk_alloc ?_ _)); refine blk_far ?_ Q6.out _; (with_reducible repeat (first | refine blk_drewN ?_ _ | refine blk_drew ?_ | refine blk_alloc ?_ _)); refine blk_far ?_ Q6.out _; (with_reducible repeat (first | refine blk_drewN ?_ _ | refine blk_drew ?_ | refine blk_alloc ?_ _)); exact q7.out), (by (with_reducible repeat (first | refine blk_drewN ?_ _ | refine blk_drew ?_ | refine blk_alloc ?_ _)); refine blk_far ?_ Q8.out _; (with_reducible repeat (first | refine blk_drewN ?_ _ | refine blk_drew ?_ | refine blk_alloc ?_ _)); refine blk_far ?_ Q8.out _; (with_reducible repeat (first | refine blk_drewN ?_ _ | refine blk_drew ?_ | refine blk_alloc ?_ _)); exact qi.out), (bnow HB), fun _ h1_ => absurd ((up_self b 11).symm.trans h1_) (by decide), fun _ => Jq.out, fun _ => Jn.out, fun _ => gR.out, fun _ => Qs.out, fun _ => gU.out, fun _ => Qt.out, fun _ => gX.out, fun _ => Qu.out, fun _ => Q0.out, fun _ => Qv.out, fun _ => Q3.out, fun _ => Qw.out, fun _ => Q6.out, fun _ => Qx.out, fun _ => Q8.out, fun _ => Qy.out, fun _ => (by (with_reducible repeat (first | refine blk_drewN ?_ _ | refine blk_drew ?_ | refine blk_alloc ?_ _)); refine blk_put (cs := #[.int .i64 jX, .int .i64 0]) ?_ 1 _ rfl; (with_reducible repeat (first | refine blk_drewN ?_ _ | refine blk_drew ?_ | refine blk_alloc ?_ _)); refine blk_put (cs := #[.int .i64 0, .int .i64 0]) ?_ 0 _ rfl; (with_reducible repeat (first | refine blk_drewN ?_ _ | refine blk_drew ?_ | refine blk_alloc ?_ _)); exact ql.out), Q_X10_⟩
               refine steps_cons ?_ ?_
               ·as_aux_lemma =>
                rintro b a w' ⟨qn, qe, ha, Q_HO_7, q8, q9, qa, qd, qc, qb, qk, Q_HB, qo, j5, j2, j8, jD, jb, jE, je, jF, jj, jG, jo, jH, jt, jI, jB, jJ, ge, Q_X10_⟩ hb_ hon hoff
                refine ⟨_, rfl, fun K hK => ?_⟩
                have q4L : a.tmps[127]? = some (.int .i64 g4) := by rw [ha]; exact putSel_on (e := (9, 127, .int .i64 g4)) 7 rfl rfl (hon 9 (by kernel_rfl)) rfl
                replace ha := Aside0.mk ha
                have HO_7 := Aside0.mk Q_HO_7
                have q3 := Aside0.mk q8
                have q2 := Aside0.mk q9
                have q4 := Aside0.mk qa
                have q5 := Aside0.mk qd
                have q6 := Aside0.mk qc
                have q7 := Aside0.mk qb
                have qi := Aside0.mk qk
                have HB := Aside0.mk Q_HB
                have Jq := Aside0.mk (j5 (hon 10 (by kernel_rfl)))
                have Jn := Aside0.mk (j2 (hon 10 (by kernel_rfl)))
                have gR := Aside0.mk (j8 (hon 10 (by kernel_rfl)))
                have Qs := Aside0.mk (jD (hon 10 (by kernel_rfl)))
                have gU := Aside0.mk (jb (hon 10 (by kernel_rfl)))
                have Qt := Aside0.mk (jE (hon 10 (by kernel_rfl)))
                have gX := Aside0.mk (je (hon 10 (by kernel_rfl)))
                have Qu := Aside0.mk (jF (hon 10 (by kernel_rfl)))
                have Q0 := Aside0.mk (jj (hon 10 (by kernel_rfl)))
                have Qv := Aside0.mk (jG (hon 10 (by kernel_rfl)))
                have Q3 := Aside0.mk (jo (hon 10 (by kernel_rfl)))
                have Qw := Aside0.mk (jH (hon 10 (by kernel_rfl)))
                have Q6 := Aside0.mk (jt (hon 10 (by kernel_rfl)))
                have Qx := Aside0.mk (jI (hon 10 (by kernel_rfl)))
                have Q8 := Aside0.mk (jB (hon 10 (by kernel_rfl)))
                have Qy := Aside0.mk (jJ (hon 10 (by kernel_rfl)))
                have ql := Aside0.mk (ge (hon 11 (by kernel_rfl)))
                refine value_ (w1 := w') (v := .int .i64 g4) (by rfl) rfl ?_ ?_
                ·go_simp
                 (try simp only [i64_w])
                 try rfl
                refine hK.out _ _ ⟨qn, qe, (by rw [ha.out]; exact putSel_upk 9 hb_ rfl rfl rfl), Q_HO_7, q8, q9, qa, qd, qc, qb, qk, Q_HB, fun _ h1_ => absurd ((hon 11 (by kernel_rfl)).symm.trans h1_) (by decide), j5, j2, j8, jD, jb, jE, je, jF, jj, jG, jo, jH, jt, jI, jB, jJ, ge, Q_X10_⟩
               exact steps_nil
              rintro b a w90 hall ⟨qn, qe, ha, Q_HO_7, q8, q9, qa, qd, qc, qb, qk, Q_HB, qo, j5, j2, j8, jD, jb, jE, je, jF, jj, jG, jo, jH, jt, jI, jB, jJ, ge, Q_X10_⟩
              clear q3 q2 q4 q5 q6 q7 qi HB HO_7
              have hb2_ := hall 2 (by kernel_rfl)
              have hb3_ := hall 3 (by kernel_rfl)
              have hb4_ := hall 4 (by kernel_rfl)
              have hb5_ := hall 5 (by kernel_rfl)
              have hb6_ := hall 6 (by kernel_rfl)
              have hb7_ := hall 7 (by kernel_rfl)
              have hb8_ := hall 8 (by kernel_rfl)
              have hb9_ := hall 9 (by kernel_rfl)
              have hb10_ := hall 10 (by kernel_rfl)
              have hb11_ := hall 11 (by kernel_rfl)
              have hb12_ := hall 12 (by kernel_rfl)
              subst ha
              obtain rfl := Q_X10_ hb10_
              simp only [putSel, hb2_, hb3_, hb4_, hb5_, hb6_, hb7_, hb8_, hb9_, hb10_, hb11_, hb12_, if_true, Act.put, List.setIfInBounds_toArray, List.set_cons_zero, List.set_cons_succ]
              have HO_7 := Aside0.mk Q_HO_7
              clear Q_HO_7
              have q3 := Aside0.mk q8
              clear q8
              have q2 := Aside0.mk q9
              clear q9
              have q4 := Aside0.mk qa
              clear qa
              have q5 := Aside0.mk qd
              clear qd
              have q6 := Aside0.mk qc
              clear qc
              have q7 := Aside0.mk qb
              clear qb
              have qi := Aside0.mk qk
              clear qk
              have HB := Aside0.mk Q_HB
              clear Q_HB
              clear qo
              have Jq := Aside0.mk (j5 hb10_)
              clear j5
              have Jn := Aside0.mk (j2 hb10_)
              clear j2
              have gR := Aside0.mk (j8 hb10_)
              clear j8
              have Qs := Aside0.mk (jD hb10_)
              clear jD
              have gU := Aside0.mk (jb hb10_)
              clear jb
              have Qt := Aside0.mk (jE hb10_)
              clear jE
              have gX := Aside0.mk (je hb10_)
              clear je
              have Qu := Aside0.mk (jF hb10_)
              clear jF
              have Q0 := Aside0.mk (jj hb10_)
              clear jj
              have Qv := Aside0.mk (jG hb10_)
              clear jG
              have Q3 := Aside0.mk (jo hb10_)
              clear jo
              have Qw := Aside0.mk (jH hb10_)
              clear jH
              have Q6 := Aside0.mk (jt hb10_)
              clear jt
              have Qx := Aside0.mk (jI hb10_)
              clear jI
              have Q8 := Aside0.mk (jB hb10_)
              clear jB
              have Qy := Aside0.mk (jJ hb10_)
              clear jJ
              have ql := Aside0.mk (ge hb11_)
              clear ge
              clear hall hb2_ hb3_ hb4_ hb5_ hb6_ hb7_ hb8_ hb9_ hb10_ hb11_ hb12_
              try go_wp2
              replace HO_7 := Aside0.mk (Kd.R_drew HO_7.out)
              replace q3 := bd q3
              replace q2 := bd q2
              replace q4 := bd q4
              replace q5 := bd q5
              replace q6 := bd q6
              replace q7 := bd q7
              replace qi := bd qi
              replace ql := bd ql
              replace HB := bdn HB
              have Gg : 0 ≤ (x17_3 : Int) := of_decide_eq_true (by first | (with_reducible assumption) | assumption)
              have Gj : x17_3 < (q0.length : Int) := of_decide_eq_true (by first | (with_reducible assumption) | assumption)
              obtain ⟨q2H, q3C, q45, q46, q47, q48⟩ := at_T25 (Kd.R_reads' HO_7.out).2.2 x17_3 Gg Gj
              obtain rfl : qj = q2H := (by injection q3C)
              replace Gg := eq_true Gg
              replace Gj := eq_true Gj
              refine start_ (n := 13) (S := fun w' => True) (ds := []) #[false, false, false, false, false, false, false, false, false, false, false, false, false] (by kernel_rfl) rfl rfl trivial (fun hHeld => ?_); refine with_tabW torchonlaw06_GridsKeep.tab19 torchonlaw06_GridsKeep.bits19 (fun HT_ HW_ => ?_)
              generalize w90.drew = w91 at HO_7 q3 q2 q4 q5 q6 q7 qi ql HB q45 q46 q47 q48 hHeld ⊢
              refine pz 0 129 HT_ ?_
              refine pz 1 130 HT_ ?_
              refine inv_at [2, 3, 4, 5, 6, 7, 8, 9, 10, 11, 12] (fun a0_ b a w' => ∃ (qp : Nat) (qe : Value), a = putSel a0_ b [(2, 131, .pointer (some (qj.add ((x17_3).toNat * 4)))), (3, 132, .agg #[.int .i64 ((rd_T25 q0 x17_3).f0), .int .i64 ((rd_T25 q0 x17_3).f1), .int .i64 ((rd_T25 q0 x17_3).f2), .int .i64 ((rd_T25 q0 x17_3).f3)]), (4, 133, .agg #[.int .i64 ((rd_T25 q0 x17_3).f0), .int .i64 ((rd_T25 q0 x17_3).f1), .int .i64 ((rd_T25 q0 x17_3).f2), .int .i64 ((rd_T25 q0 x17_3).f3), .int .i64 0, .int .i64 0]), (5, 134, .agg #[.int .i64 qx, .int .i64 qy]), (6, 135, .tuple #[.agg #[.int .i64 g1, .int .i64 g5], .int .i64 g6]), (7, 128, .tuple #[.agg #[.int .i64 g1, .int .i64 g5], .int .i64 g6]), (8, 136, .agg #[.int .i64 g1, .int .i64 g5]), (9, 137, .int .i64 g6), (10, 22, qe), (12, 23, .int .i64 g6)] ∧ (Kd.R k25 25 w' w.heap.size (fun k_ => k_ ≠ qs) (.slice (some qj) q0.length gF) q0) ∧ (w'.heap[jV]? = some (.cells #[.int .i64 a0_0, .int .i64 a0_1, .int .i64 a0_2] 23 (0, 0))) ∧ (w'.heap[qq]? = some (.cells #[.int .i64 a1_0, .int .i64 a1_1, .int .i64 a1_2, .int .i64 a1_3, .int .i64 a1_4, .int .i64 a1_5, .int .i64 a1_6, .int .i64 a1_7] 39 (0, 0))) ∧ (w'.heap[qs]? = some (.cells #[.int .i64 a2_0, .int .i64 a2_1, .int .i64 a2_2, .int .i64 a2_3] 25 (0, 0))) ∧ (w'.heap[qf]? = some (.cells #[.int .i64 qt, .int .i64 qv] 37 (0, 0))) ∧ (w'.heap[qg]? = some (.cells #[.int .i64 qu, .int .i64 qw] 37 (0, 0))) ∧ (w'.heap[qh]? = some (.cells #[.int .i64 qx, .int .i64 qy] 37 (0, 0))) ∧ (w'.heap[qm]? = some (.cells #[.int .i64 jT, .int .i64 jW] 37 (0, 0))) ∧ (w'.heap[qn]? = some (.cells #[.int .i64 jX, .int .i64 jZ] 37 (0, 0))) ∧ (Below w.heap.size w w') ∧ (b 10 = true → b 11 = false → w'.heap[qp]? = some (.cells #[.int .i64 0, .int .i64 0] 37 (0, 0))) ∧ (b 10 = true → w.heap.size ≤ qp) ∧ (b 10 = true → w.heap.size ≤ qp) ∧ (b 10 = true → jV ≠ qp) ∧ (b 10 = true → qp ≠ jV) ∧ (b 10 = true → qq ≠ qp) ∧ (b 10 = true → qp ≠ qq) ∧ (b 10 = true → qs ≠ qp) ∧ (b 10 = true → qp ≠ qs) ∧ (b 10 = true → qf ≠ qp) ∧ (b 10 = true → qp ≠ qf) ∧ (b 10 = true → qg ≠ qp) ∧ (b 10 = true → qp ≠ qg) ∧ (b 10 = true → qh ≠ qp) ∧ (b 10 = true → qp ≠ qh) ∧ (b 10 = true → qm ≠ qp) ∧ (b 10 = true → qp ≠ qm) ∧ (b 10 = true → qn ≠ qp) ∧ (b 10 = true → qp ≠ qn) ∧ (b 11 = true → w'.heap[qp]? = some (.cells #[.int .i64 g1, .int .i64 g5] 37 (0, 0))) ∧ (b 10 = true → (qe : Value) = .pointer (some ⟨qp, 0, none⟩))) HT_.out HW_.out (by kernel_rfl) (by kernel_rfl) ?_ ?_ ?_
              ·exact ⟨0, .bool false, by simp only [putSel, Bool.false_eq_true, if_false], HO_7.out, q3.out, q2.out, q4.out, q5.out, q6.out, q7.out, qi.out, ql.out, HB.out, fun h_ => absurd h_ (by decide), fun h_ => absurd h_ (by decide), fun h_ => absurd h_ (by decide), fun h_ => absurd h_ (by decide), fun h_ => absurd h_ (by decide), fun h_ => absurd h_ (by decide), fun h_ => absurd h_ (by decide), fun h_ => absurd h_ (by decide), fun h_ => absurd h_ (by decide), fun h_ => absurd h_ (by decide), fun h_ => absurd h_ (by decide), fun h_ => absurd h_ (by decide), fun h_ => absurd h_ (by decide), fun h_ => absurd h_ (by decide), fun h_ => absurd h_ (by decide), fun h_ => absurd h_ (by decide), fun h_ => absurd h_ (by decide), fun h_ => absurd h_ (by decide), fun h_ => absurd h_ (by decide), fun h_ => absurd h_ (by decide), fun h_ => absurd h_ (by decide)⟩
              ·skip
               clear q3 q2 q4 q5 q6 q7 qi ql HB HO_7
               refine steps_cons ?_ ?_
               ·as_aux_lemma =>
                rintro b a w' ⟨qp, qe, ha, Q_HO_7, q8, q9, qa, qd, qc, qb, qk, qo, Q_HB, jY, j6, j3, j9, jL, jc, jM, jf, jN, jk, jO, jp, jP, ju, jQ, jC, jR, jK, jS, gf, Q_X10_⟩ hb_ hon hoff
                refine ⟨_, rfl, fun K hK => ?_⟩
                have q4M : a.tmps[129]? = some (.slice (some qj) q0.length gF) := by rw [ha]; exact (putSel_off rfl).trans rfl
                have q4N : a.tmps[130]? = some (.int .i64 x17_3) := by rw [ha]; exact (putSel_off rfl).trans rfl
                replace ha := Aside0.mk ha
                have HO_7 := Aside0.mk Q_HO_7
                have q3 := Aside0.mk q8
                have q2 := Aside0.mk q9
                have q4 := Aside0.mk qa
                have q5 := Aside0.mk qd
                have q6 := Aside0.mk qc
                have q7 := Aside0.mk qb
                have qi := Aside0.mk qk
                have ql := Aside0.mk qo
                have HB := Aside0.mk Q_HB
                refine value_ (w1 := w') (v := .pointer (some (qj.add ((x17_3).toNat * 4)))) (by rfl) rfl ?_ ?_
                ·go_simp
                 (try simp only [i64_w])
                 try rfl
                refine hK.out _ _ ⟨qp, qe, (by rw [ha.out]; exact putSel_upk 0 hb_ rfl rfl rfl), Q_HO_7, q8, q9, qa, qd, qc, qb, qk, qo, Q_HB, jY, j6, j3, j9, jL, jc, jM, jf, jN, jk, jO, jp, jP, ju, jQ, jC, jR, jK, jS, fun h0_ => absurd ((hoff 11 (by kernel_rfl)).symm.trans h0_) (by decide), Q_X10_⟩
               refine steps_cons ?_ ?_
               ·as_aux_lemma =>
                rintro b a w' ⟨qp, qe, ha, Q_HO_7, q8, q9, qa, qd, qc, qb, qk, qo, Q_HB, jY, j6, j3, j9, jL, jc, jM, jf, jN, jk, jO, jp, jP, ju, jQ, jC, jR, jK, jS, gf, Q_X10_⟩ hb_ hon hoff
                refine ⟨_, rfl, fun K hK => ?_⟩
                have q4O : a.tmps[131]? = some (.pointer (some (qj.add ((x17_3).toNat * 4)))) := by rw [ha]; exact putSel_on (e := (2, 131, .pointer (some (qj.add ((x17_3).toNat * 4))))) 0 rfl rfl (hon 2 (by kernel_rfl)) rfl
                replace ha := Aside0.mk ha
                have HO_7 := Aside0.mk Q_HO_7
                have q3 := Aside0.mk q8
                have q2 := Aside0.mk q9
                have q4 := Aside0.mk qa
                have q5 := Aside0.mk qd
                have q6 := Aside0.mk qc
                have q7 := Aside0.mk qb
                have qi := Aside0.mk qk
                have ql := Aside0.mk qo
                have HB := Aside0.mk Q_HB
                obtain ⟨ad1061_z, e1061_z, hx1061_0_z, hx1061_1_z, hx1061_2_z, hx1061_3_z⟩ := at_T25 (Kd.R_reads' HO_7.out).2.2 x17_3 (of_eq_true Gg) (of_eq_true Gj)
                cases e1061_z
                have q1Z : w'.cell? (qj.add ((x17_3).toNat * 4)) = some (.int .i64 ((rd_T25 q0 x17_3).f0)) := (by first | exact hx1061_0_z | (have h_ := hx1061_0_z; (try simp only [Int.reduceToNat, Nat.zero_mul, Nat.reduceMul, Nat.reduceEqDiff, Go.Addr.add, ↓reduceIte, Addr.add_zero'] at h_); exact h_))
                have q20 : w'.cell? ⟨(qj.add ((x17_3).toNat * 4)).block, (qj.add ((x17_3).toNat * 4)).off + 1, none⟩ = some (.int .i64 ((rd_T25 q0 x17_3).f1)) := (by first | exact hx1061_1_z | (have h_ := hx1061_1_z; (try simp only [Int.reduceToNat, Nat.zero_mul, Nat.reduceMul, Nat.reduceEqDiff, Go.Addr.add, ↓reduceIte, Addr.add_zero'] at h_); exact h_))
                have q21 : w'.cell? ⟨(qj.add ((x17_3).toNat * 4)).block, (qj.add ((x17_3).toNat * 4)).off + 2, none⟩ = some (.int .i64 ((rd_T25 q0 x17_3).f2)) := (by first | exact hx1061_2_z | (have h_ := hx1061_2_z; (try simp only [Int.reduceToNat, Nat.zero_mul, Nat.reduceMul, Nat.reduceEqDiff, Go.Addr.add, ↓reduceIte, Addr.add_zero'] at h_); exact h_))
                have q22 : w'.cell? ⟨(qj.add ((x17_3).toNat * 4)).block, (qj.add ((x17_3).toNat * 4)).off + 3, none⟩ = some (.int .i64 ((rd_T25 q0 x17_3).f3)) := (by first | exact hx1061_3_z | (have h_ := hx1061_3_z; (try simp only [Int.reduceToNat, Nat.zero_mul, Nat.reduceMul, Nat.reduceEqDiff, Go.Addr.add, ↓reduceIte, Addr.add_zero'] at h_); exact h_))
                refine value_ (w1 := w') (v := .agg #[.int .i64 ((rd_T25 q0 x17_3).f0), .int .i64 ((rd_T25 q0 x17_3).f1), .int .i64 ((rd_T25 q0 x17_3).f2), .int .i64 ((rd_T25 q0 x17_3).f3)]) (by rfl) rfl ?_ ?_
                ·go_simp
                 (try simp only [i64_w])
                 try rfl
                refine hK.out _ _ ⟨qp, qe, (by rw [ha.out]; exact putSel_upk 1 hb_ rfl rfl rfl), Q_HO_7, q8, q9, qa, qd, qc, qb, qk, qo, Q_HB, jY, j6, j3, j9, jL, jc, jM, jf, jN, jk, jO, jp, jP, ju, jQ, jC, jR, jK, jS, fun h0_ => absurd ((hoff 11 (by kernel_rfl)).symm.trans h0_) (by decide), Q_X10_⟩
               refine steps_cons ?_ ?_
               ·as_aux_lemma =>
                rintro b a w' ⟨qp, qe, ha, Q_HO_7, q8, q9, qa, qd, qc, qb, qk, qo, Q_HB, jY, j6, j3, j9, jL, jc, jM, jf, jN, jk, jO, jp, jP, ju, jQ, jC, jR, jK, jS, gf, Q_X10_⟩ hb_ hon hoff
                refine ⟨_, rfl, fun K hK => ?_⟩
                have q4P : a.tmps[132]? = some (.agg #[.int .i64 ((rd_T25 q0 x17_3).f0), .int .i64 ((rd_T25 q0 x17_3).f1), .int .i64 ((rd_T25 q0 x17_3).f2), .int .i64 ((rd_T25 q0 x17_3).f3)]) := by rw [ha]; exact putSel_on (e := (3, 132, .agg #[.int .i64 ((rd_T25 q0 x17_3).f0), .int .i64 ((rd_T25 q0 x17_3).f1), .int .i64 ((rd_T25 q0 x17_3).f2), .int .i64 ((rd_T25 q0 x17_3).f3)])) 1 rfl rfl (hon 3 (by kernel_rfl)) rfl
                replace ha := Aside0.mk ha
                have HO_7 := Aside0.mk Q_HO_7
                have q3 := Aside0.mk q8
                have q2 := Aside0.mk q9
                have q4 := Aside0.mk qa
                have q5 := Aside0.mk qd
                have q6 := Aside0.mk qc
                have q7 := Aside0.mk qb
                have qi := Aside0.mk qk
                have ql := Aside0.mk qo
                have HB := Aside0.mk Q_HB
                refine value_ (w1 := w') (v := .agg #[.int .i64 ((rd_T25 q0 x17_3).f0), .int .i64 ((rd_T25 q0 x17_3).f1), .int .i64 ((rd_T25 q0 x17_3).f2), .int .i64 ((rd_T25 q0 x17_3).f3), .int .i64 0, .int .i64 0]) (by rfl) rfl ?_ ?_
                ·go_simp
                 (try simp only [i64_w])
                 try rfl
                refine hK.out _ _ ⟨qp, qe, (by rw [ha.out]; exact putSel_upk 2 hb_ rfl rfl rfl), Q_HO_7, q8, q9, qa, qd, qc, qb, qk, qo, Q_HB, jY, j6, j3, j9, jL, jc, jM, jf, jN, jk, jO, jp, jP, ju, jQ, jC, jR, jK, jS, fun h0_ => absurd ((hoff 11 (by kernel_rfl)).symm.trans h0_) (by decide), Q_X10_⟩
               refine steps_cons ?_ ?_
               ·as_aux_lemma =>
                rintro b a w' ⟨qp, qe, ha, Q_HO_7, q8, q9, qa, qd, qc, qb, qk, qo, Q_HB, jY, j6, j3, j9, jL, jc, jM, jf, jN, jk, jO, jp, jP, ju, jQ, jC, jR, jK, jS, gf, Q_X10_⟩ hb_ hon hoff
                refine ⟨_, rfl, fun K hK => ?_⟩
                have e12 : a.tmps[12]? = some (.pointer (some ⟨qh, 0, none⟩)) := by rw [ha]; exact (putSel_off rfl).trans rfl
                replace ha := Aside0.mk ha
                have HO_7 := Aside0.mk Q_HO_7
                have q3 := Aside0.mk q8
                have q2 := Aside0.mk q9
                have q4 := Aside0.mk qa
                have q5 := Aside0.mk qd
                have q6 := Aside0.mk qc
                have q7 := Aside0.mk qb
                have qi := Aside0.mk qk
                have ql := Aside0.mk qo
                have HB := Aside0.mk Q_HB
                have hc0_ : w'.cell? ⟨qh, 0, none⟩ = some (.int .i64 qx) := (blk_cell q7.out 0).trans rfl
                have hc1_ : w'.cell? ⟨qh, 1, none⟩ = some (.int .i64 qy) := (blk_cell q7.out 1).trans rfl
                refine value_ (w1 := w') (v := .agg #[.int .i64 qx, .int .i64 qy]) (by rfl) rfl ?_ ?_
                ·go_simp
                 (try simp only [i64_w])
                 try rfl
                refine hK.out _ _ ⟨qp, qe, (by rw [ha.out]; exact putSel_upk 3 hb_ rfl rfl rfl), Q_HO_7, q8, q9, qa, qd, qc, qb, qk, qo, Q_HB, jY, j6, j3, j9, jL, jc, jM, jf, jN, jk, jO, jp, jP, ju, jQ, jC, jR, jK, jS, fun h0_ => absurd ((hoff 11 (by kernel_rfl)).symm.trans h0_) (by decide), Q_X10_⟩
               refine steps_cons ?_ ?_
               ·as_aux_lemma =>
                rintro b a w' ⟨qp, qe, ha, Q_HO_7, q8, q9, qa, qd, qc, qb, qk, qo, Q_HB, jY, j6, j3, j9, jL, jc, jM, jf, jN, jk, jO, jp, jP, ju, jQ, jC, jR, jK, jS, gf, Q_X10_⟩ hb_ hon hoff
                refine ⟨_, rfl, fun K hK => ?_⟩
                have q0I : a.tmps[133]? = some (.agg #[.int .i64 ((rd_T25 q0 x17_3).f0), .int .i64 ((rd_T25 q0 x17_3).f1), .int .i64 ((rd_T25 q0 x17_3).f2), .int .i64 ((rd_T25 q0 x17_3).f3), .int .i64 0, .int .i64 0]) := by rw [ha]; exact putSel_on (e := (4, 133, .agg #[.int .i64 ((rd_T25 q0 x17_3).f0), .int .i64 ((rd_T25 q0 x17_3).f1), .int .i64 ((rd_T25 q0 x17_3).f2), .int .i64 ((rd_T25 q0 x17_3).f3), .int .i64 0, .int .i64 0])) 2 rfl rfl (hon 4 (by kernel_rfl)) rfl
                have q0J : a.tmps[134]? = some (.agg #[.int .i64 qx, .int .i64 qy]) := by rw [ha]; exact putSel_on (e := (5, 134, .agg #[.int .i64 qx, .int .i64 qy])) 3 rfl rfl (hon 5 (by kernel_rfl)) rfl
                replace ha := Aside0.mk ha
                have HO_7 := Aside0.mk Q_HO_7
                have q3 := Aside0.mk q8
                have q2 := Aside0.mk q9
                have q4 := Aside0.mk qa
                have q5 := Aside0.mk qd
                have q6 := Aside0.mk qc
                have q7 := Aside0.mk qb
                have qi := Aside0.mk qk
                have ql := Aside0.mk qo
                have HB := Aside0.mk Q_HB
                refine goes_ Try.func27 (by kernel_rfl) rfl #[.agg #[.int .i64 ((rd_T25 q0 x17_3).f0), .int .i64 ((rd_T25 q0 x17_3).f1), .int .i64 ((rd_T25 q0 x17_3).f2), .int .i64 ((rd_T25 q0 x17_3).f3), .int .i64 0, .int .i64 0], .agg #[.int .i64 qx, .int .i64 qy]] (by rfl) rfl rfl (by first | (simp only [List.map_toArray, List.map_cons, List.map_nil, Act.eval, Array.getD_eq_getD_getElem?, Option.getD_some, q0I, q0J]; done) | (simp only [List.map_toArray, List.map_cons, List.map_nil, Act.eval, Array.getD_eq_getD_getElem?, Option.getD_some, q0I, q0J]; rfl)) ?_
                with_reducible refine (grids_Apply.calls k3 ((rd_T25 q0 x17_3).f0) ((rd_T25 q0 x17_3).f1) ((rd_T25 q0 x17_3).f2) ((rd_T25 q0 x17_3).f3) 0 0 qx qy g1 g5 g6 _ A70.out).mono ?_
                rintro e w92 ⟨rfl, hb⟩
                refine ⟨_, rfl, ?_⟩
                have n0_ := Aside0.mk (Kd.R_below (by (with_reducible repeat (first | apply Kd.R_alloc | apply Kd.R_drewN | apply Kd.R_drew)); exact HO_7.out) hb)
                have n1_ := bb q3 hb
                have n2_ := bb q2 hb
                have n3_ := bb q4 hb
                have n4_ := bb q5 hb
                have n5_ := bb q6 hb
                have n6_ := bb q7 hb
                have n7_ := bb qi hb
                have n8_ := bb ql hb
                have n9_ := bst HB hb
                have q4e := fun (h0_ : b 10 = true) (h1_ : b 11 = false) => (show w92.heap[qp]? = some (.cells #[.int .i64 0, .int .i64 0] 37 (0, 0)) from by first | exact (blk_below (g := qp) (o := .cells #[.int .i64 0, .int .i64 0] 37 (0, 0)) (by (with_reducible repeat (first | refine blk_drewN ?_ _ | refine blk_drew ?_ | refine blk_alloc ?_ _)); exact (jY h0_ h1_)) hb))
                clear HO_7
                clear q3
                clear q2
                clear q4
                clear q5
                clear q6
                clear q7
                clear qi
                clear ql
                clear HB
                have HO_7 := n0_
                have q3 := n1_
                have q2 := n2_
                have q4 := n3_
                have q5 := n4_
                have q6 := n5_
                have q7 := n6_
                have qi := n7_
                have ql := n8_
                have HB := n9_
                clear n0_ n1_ n2_ n3_ n4_ n5_ n6_ n7_ n8_ n9_
                (try clear hb)
                (try clear hb2)
                (try clear hk)
                (try clear hi)
                refine hK.out _ _ ⟨qp, qe, (by rw [ha.out]; exact putSel_upk 4 hb_ rfl rfl rfl), (by (with_reducible repeat (first | apply Kd.R_alloc | apply Kd.R_drewN | apply Kd.R_drew)); exact HO_7.out), (pk q3), (pk q2), (pk q4), (pk q5), (pk q6), (pk q7), (pk qi), (pk ql), (bnow HB), q4e, j6, j3, j9, jL, jc, jM, jf, jN, jk, jO, jp, jP, ju, jQ, jC, jR, jK, jS, fun h0_ => absurd ((hoff 11 (by kernel_rfl)).symm.trans h0_) (by decide), Q_X10_⟩
               refine steps_cons ?_ ?_
               ·as_aux_lemma =>
                rintro b a w' ⟨qp, qe, ha, Q_HO_7, q8, q9, qa, qd, qc, qb, qk, qo, Q_HB, jY, j6, j3, j9, jL, jc, jM, jf, jN, jk, jO, jp, jP, ju, jQ, jC, jR, jK, jS, gf, Q_X10_⟩ hb_ hon hoff
                refine ⟨_, rfl, fun K hK => ?_⟩
                have q4Q : a.tmps[135]? = some (.tuple #[.agg #[.int .i64 g1, .int .i64 g5], .int .i64 g6]) := by rw [ha]; exact putSel_on (e := (6, 135, .tuple #[.agg #[.int .i64 g1, .int .i64 g5], .int .i64 g6])) 4 rfl rfl (hon 6 (by kernel_rfl)) rfl
                replace ha := Aside0.mk ha
                have HO_7 := Aside0.mk Q_HO_7
                have q3 := Aside0.mk q8
                have q2 := Aside0.mk q9
                have q4 := Aside0.mk qa
                have q5 := Aside0.mk qd
                have q6 := Aside0.mk qc
                have q7 := Aside0.mk qb
                have qi := Aside0.mk qk
                have ql := Aside0.mk qo
                have HB := Aside0.mk Q_HB
                refine value_ (w1 := w') (v := .tuple #[.agg #[.int .i64 g1, .int .i64 g5], .int .i64 g6]) (by rfl) rfl ?_ ?_
                ·go_simp
                 (try simp only [i64_w])
                 try rfl
                refine hK.out _ _ ⟨qp, qe, (by rw [ha.out]; exact putSel_upk 5 hb_ rfl rfl rfl), Q_HO_7, q8, q9, qa, qd, qc, qb, qk, qo, Q_HB, jY, j6, j3, j9, jL, jc, jM, jf, jN, jk, jO, jp, jP, ju, jQ, jC, jR, jK, jS, fun h0_ => absurd ((hoff 11 (by kernel_rfl)).symm.trans h0_) (by decide), Q_X10_⟩
               refine steps_cons ?_ ?_
               ·as_aux_lemma =>
                rintro b a w' ⟨qp, qe, ha, Q_HO_7, q8, q9, qa, qd, qc, qb, qk, qo, Q_HB, jY, j6, j3, j9, jL, jc, jM, jf, jN, jk, jO, jp, jP, ju, jQ, jC, jR, jK, jS, gf, Q_X10_⟩ hb_ hon hoff
                refine ⟨_, rfl, fun K hK => ?_⟩
                have q3M : a.tmps[128]? = some (.tuple #[.agg #[.int .i64 g1, .int .i64 g5], .int .i64 g6]) := by rw [ha]; exact putSel_on (e := (7, 128, .tuple #[.agg #[.int .i64 g1, .int .i64 g5], .int .i64 g6])) 5 rfl rfl (hon 7 (by kernel_rfl)) rfl
                replace ha := Aside0.mk ha
                have HO_7 := Aside0.mk Q_HO_7
                have q3 := Aside0.mk q8
                have q2 := Aside0.mk q9
                have q4 := Aside0.mk qa
                have q5 := Aside0.mk qd
                have q6 := Aside0.mk qc
                have q7 := Aside0.mk qb
                have qi := Aside0.mk qk
                have ql := Aside0.mk qo
                have HB := Aside0.mk Q_HB
                refine value_ (w1 := w') (v := .agg #[.int .i64 g1, .int .i64 g5]) (by rfl) rfl ?_ ?_
                ·go_simp
                 (try simp only [i64_w])
                 try rfl
                refine hK.out _ _ ⟨qp, qe, (by rw [ha.out]; exact putSel_upk 6 hb_ rfl rfl rfl), Q_HO_7, q8, q9, qa, qd, qc, qb, qk, qo, Q_HB, jY, j6, j3, j9, jL, jc, jM, jf, jN, jk, jO, jp, jP, ju, jQ, jC, jR, jK, jS, fun h0_ => absurd ((hoff 11 (by kernel_rfl)).symm.trans h0_) (by decide), Q_X10_⟩
               refine steps_cons ?_ ?_
               ·as_aux_lemma =>
                rintro b a w' ⟨qp, qe, ha, Q_HO_7, q8, q9, qa, qd, qc, qb, qk, qo, Q_HB, jY, j6, j3, j9, jL, jc, jM, jf, jN, jk, jO, jp, jP, ju, jQ, jC, jR, jK, jS, gf, Q_X10_⟩ hb_ hon hoff
                refine ⟨_, rfl, fun K hK => ?_⟩
                have q3M : a.tmps[128]? = some (.tuple #[.agg #[.int .i64 g1, .int .i64 g5], .int .i64 g6]) := by rw [ha]; exact putSel_on (e := (7, 128, .tuple #[.agg #[.int .i64 g1, .int .i64 g5], .int .i64 g6])) 5 rfl rfl (hon 7 (by kernel_rfl)) rfl
                replace ha := Aside0.mk ha
                have HO_7 := Aside0.mk Q_HO_7
                have q3 := Aside0.mk q8
                have q2 := Aside0.mk q9
                have q4 := Aside0.mk qa
                have q5 := Aside0.mk qd
                have q6 := Aside0.mk qc
                have q7 := Aside0.mk qb
                have qi := Aside0.mk qk
                have ql := Aside0.mk qo
                have HB := Aside0.mk Q_HB
                refine value_ (w1 := w') (v := .int .i64 g6) (by rfl) rfl ?_ ?_
                ·go_simp
                 (try simp only [i64_w])
                 try rfl
                refine hK.out _ _ ⟨qp, qe, (by rw [ha.out]; exact putSel_upk 7 hb_ rfl rfl rfl), Q_HO_7, q8, q9, qa, qd, qc, qb, qk, qo, Q_HB, jY, j6, j3, j9, jL, jc, jM, jf, jN, jk, jO, jp, jP, ju, jQ, jC, jR, jK, jS, gf, Q_X10_⟩
               refine steps_cons ?_ ?_
               ·as_aux_lemma =>
                rintro b a w' ⟨qp, qe, ha, Q_HO_7, q8, q9, qa, qd, qc, qb, qk, qo, Q_HB, jY, j6, j3, j9, jL, jc, jM, jf, jN, jk, jO, jp, jP, ju, jQ, jC, jR, jK, jS, gf, Q_X10_⟩ hb_ hon hoff
                refine ⟨_, rfl, fun K hK => ?_⟩
                replace ha := Aside0.mk ha
                have HO_7 := Aside0.mk Q_HO_7
                have q3 := Aside0.mk q8
                have q2 := Aside0.mk q9
                have q4 := Aside0.mk qa
                have q5 := Aside0.mk qd
                have q6 := Aside0.mk qc
                have q7 := Aside0.mk qb
                have qi := Aside0.mk qk
                have ql := Aside0.mk qo
                have HB := Aside0.mk Q_HB
                refine box_step ?hg (N := 22) ?hd (cs := #[.int .i64 0, .int .i64 0]) (t := 37) ?hr ?_; (case hd => rfl); (case hg => rfl); (case hr => first | (go_simp; done) | (go_simp; rfl))
                intro qp hg w92 hbox hb
                have n0_ := Aside0.mk (Kd.R_below (by (with_reducible repeat (first | apply Kd.R_alloc | apply Kd.R_drewN | apply Kd.R_drew)); exact HO_7.out) hb)
                have n1_ := bb q3 hb
                have n2_ := bb q2 hb
                have n3_ := bb q4 hb
                have n4_ := bb q5 hb
                have n5_ := bb q6 hb
                have n6_ := bb q7 hb
                have n7_ := bb qi hb
                have n8_ := bb ql hb
                have n9_ := bst HB hb
                have qB := Aside0.mk (hbox)
                have qC := gw hg HB
                have g8 := gw hg HB
                have g9 := nlt hg q3
                have QH := ngt hg q3
                have QI := nlt hg q2
                have QJ := ngt hg q2
                have QK := nlt hg q4
                have QL := ngt hg q4
                have QM := nlt hg q5
                have QN := ngt hg q5
                have QO := nlt hg q6
                have QP := ngt hg q6
                have Jz := nlt hg q7
                have JA := ngt hg q7
                have JB := nlt hg qi
                have q2f := ngt hg qi
                have q2g := nlt hg ql
                have q2h := ngt hg ql
                clear HO_7
                clear q3
                clear q2
                clear q4
                clear q5
                clear q6
                clear q7
                clear qi
                clear ql
                clear HB
                have HO_7 := n0_
                have q3 := n1_
                have q2 := n2_
                have q4 := n3_
                have q5 := n4_
                have q6 := n5_
                have q7 := n6_
                have qi := n7_
                have ql := n8_
                have HB := n9_
                have qr := qB
                have Jr := qC
                have Jo := g8
                have gS := g9
                have Qz := QH
                have gV := QI
                have QA := QJ
                have gY := QK
                have QB := QL
                have Q1 := QM
                have QC := QN
                have Q4 := QO
                have QD := QP
                have Q7 := Jz
                have QE := JA
                have Q9 := JB
                have QF := q2f
                have Qa := q2g
                have QG := q2h
                clear n0_ n1_ n2_ n3_ n4_ n5_ n6_ n7_ n8_ n9_ qB qC g8 g9 QH QI QJ QK QL QM QN QO QP Jz JA JB q2f q2g q2h
                clear hb hg
                refine hK.out _ _ ⟨qp, (.pointer (some ⟨qp, 0, none⟩)), (by rw [ha.out]; exact putSel_upk 8 hb_ rfl rfl rfl), (by (with_reducible repeat (first | apply Kd.R_alloc | apply Kd.R_drewN | apply Kd.R_drew)); exact HO_7.out), (pk q3), (pk q2), (pk q4), (pk q5), (pk q6), (pk q7), (pk qi), (pk ql), (bnow HB), fun _ _ => (pk qr), fun _ => Jr.out, fun _ => Jo.out, fun _ => gS.out, fun _ => Qz.out, fun _ => gV.out, fun _ => QA.out, fun _ => gY.out, fun _ => QB.out, fun _ => Q1.out, fun _ => QC.out, fun _ => Q4.out, fun _ => QD.out, fun _ => Q7.out, fun _ => QE.out, fun _ => Q9.out, fun _ => QF.out, fun _ => Qa.out, fun _ => QG.out, fun h0_ => absurd ((hoff 11 (by kernel_rfl)).symm.trans h0_) (by decide), fun _ => rfl⟩
               refine steps_cons ?_ ?_
               ·as_aux_lemma =>
                rintro b a w' ⟨qp, qe, ha, Q_HO_7, q8, q9, qa, qd, qc, qb, qk, qo, Q_HB, jY, j6, j3, j9, jL, jc, jM, jf, jN, jk, jO, jp, jP, ju, jQ, jC, jR, jK, jS, gf, Q_X10_⟩ hb_ hon hoff
                refine ⟨_, rfl, fun K hK => ?_⟩
                have e22 : a.tmps[22]? = some (qe) := by rw [ha]; exact putSel_on (e := (10, 22, qe)) 8 rfl rfl (hon 10 (by kernel_rfl)) rfl
                rw [Q_X10_ (hon 10 (by kernel_rfl))] at e22
                have q4R : a.tmps[136]? = some (.agg #[.int .i64 g1, .int .i64 g5]) := by rw [ha]; exact putSel_on (e := (8, 136, .agg #[.int .i64 g1, .int .i64 g5])) 6 rfl rfl (hon 8 (by kernel_rfl)) rfl
                replace ha := Aside0.mk ha
                have HO_7 := Aside0.mk Q_HO_7
                have q3 := Aside0.mk q8
                have q2 := Aside0.mk q9
                have q4 := Aside0.mk qa
                have q5 := Aside0.mk qd
                have q6 := Aside0.mk qc
                have q7 := Aside0.mk qb
                have qi := Aside0.mk qk
                have ql := Aside0.mk qo
                have HB := Aside0.mk Q_HB
                have qr := Aside0.mk (jY (hon 10 (by kernel_rfl)) hb_)
                have Jr := Aside0.mk (j6 (hon 10 (by kernel_rfl)))
                have Jo := Aside0.mk (j3 (hon 10 (by kernel_rfl)))
                have gS := Aside0.mk (j9 (hon 10 (by kernel_rfl)))
                have Qz := Aside0.mk (jL (hon 10 (by kernel_rfl)))
                have gV := Aside0.mk (jc (hon 10 (by kernel_rfl)))
                have QA := Aside0.mk (jM (hon 10 (by kernel_rfl)))
                have gY := Aside0.mk (jf (hon 10 (by kernel_rfl)))
                have QB := Aside0.mk (jN (hon 10 (by kernel_rfl)))
                have Q1 := Aside0.mk (jk (hon 10 (by kernel_rfl)))
                have QC := Aside0.mk (jO (hon 10 (by kernel_rfl)))
                have Q4 := Aside0.mk (jp (hon 10 (by kernel_rfl)))
                have QD := Aside0.mk (jP (hon 10 (by kernel_rfl)))
                have Q7 := Aside0.mk (ju (hon 10 (by kernel_rfl)))
                have QE := Aside0.mk (jQ (hon 10 (by kernel_rfl)))
                have Q9 := Aside0.mk (jC (hon 10 (by kernel_rfl)))
                have QF := Aside0.mk (jR (hon 10 (by kernel_rfl)))
                have Qa := Aside0.mk (jK (hon 10 (by kernel_rfl)))
                have QG := Aside0.mk (jS (hon 10 (by kernel_rfl)))
                have qbb : w'.cell? ⟨qp, 0, none⟩ = some (.int .i64 0) := (blk_cell qr.out 0).trans rfl
                have q5z := blk_frozen qr.out 0
                have qaL := gS.out
                have qaM := gV.out
                have qaN := gY.out
                have qaO := Q1.out
                have qaP := Q4.out
                have qaQ := Q7.out
                have qaR := Q9.out
                have qaS := Qa.out
                have q71 := Qz.out
                have q72 := QA.out
                have q73 := QB.out
                have q74 := QC.out
                have q75 := QD.out
                have q76 := QE.out
                have q77 := QF.out
                have q78 := QG.out
                have qbc : w'.cell? ⟨qp, 1, none⟩ = some (.int .i64 0) := (blk_cell qr.out 1).trans rfl
                have q5A := blk_frozen qr.out 1
                have qaT := gS.out
                have qaU := gV.out
                have qaV := gY.out
                have qaW := Q1.out
                have qaX := Q4.out
                have qaY := Q7.out
                have qaZ := Q9.out
                have qb0 := Qa.out
                have q79 := Qz.out
                have q7a := QA.out
                have q7b := QB.out
                have q7c := QC.out
                have q7d := QD.out
                have q7e := QE.out
                have q7f := QF.out
                have q7g := QG.out
                refine skip_ (w1 := ?_) (by rfl) rfl ?_ ?_
                rotate_left
                ·go_simp
                 rfl
                refine hK.out _ _ ⟨qp, qe, (by rw [ha.out]; exact putSel_none (v := undef) rfl), (by (with_reducible repeat (first | apply Kd.R_alloc | apply Kd.R_drewN | apply Kd.R_drew)); exact Kd.R_mono (Kd.R_far (p := ⟨qp, 1, none⟩) (Kd.R_far (p := ⟨qp, 0, none⟩) (Kd.R_types HO_7.out qr.out (by decide)) (fun _ hk => hk.2) (.int .i64 g1)) (fun _ hk => hk.2) (.int .i64 g5)) (fun _ hk => hk.1)), (by (with_reducible repeat (first | refine blk_drewN ?_ _ | refine blk_drew ?_ | refine blk_alloc ?_ _)); refine blk_far ?_ gS.out _; (with_reducible repeat (first | refine blk_drewN ?_ _ | refine blk_drew ?_ | refine blk_alloc ?_ _)); refine blk_far ?_ gS.out _; (with_reducible repeat (first | refine blk_drewN ?_ _ | refine blk_drew ?_ | refine blk_alloc ?_ _)); exact q3.out), (by (with_reducible repeat (first | refine blk_drewN ?_ _ | refine blk_drew ?_ | refine blk_alloc ?_ _)); refine blk_far ?_ gV.out _; (with_reducible repeat (first | refine blk_drewN ?_ _ | refine blk_drew ?_ | refine blk_alloc ?_ _)); refine blk_far ?_ gV.out _; (with_reducible repeat (first | refine blk_drewN ?_ _ | refine blk_drew ?_ | refine blk_alloc ?_ _)); exact q2.out), (by (with_reducible repeat (first | refine blk_drewN ?_ _ | refine blk_drew ?_ | refine blk_alloc ?_ _)); refine blk_far ?_ gY.out _; (with_reducible repeat (first | refine blk_drewN ?_ _ | refine blk_drew ?_ | refine blk_alloc ?_ _)); refine blk_far ?_ gY.out _; (with_reducible repeat (first | refine blk_drewN ?_ _ | refine blk_drew ?_ | refine blk_alloc ?_ _)); exact q4.out), (by (with_reducible repeat (first | refine blk_drewN ?_ _ | refine blk_drew ?_ | refine blk_alloc ?_ _)); refine blk_far ?_ Q1.out _; (with_reducible repeat (first | refine blk_drewN ?_ _ | refine blk_drew ?_ | refine blk_alloc ?_ _)); refine blk_far ?_ Q1.out _; (with_reducible repeat (first | refine blk_drewN ?_ _ | refine blk_drew ?_ | refine blk_alloc ?_ _)); exact q5.out), (by (with_reducible repeat (first | refine blk_drewN ?_ _ | refine blk_drew ?_ | refine blk_alloc ?_ _)); refine blk_far ?_ Q4.out _; (with_reducible repeat (first | refine blk_drewN ?_ _ | refine blk_drew ?_ | refine blk_alloc ?_ _)); refine blk_far ?_ Q4.out _; (with_reducible repeat (first | refine blk_drewN ?_ _ | refine blk_drew ?_ | refine blk_alloc ?_ _)); exact q6.out), (by (with_reducible repeat (first | refine blk_drewN ?_ _ | refine blk_drew ?_ | refine blk_alloc ?_ _)); refine blk_far ?_ Q7.out _; (with_reducible repeat (first | refine blk_drewN ?_ _ | refine blk_drew ?_ | refine blk_alloc ?_ _)); refine blk_far ?_ Q7.out _; (with_reducible repeat (first | refine blk_drewN ?_ _ | refine blk_drew ?_ | refine blk_alloc ?_ _)); exact q7.out), (by (with_reducible repeat (first | refine blk_drewN ?_ _ | refine blk_drew ?_ | refine blk_alloc ?_ _)); refine blk_far ?_ Q9.out _; (with_reducible repeat (first | refine blk_drewN ?_ _ | refine blk_drew ?_ | refine blk_alloc ?_ _)); refine blk_far ?_ Q9.out _; (with_reducible repeat (first | refine blk_drewN ?_ _ | refine blk_drew ?_ | refine blk_alloc ?_ _)); exact qi.out), (by (with_reducible repeat (first | refine blk_drewN ?_ _ | refine blk_drew ?_ | refine blk_alloc ?_ _)); refine blk_far ?_ Qa.out _; (with_reducible repeat (first | refine blk_drewN ?_ _ | refine blk_drew ?_ | refine blk_alloc ?_ _)); refine blk_far ?_ Qa.out _; (with_reducible repeat (first | refine blk_drewN ?_ _ | refine blk_drew ?_ | refine blk_alloc ?_ _)); exact ql.out), (bnow HB), fun _ h1_ => absurd ((up_self b 11).symm.trans h1_) (by decide), fun _ => Jr.out, fun _ => Jo.out, fun _ => gS.out, fun _ => Qz.out, fun _ => gV.out, fun _ => QA.out, fun _ => gY.out, fun _ => QB.out, fun _ => Q1.out, fun _ => QC.out, fun _ => Q4.out, fun _ => QD.out, fun _ => Q7.out, fun _ => QE.out, fun _ => Q9.out, fun _ => QF.out, fun _ => Qa.out, fun _ => QG.out, fun _ => (by (with_reducible repeat (first | refine blk_drewN ?_ _ | refine blk_drew ?_ | refine blk_alloc ?_ _)); refine blk_put (cs := #[.int .i64 g1, .int .i64 0]) ?_ 1 _ rfl; (with_reducible repeat (first | refine blk_drewN ?_ _ | refine blk_drew ?_ | refine blk_alloc ?_ _)); refine blk_put (cs := #[.int .i64 0, .int .i64 0]) ?_ 0 _ rfl; (with_reducible repeat (first | refine blk_drewN ?_ _ | refine blk_drew ?_ | refine blk_alloc ?_ _)); exact qr.out), Q_X10_⟩
               refine steps_cons ?_ ?_
               ·as_aux_lemma =>
                rintro b a w' ⟨qp, qe, ha, Q_HO_7, q8, q9, qa, qd, qc, qb, qk, qo, Q_HB, jY, j6, j3, j9, jL, jc, jM, jf, jN, jk, jO, jp, jP, ju, jQ, jC, jR, jK, jS, gf, Q_X10_⟩ hb_ hon hoff
                refine ⟨_, rfl, fun K hK => ?_⟩
                have q4S : a.tmps[137]? = some (.int .i64 g6) := by rw [ha]; exact putSel_on (e := (9, 137, .int .i64 g6)) 7 rfl rfl (hon 9 (by kernel_rfl)) rfl
                replace ha := Aside0.mk ha
                have HO_7 := Aside0.mk Q_HO_7
                have q3 := Aside0.mk q8
                have q2 := Aside0.mk q9
                have q4 := Aside0.mk qa
                have q5 := Aside0.mk qd
                have q6 := Aside0.mk qc
                have q7 := Aside0.mk qb
                have qi := Aside0.mk qk
                have ql := Aside0.mk qo
                have HB := Aside0.mk Q_HB
                have Jr := Aside0.mk (j6 (hon 10 (by kernel_rfl)))
                have Jo := Aside0.mk (j3 (hon 10 (by kernel_rfl)))
                have gS := Aside0.mk (j9 (hon 10 (by kernel_rfl)))
                have Qz := Aside0.mk (jL (hon 10 (by kernel_rfl)))
                have gV := Aside0.mk (jc (hon 10 (by kernel_rfl)))
                have QA := Aside0.mk (jM (hon 10 (by kernel_rfl)))
                have gY := Aside0.mk (jf (hon 10 (by kernel_rfl)))
                have QB := Aside0.mk (jN (hon 10 (by kernel_rfl)))
                have Q1 := Aside0.mk (jk (hon 10 (by kernel_rfl)))
                have QC := Aside0.mk (jO (hon 10 (by kernel_rfl)))
                have Q4 := Aside0.mk (jp (hon 10 (by kernel_rfl)))
                have QD := Aside0.mk (jP (hon 10 (by kernel_rfl)))
                have Q7 := Aside0.mk (ju (hon 10 (by kernel_rfl)))
                have QE := Aside0.mk (jQ (hon 10 (by kernel_rfl)))
                have Q9 := Aside0.mk (jC (hon 10 (by kernel_rfl)))
                have QF := Aside0.mk (jR (hon 10 (by kernel_rfl)))
                have Qa := Aside0.mk (jK (hon 10 (by kernel_rfl)))
                have QG := Aside0.mk (jS (hon 10 (by kernel_rfl)))
                have qr := Aside0.mk (gf (hon 11 (by kernel_rfl)))
                refine value_ (w1 := w') (v := .int .i64 g6) (by rfl) rfl ?_ ?_
                ·go_simp
                 (try simp only [i64_w])
                 try rfl
                refine hK.out _ _ ⟨qp, qe, (by rw [ha.out]; exact putSel_upk 9 hb_ rfl rfl rfl), Q_HO_7, q8, q9, qa, qd, qc, qb, qk, qo, Q_HB, fun _ h1_ => absurd ((hon 11 (by kernel_rfl)).symm.trans h1_) (by decide), j6, j3, j9, jL, jc, jM, jf, jN, jk, jO, jp, jP, ju, jQ, jC, jR, jK, jS, gf, Q_X10_⟩
               exact steps_nil
              rintro b a w96 hall ⟨qp, qe, ha, Q_HO_7, q8, q9, qa, qd, qc, qb, qk, qo, Q_HB, jY, j6, j3, j9, jL, jc, jM, jf, jN, jk, jO, jp, jP, ju, jQ, jC, jR, jK, jS, gf, Q_X10_⟩
              clear q3 q2 q4 q5 q6 q7 qi ql HB HO_7
              have hb2_ := hall 2 (by kernel_rfl)
              have hb3_ := hall 3 (by kernel_rfl)
              have hb4_ := hall 4 (by kernel_rfl)
              have hb5_ := hall 5 (by kernel_rfl)
              have hb6_ := hall 6 (by kernel_rfl)
              have hb7_ := hall 7 (by kernel_rfl)
              have hb8_ := hall 8 (by kernel_rfl)
              have hb9_ := hall 9 (by kernel_rfl)
              have hb10_ := hall 10 (by kernel_rfl)
              have hb11_ := hall 11 (by kernel_rfl)
              have hb12_ := hall 12 (by kernel_rfl)
              subst ha
              obtain rfl := Q_X10_ hb10_
              simp only [putSel, hb2_, hb3_, hb4_, hb5_, hb6_, hb7_, hb8_, hb9_, hb10_, hb11_, hb12_, if_true, Act.put, List.setIfInBounds_toArray, List.set_cons_zero, List.set_cons_succ]
              have HO_7 := Aside0.mk Q_HO_7
              clear Q_HO_7
              have q3 := Aside0.mk q8
              clear q8
              have q2 := Aside0.mk q9
              clear q9
              have q4 := Aside0.mk qa
              clear qa
              have q5 := Aside0.mk qd
              clear qd
              have q6 := Aside0.mk qc
              clear qc
              have q7 := Aside0.mk qb
              clear qb
              have qi := Aside0.mk qk
              clear qk
              have ql := Aside0.mk qo
              clear qo
              have HB := Aside0.mk Q_HB
              clear Q_HB
              clear jY
              have Jr := Aside0.mk (j6 hb10_)
              clear j6
              have Jo := Aside0.mk (j3 hb10_)
              clear j3
              have gS := Aside0.mk (j9 hb10_)
              clear j9
              have Qz := Aside0.mk (jL hb10_)
              clear jL
              have gV := Aside0.mk (jc hb10_)
              clear jc
              have QA := Aside0.mk (jM hb10_)
              clear jM
              have gY := Aside0.mk (jf hb10_)
              clear jf
              have QB := Aside0.mk (jN hb10_)
              clear jN
              have Q1 := Aside0.mk (jk hb10_)
              clear jk
              have QC := Aside0.mk (jO hb10_)
              clear jO
              have Q4 := Aside0.mk (jp hb10_)
              clear jp
              have QD := Aside0.mk (jP hb10_)
              clear jP
              have Q7 := Aside0.mk (ju hb10_)
              clear ju
              have QE := Aside0.mk (jQ hb10_)
              clear jQ
              have Q9 := Aside0.mk (jC hb10_)
              clear jC
              have QF := Aside0.mk (jR hb10_)
              clear jR
              have Qa := Aside0.mk (jK hb10_)
              clear jK
              have QG := Aside0.mk (jS hb10_)
              clear jS
              have qr := Aside0.mk (gf hb11_)
              clear gf
              clear hall hb2_ hb3_ hb4_ hb5_ hb6_ hb7_ hb8_ hb9_ hb10_ hb11_ hb12_
              try go_wp2
              replace HO_7 := Aside0.mk (Kd.R_drew HO_7.out)
              replace q3 := bd q3
              replace q2 := bd q2
              replace q4 := bd q4
              replace q5 := bd q5
              replace q6 := bd q6
              replace q7 := bd q7
              replace qi := bd qi
              replace ql := bd ql
              replace qr := bd qr
              replace HB := bdn HB
              have JC : 0 ≤ (x17_3 : Int) := of_decide_eq_true (by first | (with_reducible assumption) | assumption)
              have JH : x17_3 < (q0.length : Int) := of_decide_eq_true (by first | (with_reducible assumption) | assumption)
              obtain ⟨q2I, q3D, JY, JZ, G0, G1⟩ := at_T25 (Kd.R_reads' HO_7.out).2.2 x17_3 JC JH
              obtain rfl : qj = q2I := (by injection q3D)
              replace JC := eq_true JC
              replace JH := eq_true JH
              have JD : 0 ≤ (x17_3 : Int) := of_decide_eq_true (by first | (with_reducible assumption) | assumption)
              have JI : x17_3 < (q0.length : Int) := of_decide_eq_true (by first | (with_reducible assumption) | assumption)
              obtain ⟨q2J, q3E, G2, G3, G4, G5⟩ := at_T25 (Kd.R_reads' HO_7.out).2.2 x17_3 JD JI
              obtain rfl : qj = q2J := (by injection q3E)
              replace JD := eq_true JD
              replace JI := eq_true JI
              have JE : 0 ≤ (x17_3 : Int) := of_decide_eq_true (by first | (with_reducible assumption) | assumption)
              have JJ : x17_3 < (q0.length : Int) := of_decide_eq_true (by first | (with_reducible assumption) | assumption)
              obtain ⟨q2K, q3F, G6, G7, G8, G9⟩ := at_T25 (Kd.R_reads' HO_7.out).2.2 x17_3 JE JJ
              obtain rfl : qj = q2K := (by injection q3F)
              replace JE := eq_true JE
              replace JJ := eq_true JJ
              have JF : 0 ≤ (x17_3 : Int) := of_decide_eq_true (by first | (with_reducible assumption) | assumption)
              have JK : x17_3 < (q0.length : Int) := of_decide_eq_true (by first | (with_reducible assumption) | assumption)
              obtain ⟨q2L, q3G, Ga, Gb, Gc, Gd⟩ := at_T25 (Kd.R_reads' HO_7.out).2.2 x17_3 JF JK
              obtain rfl : qj = q2L := (by injection q3G)
              replace JF := eq_true JF
              replace JK := eq_true JK
              refine start_ (n := 24) (S := fun w' => w'.cell? (qj.add ((x17_3).toNat * 4)) = some (.int .i64 ((rd_T25 q0 x17_3).f0)) ∧ w'.cell? ⟨(qj.add ((x17_3).toNat * 4)).block, (qj.add ((x17_3).toNat * 4)).off + 1, none⟩ = some (.int .i64 ((rd_T25 q0 x17_3).f1)) ∧ w'.cell? ⟨(qj.add ((x17_3).toNat * 4)).block, (qj.add ((x17_3).toNat * 4)).off + 2, none⟩ = some (.int .i64 ((rd_T25 q0 x17_3).f2)) ∧ w'.cell? ⟨(qj.add ((x17_3).toNat * 4)).block, (qj.add ((x17_3).toNat * 4)).off + 3, none⟩ = some (.int .i64 ((rd_T25 q0 x17_3).f3)) ∧ w'.cell? (qj.add ((x17_3).toNat * 4)) = some (.int .i64 ((rd_T25 q0 x17_3).f0)) ∧ w'.cell? ⟨(qj.add ((x17_3).toNat * 4)).block, (qj.add ((x17_3).toNat * 4)).off + 1, none⟩ = some (.int .i64 ((rd_T25 q0 x17_3).f1)) ∧ w'.cell? ⟨(qj.add ((x17_3).toNat * 4)).block, (qj.add ((x17_3).toNat * 4)).off + 2, none⟩ = some (.int .i64 ((rd_T25 q0 x17_3).f2)) ∧ w'.cell? ⟨(qj.add ((x17_3).toNat * 4)).block, (qj.add ((x17_3).toNat * 4)).off + 3, none⟩ = some (.int .i64 ((rd_T25 q0 x17_3).f3)) ∧ w'.cell? (qj.add ((x17_3).toNat * 4)) = some (.int .i64 ((rd_T25 q0 x17_3).f0)) ∧ w'.cell? ⟨(qj.add ((x17_3).toNat * 4)).block, (qj.add ((x17_3).toNat * 4)).off + 1, none⟩ = some (.int .i64 ((rd_T25 q0 x17_3).f1)) ∧ w'.cell? ⟨(qj.add ((x17_3).toNat * 4)).block, (qj.add ((x17_3).toNat * 4)).off + 2, none⟩ = some (.int .i64 ((rd_T25 q0 x17_3).f2)) ∧ w'.cell? ⟨(qj.add ((x17_3).toNat * 4)).block, (qj.add ((x17_3).toNat * 4)).off + 3, none⟩ = some (.int .i64 ((rd_T25 q0 x17_3).f3)) ∧ w'.cell? (qj.add ((x17_3).toNat * 4)) = some (.int .i64 ((rd_T25 q0 x17_3).f0)) ∧ w'.cell? ⟨(qj.add ((x17_3).toNat * 4)).block, (qj.add ((x17_3).toNat * 4)).off + 1, none⟩ = some (.int .i64 ((rd_T25 q0 x17_3).f1)) ∧ w'.cell? ⟨(qj.add ((x17_3).toNat * 4)).block, (qj.add ((x17_3).toNat * 4)).off + 2, none⟩ = some (.int .i64 ((rd_T25 q0 x17_3).f2)) ∧ w'.cell? ⟨(qj.add ((x17_3).toNat * 4)).block, (qj.add ((x17_3).toNat * 4)).off + 3, none⟩ = some (.int .i64 ((rd_T25 q0 x17_3).f3))) (ds := []) #[false, false, false, false, false, false, false, false, false, false, false, false, false, false, false, false, false, false, false, false, false, false, false, false] (by kernel_rfl) rfl rfl ⟨JY, JZ, G0, G1, G2, G3, G4, G5, G6, G7, G8, G9, Ga, Gb, Gc, Gd⟩ (fun hHeld => ?_); refine with_tabW torchonlaw06_GridsKeep.tab20 torchonlaw06_GridsKeep.bits20 (fun HT_ HW_ => ?_)
              generalize w96.drew = w97 at HO_7 q3 q2 q4 q5 q6 q7 qi ql qr HB JY JZ G0 G1 G2 G3 G4 G5 G6 G7 G8 G9 Ga Gb Gc Gd hHeld ⊢
              refine pz 0 138 HT_ ?_
              refine pz 1 139 HT_ ?_
              refine pz 2 140 HT_ ?_
              refine pz 3 141 HT_ ?_
              refine pz 5 143 HT_ ?_
              refine pz 6 144 HT_ ?_
              refine pz 7 145 HT_ ?_
              refine pz 8 146 HT_ ?_
              refine pz 11 149 HT_ ?_
              refine pz 12 150 HT_ ?_
              refine pz 13 151 HT_ ?_
              refine pz 14 152 HT_ ?_
              refine pz 16 154 HT_ ?_
              refine pz 17 155 HT_ ?_
              refine pz 18 156 HT_ ?_
              refine pz 19 157 HT_ ?_
              refine tz 4 142 HT_ HW_ hHeld ?_
              refine tz 9 147 HT_ HW_ hHeld ?_
              refine pz 10 148 HT_ ?_
              refine tz 15 153 HT_ HW_ hHeld ?_
              refine tz 20 158 HT_ HW_ hHeld ?_
              refine pz 21 159 HT_ ?_
              refine pz 22 160 HT_ ?_
              refine pz 23 24 HT_ ?_
              refine done_ (done_of HT_.out (by kernel_rfl)) ?_
              have q8x := QS.out
              have q9P := QU.out
              have q8y := QT.out
              have q9Q := QV.out
              have q7i := ga.out
              have q8A := gj.out
              have q7j := gb.out
              have q8B := gm.out
              have q7k := gc.out
              have q8C := gn.out
              have q7l := gQ.out
              have q8D := Qm.out
              have q7m := gR.out
              have q8E := Qs.out
              have q7n := gS.out
              have q8F := Qz.out
              have ⟨q0K, q0L, q0M, q1n, q1o, q1p⟩ := cf3 q3
              have q7o := Qn.out
              have q8G := gT.out
              have q7p := Qo.out
              have q8H := gW.out
              have q7q := Qp.out
              have q8I := gZ.out
              have q7s := Qq.out
              have q8K := Q2.out
              have q7t := Qr.out
              have q8L := Q5.out
              have q7u := Q8.out
              have q8M := Qy.out
              have q7v := Q9.out
              have q8N := QF.out
              have ⟨q0N, q0O, q1q, q1r⟩ := cf2 qi
              have q7w := Qt.out
              have q8O := gU.out
              have q7x := Qu.out
              have q8P := gX.out
              have q7y := Qv.out
              have q8Q := Q0.out
              have q7z := Qw.out
              have q8R := Q3.out
              have q7A := Qx.out
              have q8S := Q6.out
              have q7B := Qa.out
              have q8T := QG.out
              have ⟨q0P, q0Q, q1s, q1t⟩ := cf2 ql
              go_upto_region 24 with (first | ((with_reducible refine gate_callee (f := 20) rfl ?_); refine gl 165 Try.func20 (grids_Square.calls k3 a0_0 a0_1 a0_2 jT jW jX jZ Gl Gm _ A74.out) ?_; rintro e qbh ⟨rfl, hb⟩; refine ⟨_, rfl, ?_⟩; replace HO_7 := Aside0.mk (Kd.R_below (by (with_reducible repeat (first | apply Kd.R_alloc | apply Kd.R_drewN | apply Kd.R_drew)); exact HO_7.out) hb); replace q3 := bb q3 hb; replace q2 := bb q2 hb; replace q4 := bb q4 hb; replace q5 := bb q5 hb; replace q6 := bb q6 hb; replace q7 := bb q7 hb; replace qi := bb qi hb; replace ql := bb ql hb; replace qr := bb qr hb; replace HB := bst HB hb; (try clear hb); (try clear hb2); (try clear hk); (try clear hi); have ⟨q0R, q0S, q1u, q1v⟩ := cf2 qi; have ⟨q0T, q0U, q1w, q1x⟩ := cf2 ql; have q7C := QA.out; have q8U := gV.out; have q7D := QB.out; have q8V := gY.out; have q7E := QC.out; have q8W := Q1.out; have q7F := QD.out; have q8X := Q4.out; have q7G := QE.out; have q8Y := Q7.out; have ⟨q0V, q0W, q1y, q1z⟩ := cf2 qr) | ((with_reducible refine gate_callee (f := 21) rfl ?_); refine gl 172 Try.func21 (grids_Side.calls k3 jT jW jX jZ g1 g5 Gn Gp _ A75.out) ?_; rintro e qbi ⟨rfl, hb⟩; refine ⟨_, rfl, ?_⟩; replace HO_7 := Aside0.mk (Kd.R_below (by (with_reducible repeat (first | apply Kd.R_alloc | apply Kd.R_drewN | apply Kd.R_drew)); exact HO_7.out) hb); replace q3 := bb q3 hb; replace q2 := bb q2 hb; replace q4 := bb q4 hb; replace q5 := bb q5 hb; replace q6 := bb q6 hb; replace q7 := bb q7 hb; replace qi := bb qi hb; replace ql := bb ql hb; replace qr := bb qr hb; replace HB := bst HB hb; (try clear hb); (try clear hb2); (try clear hk); (try clear hi); have JG : 0 ≤ (x17_3 : Int) := of_decide_eq_true (by first | (with_reducible assumption) | assumption); have JL : x17_3 < (q0.length : Int) := of_decide_eq_true (by first | (with_reducible assumption) | assumption); obtain ⟨q2M, q3H, q23, q24, q25, q26⟩ := at_T25 (Kd.R_reads' HO_7.out).2.2 x17_3 JG JL; obtain rfl : qj = q2M := (by injection q3H); replace JG := eq_true JG; replace JL := eq_true JL) | ((with_reducible refine gate_callee (f := 31) rfl ?_); refine gl 181 Try.func31 (grids_Invert.calls k3 ((rd_T25 q0 x17_3).f0) ((rd_T25 q0 x17_3).f1) ((rd_T25 q0 x17_3).f2) ((rd_T25 q0 x17_3).f3) 0 0 Jc Jd Je Jf JN JO Gq _ A76.out) ?_; rintro e qbj ⟨rfl, hb⟩; refine ⟨_, rfl, ?_⟩; replace HO_7 := Aside0.mk (Kd.R_below (by (with_reducible repeat (first | apply Kd.R_alloc | apply Kd.R_drewN | apply Kd.R_drew)); exact HO_7.out) hb); replace q3 := bb q3 hb; replace q2 := bb q2 hb; replace q4 := bb q4 hb; replace q5 := bb q5 hb; replace q6 := bb q6 hb; replace q7 := bb q7 hb; replace qi := bb qi hb; replace ql := bb ql hb; replace qr := bb qr hb; replace HB := bst HB hb; (try clear hb); (try clear hb2); (try clear hk); (try clear hi)) | ((with_reducible refine gate_dst (N := 29) rfl ?_); refine box_event ?hg (N := 29) ?hd (cs := #[.int .i64 0, .int .i64 0, .int .i64 0, .int .i64 0, .int .i64 0, .int .i64 0]) (t := 55) ?hr ?_; (case hd => rfl); (case hg => rfl); (case hr => first | (go_simp; done) | (go_simp; rfl)); intro go hg q4a hbox hb; have jU := Aside0.mk (hbox); have q4h := gw hg HB; have q4g := gw hg HB; have GY := nlt hg q3; have q07 := ngt hg q3; have GZ := nlt hg q2; have q08 := ngt hg q2; have q00 := nlt hg q4; have q09 := ngt hg q4; have q01 := nlt hg q5; have q0a := ngt hg q5; have q02 := nlt hg q6; have q0b := ngt hg q6; have q03 := nlt hg q7; have q0c := ngt hg q7; have q04 := nlt hg qi; have q0d := ngt hg qi; have q05 := nlt hg ql; have q0e := ngt hg ql; have q06 := nlt hg qr; have q0f := ngt hg qr; replace HO_7 := Aside0.mk (Kd.R_below (by (with_reducible repeat (first | apply Kd.R_alloc | apply Kd.R_drewN | apply Kd.R_drew)); exact HO_7.out) hb); replace q3 := bb q3 hb; replace q2 := bb q2 hb; replace q4 := bb q4 hb; replace q5 := bb q5 hb; replace q6 := bb q6 hb; replace q7 := bb q7 hb; replace qi := bb qi hb; replace ql := bb ql hb; replace qr := bb qr hb; replace HB := bst HB hb; clear hb hg; have q7H := q07.out; have q8Z := GY.out; have q7I := q08.out; have q90 := GZ.out; have q7J := q09.out; have q91 := q00.out; have q7K := q0a.out; have q92 := q01.out; have q7L := q0b.out; have q93 := q02.out; have q7M := q0c.out; have q94 := q03.out; have q7N := q0d.out; have q95 := q04.out; have q7O := q0e.out; have q96 := q05.out; have q7P := q0f.out; have q97 := q06.out; have ⟨q0X, q0Y, q0Z, q11, q12, q13, q1A, q1B, q1C, q1D, q1E, q1F⟩ := cf6 jU) | ((with_reducible refine gate_store (t := 55) (p := 29) rfl ?_); refine sx 55 29 (((((((q4a.setCell ⟨go, 0, none⟩ (.int .i64 Jc)).setCell ⟨go, 1, none⟩ (.int .i64 Jd)).setCell ⟨go, 2, none⟩ (.int .i64 Je)).setCell ⟨go, 3, none⟩ (.int .i64 Jf)).setCell ⟨go, 4, none⟩ (.int .i64 JN)).setCell ⟨go, 5, none⟩ (.int .i64 JO))) fun q4b hw => ?_; have n0_ : Aside0 (Kd.R k25 25 q4b w.heap.size (fun k_ => k_ ≠ qs) (.slice (some qj) q0.length gF) q0) := ⟨(by rw [hw]; exact (by (with_reducible repeat (first | apply Kd.R_alloc | apply Kd.R_drewN | apply Kd.R_drew)); exact Kd.R_mono (Kd.R_far (p := ⟨go, 5, none⟩) (Kd.R_far (p := ⟨go, 4, none⟩) (Kd.R_far (p := ⟨go, 3, none⟩) (Kd.R_far (p := ⟨go, 2, none⟩) (Kd.R_far (p := ⟨go, 1, none⟩) (Kd.R_far (p := ⟨go, 0, none⟩) (Kd.R_types HO_7.out jU.out (by decide)) (fun _ hk => hk.2) (.int .i64 Jc)) (fun _ hk => hk.2) (.int .i64 Jd)) (fun _ hk => hk.2) (.int .i64 Je)) (fun _ hk => hk.2) (.int .i64 Jf)) (fun _ hk => hk.2) (.int .i64 JN)) (fun _ hk => hk.2) (.int .i64 JO)) (fun _ hk => hk.1)))⟩; have n1_ := fw hw q3; have n2_ := fw hw q2; have n3_ := fw hw q4; have n4_ := fw hw q5; have n5_ := fw hw q6; have n6_ := fw hw q7; have n7_ := fw hw qi; have n8_ := fw hw ql; have n9_ := fw hw qr; have qB := pw6 hw jU; have qC := bw hw HB; clear hw; clear HO_7; clear q3; clear q2; clear q4; clear q5; clear q6; clear q7; clear qi; clear ql; clear qr; clear jU; clear HB; have HO_7 := n0_; have q3 := n1_; have q2 := n2_; have q4 := n3_; have q5 := n4_; have q6 := n5_; have q7 := n6_; have qi := n7_; have ql := n8_; have qr := n9_; have jU := qB; have HB := qC; clear n0_ n1_ n2_ n3_ n4_ n5_ n6_ n7_ n8_ n9_ qB qC))
              (try simp only [Act.put, List.setIfInBounds_toArray, List.set_cons_zero, List.set_cons_succ])
              go_cut [224] (fun v224 wc => ∃ (kq : Nat) (x224_76 : Bool), v224 = .bool x224_76 ∧ Aside0 (torchonlaw06_GridsKeep.j3 kq q0 (q0.length : Int) gG gO x17_3 x224_76 a0_0 a0_1 a0_2 a2_0 a2_1 a2_2 a2_3 qt qv qu qw qx qy = some r) ∧ Aside0 (kq ≤ k3) ∧ Aside0 (Kd.R k25 25 wc w.heap.size (fun k_ => k_ ≠ qs) (.slice (some qj) q0.length gF) q0) ∧ Aside0 (wc.heap[jV]? = some (.cells #[.int .i64 a0_0, .int .i64 a0_1, .int .i64 a0_2] 23 (0, 0))) ∧ Aside0 (wc.heap[qq]? = some (.cells #[.int .i64 a1_0, .int .i64 a1_1, .int .i64 a1_2, .int .i64 a1_3, .int .i64 a1_4, .int .i64 a1_5, .int .i64 a1_6, .int .i64 a1_7] 39 (0, 0))) ∧ Aside0 (wc.heap[qs]? = some (.cells #[.int .i64 a2_0, .int .i64 a2_1, .int .i64 a2_2, .int .i64 a2_3] 25 (0, 0))) ∧ Aside0 (wc.heap[qf]? = some (.cells #[.int .i64 qt, .int .i64 qv] 37 (0, 0))) ∧ Aside0 (wc.heap[qg]? = some (.cells #[.int .i64 qu, .int .i64 qw] 37 (0, 0))) ∧ Aside0 (wc.heap[qh]? = some (.cells #[.int .i64 qx, .int .i64 qy] 37 (0, 0))) ∧ Aside0 (wc.heap[qm]? = some (.cells #[.int .i64 jT, .int .i64 jW] 37 (0, 0))) ∧ Aside0 (wc.heap[qn]? = some (.cells #[.int .i64 jX, .int .i64 jZ] 37 (0, 0))) ∧ Aside0 (wc.heap[qp]? = some (.cells #[.int .i64 g1, .int .i64 g5] 37 (0, 0))) ∧ Aside0 (wc.heap[go]? = some (.cells #[.int .i64 Jc, .int .i64 Jd, .int .i64 Je, .int .i64 Jf, .int .i64 JN, .int .i64 JO] 55 (0, 0))) ∧ Aside0 (Below w.heap.size w wc))
              case first => as_aux_lemma =>
               have H := Gt.out
               clear Gt
               by_cases QX : g3 = 0
               ·rw [if_pos QX] at H
                have JR : (g3 == 0) = true := beq_iff_eq.mpr QX
                have q0g : (g3 != 0) = false := bne_eq_false_iff_eq.mpr QX
                clear QX
                (first | rw [JR] | (simp only [i64_w, i32_w]; rw [JR]) | skip)
                by_cases QY : g4 = 0
                ·rw [if_pos QY] at H
                 have q0h : (g4 == 0) = true := beq_iff_eq.mpr QY
                 have q0i : (g4 != 0) = false := bne_eq_false_iff_eq.mpr QY
                 clear QY
                 by_cases QZ : g6 = 0
                 ·rw [if_pos QZ] at H
                  have q0j : (g6 == 0) = true := beq_iff_eq.mpr QZ
                  have q0k : (g6 != 0) = false := bne_eq_false_iff_eq.mpr QZ
                  clear QZ
                  by_cases J0 : Gm = 0
                  ·rw [if_pos J0] at H
                   have q0l : (Gm == 0) = true := beq_iff_eq.mpr J0
                   have q0m : (Gm != 0) = false := bne_eq_false_iff_eq.mpr J0
                   clear J0
                   by_cases J1 : Gp = 0
                   ·rw [if_pos J1] at H
                    have q0n : (Gp == 0) = true := beq_iff_eq.mpr J1
                    have q0o : (Gp != 0) = false := bne_eq_false_iff_eq.mpr J1
                    clear J1
                    by_cases J2 : Gq = 0
                    ·rw [if_pos J2] at H
                     have q0p : (Gq == 0) = true := beq_iff_eq.mpr J2
                     have q0q : (Gq != 0) = false := bne_eq_false_iff_eq.mpr J2
                     clear J2
                     by_cases J3 : Gl = gG
                     ·rw [if_pos J3] at H
                      have q0r : (Gl == gG) = true := beq_iff_eq.mpr J3
                      have q0s : (Gl != gG) = false := bne_eq_false_iff_eq.mpr J3
                      clear J3
                      obtain ⟨QR, E1520, H⟩ := oc H
                      have E152w : (IntKind.i64.wrap (Jk * gO)) = QR := (i64_w _).trans E1520
                      by_cases J4 : Gn = QR
                      ·rw [if_pos J4] at H
                       have q0t : (Gn == QR) = true := beq_iff_eq.mpr J4
                       have q0u : (Gn != QR) = false := bne_eq_false_iff_eq.mpr J4
                       clear J4
                       obtain ⟨Jg, q2r, H⟩ := ob H
                       have H' := Aside0.mk H
                       clear H
                       have q7Q := q07.out
                       have q98 := GY.out
                       have q7R := q08.out
                       have q99 := GZ.out
                       have q7S := q09.out
                       have q9a := q00.out
                       have q7T := q0a.out
                       have q9b := q01.out
                       have q7U := q0b.out
                       have q9c := q02.out
                       have q7V := q0c.out
                       have q9d := q03.out
                       have q7W := q0d.out
                       have q9e := q04.out
                       have q7X := q0e.out
                       have q9f := q05.out
                       have q7Y := q0f.out
                       have q9g := q06.out
                       have ⟨q14, q15, q16, q17, q18, q19, q1G, q1H, q1I, q1J, q1K, q1L⟩ := cf6 jU
                       go_wp2_with (first | (go_at_call 36; (with_reducible refine (torchonlaw06_in.calls k3 _ _ q0 Jc Jd Je Jf Jg _ ?side1 ?side2 q2r.out).mono ?_); (case side1 => repeat (first | exact (Kd.R_reads' HO_7.out).2.2 | (with_reducible refine Kd.C_alloc ?_ _) | (with_reducible refine Kd.C_drewN ?_ _) | (with_reducible refine Kd.C_drew ?_))); (case side2 => exact (Kd.R_reads' HO_7.out).2.1); rintro e qbk ⟨rfl, hb⟩; replace HO_7 := Aside0.mk (Kd.R_below (by (with_reducible repeat (first | apply Kd.R_alloc | apply Kd.R_drewN | apply Kd.R_drew)); exact HO_7.out) hb); replace q3 := bb q3 hb; replace q2 := bb q2 hb; replace q4 := bb q4 hb; replace q5 := bb q5 hb; replace q6 := bb q6 hb; replace q7 := bb q7 hb; replace qi := bb qi hb; replace ql := bb ql hb; replace qr := bb qr hb; replace jU := bb jU hb; replace HB := bst HB hb; (try clear hb); (try clear hb2); (try clear hk); (try clear hi)))
                       go_meet
                       case rel => exact ⟨_, (!Jg), (by first | rfl | (simp; done) | (simp [*]; done)), H', ⟨by have := HJ5.out; have := HJ23.out; have := HK3.out; first | omega | exact Nat.le_refl _⟩, ⟨by (with_reducible repeat (first | apply Kd.R_alloc | apply Kd.R_drewN | apply Kd.R_drew)); exact HO_7.out⟩, ⟨pk q3⟩, ⟨pk q2⟩, ⟨pk q4⟩, ⟨pk q5⟩, ⟨pk q6⟩, ⟨pk q7⟩, ⟨pk qi⟩, ⟨pk ql⟩, ⟨pk qr⟩, ⟨pk jU⟩, ⟨bnow HB⟩⟩
                      ·rw [if_neg J4] at H
                       exact absurd H (by simp)
                     ·rw [if_neg J3] at H
                      exact absurd H (by simp)
                    ·rw [if_neg J2] at H
                     exact absurd H (by simp)
                   ·rw [if_neg J1] at H
                    exact absurd H (by simp)
                  ·rw [if_neg J0] at H
                   exact absurd H (by simp)
                 ·rw [if_neg QZ] at H
                  exact absurd H (by simp)
                ·rw [if_neg QY] at H
                 exact absurd H (by simp)
               ·rw [if_neg QX] at H
                exact absurd H (by simp)
              case rest => as_aux_lemma =>
               clear Gt
               try clear c1; try clear p1; try clear q1; try clear hx1; try clear c2; try clear p2; try clear c3; try clear c9; try clear c10; try clear p10; try clear q10; try clear q3V; try clear c11; try clear c12; try clear c13; try clear c14; try clear c15; try clear c16; try clear c20; try clear c21; try clear c31; try clear c98; try clear c99; try clear q2P; try clear q2Q; try clear q2R; try clear q2S; try clear q2T; try clear q2U; try clear q2i; try clear q2k; try clear q44; try clear q2V; try clear q2j; try clear q2l; try clear q49; try clear q2W; try clear q2X; try clear q2Y; try clear q2Z; try clear q30; try clear q31; try clear q32; try clear q33; try clear q34; try clear q35; try clear q36; try clear q37; try clear q38; try clear q39; try clear q3a; try clear q3b; try clear q3c; try clear q3d; try clear q3e; try clear q3f; try clear q3g; try clear q3h; try clear q3i; try clear q3j; try clear q3k; try clear q3l; try clear QX; try clear JR; try clear q0g; try clear QY; try clear q0h; try clear q0i; try clear QZ; try clear q0j; try clear q0k; try clear J0; try clear q0l; try clear q0m; try clear J1; try clear q0n; try clear q0o; try clear J2; try clear q0p; try clear q0q; try clear J3; try clear q0r; try clear q0s; try clear J4; try clear q0t; try clear q0u; try clear q3m; try clear q3n; try clear q3o; try clear q3p; try clear q3q; try clear q3r; try clear q3s; try clear q3t; try clear q3u; try clear q0K; try clear q0L; try clear q0M; try clear q0N; try clear q0O; try clear q0P; try clear q0Q; try clear q0R; try clear q0S; try clear q0T; try clear q0U; try clear q0V; try clear q0W; try clear q0X; try clear q0Y; try clear q0Z; try clear q11; try clear q12; try clear q13; try clear q14; try clear q15; try clear q16; try clear q17; try clear q18; try clear q19; try clear q1n; try clear q1o; try clear q1p; try clear q1q; try clear q1r; try clear q1s; try clear q1t; try clear q1u; try clear q1v; try clear q1w; try clear q1x; try clear q1y; try clear q1z; try clear q1A; try clear q1B; try clear q1C; try clear q1D; try clear q1E; try clear q1F; try clear q1G; try clear q1H; try clear q1I; try clear q1J; try clear q1K; try clear q1L; try clear JY; try clear JZ; try clear G0; try clear G1; try clear G2; try clear G3; try clear G4; try clear G5; try clear G6; try clear G7; try clear G8; try clear G9; try clear Ga; try clear Gb; try clear Gc; try clear Gd; try clear q23; try clear q24; try clear q25; try clear q26; try clear JC; try clear JD; try clear JE; try clear JF; try clear JG; try clear JH; try clear JI; try clear JJ; try clear JK; try clear JL
               obtain ⟨kq, x224_76, rfl, HA, HJ76, HO_7, q3, q2, q4, q5, q6, q7, qi, ql, qr, jU, HB⟩ := hcut
               cases kq with
               | zero => exact absurd HA.out (by simp [torchonlaw06_GridsKeep.j3])
               | succ kj76 =>
                have H := HA.out
                clear HA
                simp only [torchonlaw06_GridsKeep.j3] at H
                by_cases Jw : x224_76 = true
                ·subst Jw
                 have H1 : (none) = some r := by rw [if_pos rfl] at H; exact H
                 clear H
                 have H := H1
                 clear H1
                 exact absurd H (by simp)
                ·replace Jw := Bool.eq_false_iff.mpr Jw
                 subst Jw
                 have H1 : (torchonlaw06_GridsKeep.l1 kj76 q0 (q0.length : Int) gG gO x17_3 0 a0_0 a0_1 a0_2 a2_0 a2_1 a2_2 a2_3 qt qv qu qw qx qy) = some r := by rw [if_neg (show ¬ (false = true) by decide)] at H; exact H
                 clear H
                 have H := H1
                 clear H1
                 have H' := Aside0.mk H
                 clear H
                 go_wp2
                 go_loopg [31] kj76 (fun kq v31 w' => ∃ (x31_5 : Int), v31 = .int .i64 x31_5 ∧ Aside0 (torchonlaw06_GridsKeep.l1 kq q0 (q0.length : Int) gG gO x17_3 x31_5 a0_0 a0_1 a0_2 a2_0 a2_1 a2_2 a2_3 qt qv qu qw qx qy = some r) ∧ Aside0 (kq ≤ kj76) ∧ Aside0 (Kd.R k25 25 w' w.heap.size (fun k_ => k_ ≠ qs) (.slice (some qj) q0.length gF) q0) ∧ Aside0 (w'.heap[jV]? = some (.cells #[.int .i64 a0_0, .int .i64 a0_1, .int .i64 a0_2] 23 (0, 0))) ∧ Aside0 (w'.heap[qq]? = some (.cells #[.int .i64 a1_0, .int .i64 a1_1, .int .i64 a1_2, .int .i64 a1_3, .int .i64 a1_4, .int .i64 a1_5, .int .i64 a1_6, .int .i64 a1_7] 39 (0, 0))) ∧ Aside0 (w'.heap[qs]? = some (.cells #[.int .i64 a2_0, .int .i64 a2_1, .int .i64 a2_2, .int .i64 a2_3] 25 (0, 0))) ∧ Aside0 (w'.heap[qf]? = some (.cells #[.int .i64 qt, .int .i64 qv] 37 (0, 0))) ∧ Aside0 (w'.heap[qg]? = some (.cells #[.int .i64 qu, .int .i64 qw] 37 (0, 0))) ∧ Aside0 (w'.heap[qh]? = some (.cells #[.int .i64 qx, .int .i64 qy] 37 (0, 0))) ∧ Aside0 (w'.heap[qm]? = some (.cells #[.int .i64 jT, .int .i64 jW] 37 (0, 0))) ∧ Aside0 (w'.heap[qn]? = some (.cells #[.int .i64 jX, .int .i64 jZ] 37 (0, 0))) ∧ Aside0 (w'.heap[qp]? = some (.cells #[.int .i64 g1, .int .i64 g5] 37 (0, 0))) ∧ Aside0 (w'.heap[go]? = some (.cells #[.int .i64 Jc, .int .i64 Jd, .int .i64 Je, .int .i64 Jf, .int .i64 JN, .int .i64 JO] 55 (0, 0))) ∧ Aside0 (Below w.heap.size w w'))
                 case atStart => exact ⟨(0), (by first | rfl | (simp; done) | (simp [*]; done)), H', ⟨Nat.le_refl _⟩, ⟨by (with_reducible repeat (first | apply Kd.R_alloc | apply Kd.R_drewN | apply Kd.R_drew)); exact HO_7.out⟩, ⟨pk q3⟩, ⟨pk q2⟩, ⟨pk q4⟩, ⟨pk q5⟩, ⟨pk q6⟩, ⟨pk q7⟩, ⟨pk qi⟩, ⟨pk ql⟩, ⟨pk qr⟩, ⟨pk jU⟩, ⟨bnow HB⟩⟩
                 case round => as_aux_lemma =>
                  clear H'
                  try clear c1; try clear p1; try clear q1; try clear hx1; try clear c2; try clear p2; try clear c3; try clear c9; try clear c10; try clear p10; try clear q10; try clear q3V; try clear c11; try clear c12; try clear c13; try clear c14; try clear c15; try clear c16; try clear c20; try clear c21; try clear c31; try clear c98; try clear c99; try clear q2P; try clear q2Q; try clear q2R; try clear q2S; try clear q2T; try clear q2U; try clear q2i; try clear q2k; try clear q44; try clear q2V; try clear q2j; try clear q2l; try clear q49; try clear q2W; try clear q2X; try clear q2Y; try clear q2Z; try clear q30; try clear q31; try clear q32; try clear q33; try clear q34; try clear q35; try clear q36; try clear q37; try clear q38; try clear q39; try clear q3a; try clear q3b; try clear q3c; try clear q3d; try clear q3e; try clear q3f; try clear q3g; try clear q3h; try clear q3i; try clear q3j; try clear q3k; try clear q3l; try clear QX; try clear JR; try clear q0g; try clear QY; try clear q0h; try clear q0i; try clear QZ; try clear q0j; try clear q0k; try clear J0; try clear q0l; try clear q0m; try clear J1; try clear q0n; try clear q0o; try clear J2; try clear q0p; try clear q0q; try clear J3; try clear q0r; try clear q0s; try clear J4; try clear q0t; try clear q0u; try clear q3m; try clear q3n; try clear q3o; try clear q3p; try clear q3q; try clear q3r; try clear q3s; try clear q3t; try clear q3u; try clear Jw; try clear q0K; try clear q0L; try clear q0M; try clear q0N; try clear q0O; try clear q0P; try clear q0Q; try clear q0R; try clear q0S; try clear q0T; try clear q0U; try clear q0V; try clear q0W; try clear q0X; try clear q0Y; try clear q0Z; try clear q11; try clear q12; try clear q13; try clear q14; try clear q15; try clear q16; try clear q17; try clear q18; try clear q19; try clear q1n; try clear q1o; try clear q1p; try clear q1q; try clear q1r; try clear q1s; try clear q1t; try clear q1u; try clear q1v; try clear q1w; try clear q1x; try clear q1y; try clear q1z; try clear q1A; try clear q1B; try clear q1C; try clear q1D; try clear q1E; try clear q1F; try clear q1G; try clear q1H; try clear q1I; try clear q1J; try clear q1K; try clear q1L; try clear JY; try clear JZ; try clear G0; try clear G1; try clear G2; try clear G3; try clear G4; try clear G5; try clear G6; try clear G7; try clear G8; try clear G9; try clear Ga; try clear Gb; try clear Gc; try clear Gd; try clear q23; try clear q24; try clear q25; try clear q26; try clear p1; try clear p10; try clear q2i; try clear JC; try clear JD; try clear JE; try clear q2j; try clear JF; try clear JG; try clear p2; try clear q1; try clear q10; try clear q2k; try clear JH; try clear JI; try clear JJ; try clear q2l; try clear JK; try clear JL
                  obtain ⟨x31_5, rfl, HA, HK5, HO_7, q3, q2, q4, q5, q6, q7, qi, ql, qr, jU, HB⟩ := hrel
                  cases gk with
                  | zero => exact absurd HA.out (by simp [torchonlaw06_GridsKeep.l1])
                  | succ k5 =>
                   have H := HA.out
                   clear HA
                   simp only [torchonlaw06_GridsKeep.l1] at H
                   by_cases J9 : x31_5 < (q0.length : Int)
                   ·rw [if_pos J9] at H
                    have q3v : decide (x31_5 < (q0.length : Int)) = true := decide_eq_true J9
                    clear J9
                    by_cases JS : 0 ≤ x17_3
                    ·rw [if_pos JS] at H
                     have q4i : decide (0 ≤ x17_3) = true := decide_eq_true JS
                     clear JS
                     by_cases JT : x17_3 < (q0.length : Int)
                     ·rw [if_pos JT] at H
                      have q4j : decide (x17_3 < (q0.length : Int)) = true := decide_eq_true JT
                      clear JT
                      by_cases JU : 0 ≤ x31_5
                      ·rw [if_pos JU] at H
                       have q4k : decide (0 ≤ x31_5) = true := decide_eq_true JU
                       clear JU
                       by_cases JV : x31_5 < (q0.length : Int)
                       ·rw [if_pos JV] at H
                        have q4l : decide (x31_5 < (q0.length : Int)) = true := decide_eq_true JV
                        clear JV
                        obtain ⟨⟨q2n, q2o, q2p, q2q⟩, q2s, H⟩ := ob H
                        obtain ⟨GN, q2t, H⟩ := ob H
                        by_cases JW : GN = true
                        ·subst JW
                         have H1 : ((some (wrap64 (x31_5 + 1))).bind fun Jl => (torchonlaw06_GridsKeep.l1 k5 q0 (q0.length : Int) gG gO x17_3 Jl a0_0 a0_1 a0_2 a2_0 a2_1 a2_2 a2_3 qt qv qu qw qx qy)) = some r := by rw [if_pos rfl] at H; exact H
                         clear H
                         have H := H1
                         clear H1
                         obtain ⟨Jl, E1750, H⟩ := oc H
                         have E175w : (IntKind.i64.wrap (x31_5 + 1)) = Jl := (i64_w _).trans E1750
                         have H' := Aside0.mk H
                         clear H
                         try go_wp2
                         replace HO_7 := Aside0.mk (Kd.R_drew HO_7.out)
                         replace q3 := bd q3
                         replace q2 := bd q2
                         replace q4 := bd q4
                         replace q5 := bd q5
                         replace q6 := bd q6
                         replace q7 := bd q7
                         replace qi := bd qi
                         replace ql := bd ql
                         replace qr := bd qr
                         replace jU := bd jU
                         replace HB := bdn HB
                         have GH : 0 ≤ (x17_3 : Int) := of_decide_eq_true (by first | (with_reducible assumption) | assumption)
                         have GK : x17_3 < (q0.length : Int) := of_decide_eq_true (by first | (with_reducible assumption) | assumption)
                         obtain ⟨q2N, q3J, q27, q28, q29, q2a⟩ := at_T25 (Kd.R_reads' HO_7.out).2.2 x17_3 GH GK
                         obtain rfl : qj = q2N := (by injection q3J)
                         replace GH := eq_true GH
                         replace GK := eq_true GK
                         have GI : 0 ≤ (x31_5 : Int) := of_decide_eq_true (by first | (with_reducible assumption) | assumption)
                         have GL : x31_5 < (q0.length : Int) := of_decide_eq_true (by first | (with_reducible assumption) | assumption)
                         obtain ⟨q2O, q3K, q2b, q2c, q2d, q2e⟩ := at_T25 (Kd.R_reads' HO_7.out).2.2 x31_5 GI GL
                         obtain rfl : qj = q2O := (by injection q3K)
                         replace GI := eq_true GI
                         replace GL := eq_true GL
                         refine start_ (n := 12) (S := fun w' => w'.cell? (qj.add ((x17_3).toNat * 4)) = some (.int .i64 ((rd_T25 q0 x17_3).f0)) ∧ w'.cell? ⟨(qj.add ((x17_3).toNat * 4)).block, (qj.add ((x17_3).toNat * 4)).off + 1, none⟩ = some (.int .i64 ((rd_T25 q0 x17_3).f1)) ∧ w'.cell? ⟨(qj.add ((x17_3).toNat * 4)).block, (qj.add ((x17_3).toNat * 4)).off + 2, none⟩ = some (.int .i64 ((rd_T25 q0 x17_3).f2)) ∧ w'.cell? ⟨(qj.add ((x17_3).toNat * 4)).block, (qj.add ((x17_3).toNat * 4)).off + 3, none⟩ = some (.int .i64 ((rd_T25 q0 x17_3).f3)) ∧ w'.cell? (qj.add ((x31_5).toNat * 4)) = some (.int .i64 ((rd_T25 q0 x31_5).f0)) ∧ w'.cell? ⟨(qj.add ((x31_5).toNat * 4)).block, (qj.add ((x31_5).toNat * 4)).off + 1, none⟩ = some (.int .i64 ((rd_T25 q0 x31_5).f1)) ∧ w'.cell? ⟨(qj.add ((x31_5).toNat * 4)).block, (qj.add ((x31_5).toNat * 4)).off + 2, none⟩ = some (.int .i64 ((rd_T25 q0 x31_5).f2)) ∧ w'.cell? ⟨(qj.add ((x31_5).toNat * 4)).block, (qj.add ((x31_5).toNat * 4)).off + 3, none⟩ = some (.int .i64 ((rd_T25 q0 x31_5).f3))) (ds := []) #[false, false, false, false, false, false, false, false, false, false, false, false] (by kernel_rfl) rfl rfl ⟨q27, q28, q29, q2a, q2b, q2c, q2d, q2e⟩ (fun hHeld => ?_); refine with_tabW torchonlaw06_GridsKeep.tab29 torchonlaw06_GridsKeep.bits29 (fun HT_ HW_ => ?_)
                         generalize wr.drew = qbl at HO_7 q3 q2 q4 q5 q6 q7 qi ql qr jU HB q27 q28 q29 q2a q2b q2c q2d q2e hHeld ⊢
                         refine pz 0 230 HT_ ?_
                         refine pz 1 231 HT_ ?_
                         refine pz 2 232 HT_ ?_
                         refine pz 3 233 HT_ ?_
                         refine pz 5 235 HT_ ?_
                         refine pz 6 236 HT_ ?_
                         refine pz 7 237 HT_ ?_
                         refine tz 4 234 HT_ HW_ hHeld ?_
                         refine tz 8 238 HT_ HW_ hHeld ?_
                         refine one_ (i := 9) (N := some 239) #[true, true, true, true, true, true, true, true, true, true, false, false] rfl rfl (one_of HT_.out (by kernel_rfl)) (by decide) (fun K hK => ?_)
                         refine gs _ Try.func37 (torchonref06_Times.calls ((rd_T25 q0 x17_3).f0) ((rd_T25 q0 x17_3).f1) ((rd_T25 q0 x17_3).f2) ((rd_T25 q0 x17_3).f3) ((rd_T25 q0 x31_5).f0) ((rd_T25 q0 x31_5).f1) ((rd_T25 q0 x31_5).f2) ((rd_T25 q0 x31_5).f3) q2n q2o q2p q2q _ q2s.out) ?_
                         rintro e qbm ⟨rfl, hb⟩
                         have Gu := (hb.cell (World.block_lt_of_cell? _ _ (hHeld.1))).trans (hHeld.1)
                         have Gv := (hb.cell (World.block_lt_of_cell? _ _ (hHeld.2.1))).trans (hHeld.2.1)
                         have Gw := (hb.cell (World.block_lt_of_cell? _ _ (hHeld.2.2.1))).trans (hHeld.2.2.1)
                         have Gx := (hb.cell (World.block_lt_of_cell? _ _ (hHeld.2.2.2.1))).trans (hHeld.2.2.2.1)
                         have Gy := (hb.cell (World.block_lt_of_cell? _ _ (hHeld.2.2.2.2.1))).trans (hHeld.2.2.2.2.1)
                         have Gz := (hb.cell (World.block_lt_of_cell? _ _ (hHeld.2.2.2.2.2.1))).trans (hHeld.2.2.2.2.2.1)
                         have GA := (hb.cell (World.block_lt_of_cell? _ _ (hHeld.2.2.2.2.2.2.1))).trans (hHeld.2.2.2.2.2.2.1)
                         have GB := (hb.cell (World.block_lt_of_cell? _ _ (hHeld.2.2.2.2.2.2.2))).trans (hHeld.2.2.2.2.2.2.2)
                         refine ⟨_, rfl, ?_⟩
                         have n0_ := Aside0.mk (Kd.R_below (by (with_reducible repeat (first | apply Kd.R_alloc | apply Kd.R_drewN | apply Kd.R_drew)); exact HO_7.out) hb)
                         have n1_ := bb q3 hb
                         have n2_ := bb q2 hb
                         have n3_ := bb q4 hb
                         have n4_ := bb q5 hb
                         have n5_ := bb q6 hb
                         have n6_ := bb q7 hb
                         have n7_ := bb qi hb
                         have n8_ := bb ql hb
                         have n9_ := bb qr hb
                         have qB := bb jU hb
                         have qC := bst HB hb
                         clear HO_7
                         clear q3
                         clear q2
                         clear q4
                         clear q5
                         clear q6
                         clear q7
                         clear qi
                         clear ql
                         clear qr
                         clear jU
                         clear HB
                         have HO_7 := n0_
                         have q3 := n1_
                         have q2 := n2_
                         have q4 := n3_
                         have q5 := n4_
                         have q6 := n5_
                         have q7 := n6_
                         have qi := n7_
                         have ql := n8_
                         have qr := n9_
                         have jU := qB
                         have HB := qC
                         clear n0_ n1_ n2_ n3_ n4_ n5_ n6_ n7_ n8_ n9_ qB qC
                         (try clear hb)
                         (try clear hb2)
                         (try clear hk)
                         (try clear hi)
                         refine hK.out _ _ ⟨Gu, Gv, Gw, Gx, Gy, Gz, GA, GB⟩ (fun hHeld => ?_)
                         clear hK K
                         refine norm_ (a' := ?_) ?_ ?_
                         rotate_left
                         ·show Act.put _ (some 239) _ = _
                          simp only [Act.put, List.setIfInBounds_toArray, List.set_cons_zero, List.set_cons_succ, i64_w, i32_w]
                          rfl
                         refine one_ (i := 10) (N := some 240) #[true, true, true, true, true, true, true, true, true, true, true, false] rfl rfl (one_of HT_.out (by kernel_rfl)) (by decide) (fun K hK => ?_)
                         refine gs _ Try.func36 (torchonlaw06_in.calls k5 _ _ q0 q2n q2o q2p q2q true _ ?side1 ?side2 q2t.out) ?_
                         (case side1 => repeat (first | exact (Kd.R_reads' HO_7.out).2.2 | (with_reducible refine Kd.C_alloc ?_ _) | (with_reducible refine Kd.C_drewN ?_ _) | (with_reducible refine Kd.C_drew ?_)))
                         (case side2 => exact (Kd.R_reads' HO_7.out).2.1)
                         rintro e qbn ⟨rfl, hb⟩
                         have Gu := (hb.cell (World.block_lt_of_cell? _ _ (hHeld.1))).trans (hHeld.1)
                         have Gv := (hb.cell (World.block_lt_of_cell? _ _ (hHeld.2.1))).trans (hHeld.2.1)
                         have Gw := (hb.cell (World.block_lt_of_cell? _ _ (hHeld.2.2.1))).trans (hHeld.2.2.1)
                         have Gx := (hb.cell (World.block_lt_of_cell? _ _ (hHeld.2.2.2.1))).trans (hHeld.2.2.2.1)
                         have Gy := (hb.cell (World.block_lt_of_cell? _ _ (hHeld.2.2.2.2.1))).trans (hHeld.2.2.2.2.1)
                         have Gz := (hb.cell (World.block_lt_of_cell? _ _ (hHeld.2.2.2.2.2.1))).trans (hHeld.2.2.2.2.2.1)
                         have GA := (hb.cell (World.block_lt_of_cell? _ _ (hHeld.2.2.2.2.2.2.1))).trans (hHeld.2.2.2.2.2.2.1)
                         have GB := (hb.cell (World.block_lt_of_cell? _ _ (hHeld.2.2.2.2.2.2.2))).trans (hHeld.2.2.2.2.2.2.2)
                         refine ⟨_, rfl, ?_⟩
                         have n0_ := Aside0.mk (Kd.R_below (by (with_reducible repeat (first | apply Kd.R_alloc | apply Kd.R_drewN | apply Kd.R_drew)); exact HO_7.out) hb)
                         have n1_ := bb q3 hb
                         have n2_ := bb q2 hb
                         have n3_ := bb q4 hb
                         have n4_ := bb q5 hb
                         have n5_ := bb q6 hb
                         have n6_ := bb q7 hb
                         have n7_ := bb qi hb
                         have n8_ := bb ql hb
                         have n9_ := bb qr hb
                         have qB := bb jU hb
                         have qC := bst HB hb
                         clear HO_7
                         clear q3
                         clear q2
                         clear q4
                         clear q5
                         clear q6
                         clear q7
                         clear qi
                         clear ql
                         clear qr
                         clear jU
                         clear HB
                         have HO_7 := n0_
                         have q3 := n1_
                         have q2 := n2_
                         have q4 := n3_
                         have q5 := n4_
                         have q6 := n5_
                         have q7 := n6_
                         have qi := n7_
                         have ql := n8_
                         have qr := n9_
                         have jU := qB
                         have HB := qC
                         clear n0_ n1_ n2_ n3_ n4_ n5_ n6_ n7_ n8_ n9_ qB qC
                         (try clear hb)
                         (try clear hb2)
                         (try clear hk)
                         (try clear hi)
                         refine hK.out _ _ ⟨Gu, Gv, Gw, Gx, Gy, Gz, GA, GB⟩ (fun hHeld => ?_)
                         clear hK K
                         refine norm_ (a' := ?_) ?_ ?_
                         rotate_left
                         ·show Act.put _ (some 240) _ = _
                          simp only [Act.put, List.setIfInBounds_toArray, List.set_cons_zero, List.set_cons_succ, i64_w, i32_w]
                          rfl
                         refine pz 11 241 HT_ ?_
                         refine done_ (done_of HT_.out (by kernel_rfl)) ?_
                         try go_wp2
                         go_roundg k5
                         case measure => have := HJ5.out; have := HJ23.out; have := HK3.out; have := HJ76.out; have := HK5.out; omega
                         case rel => exact ⟨(Jl), (by first | rfl | (simp; done) | (simp [*]; done)), H', ⟨by have := HJ5.out; have := HJ23.out; have := HK3.out; have := HJ76.out; have := HK5.out; omega⟩, ⟨by (with_reducible repeat (first | apply Kd.R_alloc | apply Kd.R_drewN | apply Kd.R_drew)); exact HO_7.out⟩, ⟨pk q3⟩, ⟨pk q2⟩, ⟨pk q4⟩, ⟨pk q5⟩, ⟨pk q6⟩, ⟨pk q7⟩, ⟨pk qi⟩, ⟨pk ql⟩, ⟨pk qr⟩, ⟨pk jU⟩, ⟨bnow HB⟩⟩
                        ·replace JW := Bool.eq_false_iff.mpr JW
                         subst JW
                         have H1 : (none) = some r := by rw [if_neg (show ¬ (false = true) by decide)] at H; exact H
                         clear H
                         have H := H1
                         clear H1
                         exact absurd H (by simp)
                       ·rw [if_neg JV] at H
                        exact absurd H (by simp)
                      ·rw [if_neg JU] at H
                       exact absurd H (by simp)
                     ·rw [if_neg JT] at H
                      exact absurd H (by simp)
                    ·rw [if_neg JS] at H
                     exact absurd H (by simp)
                   ·rw [if_neg J9] at H
                    have q3v : decide (x31_5 < (q0.length : Int)) = false := decide_eq_false J9
                    clear J9
                    obtain ⟨Gr, E1790, H⟩ := oc H
                    have E179w : (IntKind.i64.wrap (x17_3 + 1)) = Gr := (i64_w _).trans E1790
                    have H' := Aside0.mk H
                    clear H
                    go_wp2
                    go_roundg k5
                    case measure => have := HJ5.out; have := HJ23.out; have := HK3.out; have := HJ76.out; have := HK5.out; omega
                    case rel => exact ⟨(Gr), (by first | rfl | (simp; done) | (simp [*]; done)), H', ⟨by have := HJ5.out; have := HJ23.out; have := HK3.out; have := HJ76.out; have := HK5.out; omega⟩, ⟨by (with_reducible repeat (first | apply Kd.R_alloc | apply Kd.R_drewN | apply Kd.R_drew)); exact HO_7.out⟩, ⟨pk q3⟩, ⟨pk q2⟩, ⟨pk q4⟩, ⟨pk q5⟩, ⟨pk q6⟩, ⟨pk q7⟩, ⟨bnow HB⟩⟩
             ·replace c67 := Bool.eq_false_iff.mpr c67
              subst c67
              have H1 : (none) = some r := by rw [if_neg (show ¬ (false = true) by decide)] at H; exact H
              clear H
              have H := H1
              clear H1
              exact absurd H (by simp)
            ·rw [if_neg c65] at H
             exact absurd H (by simp)
           ·rw [if_neg c64] at H
            exact absurd H (by simp)
          ·rw [if_neg c63] at H
           have q3y : decide (x17_3 < (q0.length : Int)) = false := decide_eq_false c63
           clear c63
           obtain ⟨⟨Jh, gP⟩, GW, H⟩ := ob H
           obtain ⟨Qb, GX, H⟩ := ob H
           by_cases Ja : ((gP == 0) == Qb) = true
           ·rw [if_pos Ja] at H
            have q0A : ((gP == 0) == Qb) = true := Ja
            (try (have q4m : decide ((gP == 0) = Qb) = true := by simpa using Ja))
            (try (have q4n : ((gP == 0) == Qb) = true := by simpa using Ja))
            clear Ja
            by_cases J5 : gP = 0
            ·rw [if_pos J5] at H
             have GF : (gP == 0) = true := beq_iff_eq.mpr J5
             have q3x : Qb = true := by simpa [GF] using q0A
             have q3w : (gP != 0) = false := bne_eq_false_iff_eq.mpr J5
             clear J5
             obtain ⟨J7, q2u, H⟩ := ob H
             by_cases Jb : (Jh == J7) = true
             ·rw [if_pos Jb] at H
              have q4o : (Jh == J7) = true := Jb
              (try (have q4p : decide (Jh = J7) = true := by simpa using Jb))
              (try (have q4q : (Jh == J7) = true := by simpa using Jb))
              clear Jb
              obtain ⟨GO, q2v, H⟩ := ob H
              obtain rfl := Option.some.inj H
              have q7Z := QS.out
              have q9h := QU.out
              have q80 := QT.out
              have q9i := QV.out
              have q81 := ga.out
              have q9j := gj.out
              have q82 := gb.out
              have q9k := gm.out
              have q83 := gc.out
              have q9l := gn.out
              have ⟨q4T, q4U, q4V, q5B, q5C, q5D⟩ := cf3 q3
              have q84 := GD.out
              have q9m := GC.out
              have q85 := gg.out
              have q9n := gt.out
              have q86 := gh.out
              have q9o := gx.out
              have q87 := gi.out
              have q9p := gA.out
              have ⟨q4W, q4X, q4Y, q4Z, q5E, q5F, q5G, q5H⟩ := cf4 q4
              go_wp2_with (first | ((with_reducible refine gate_callee (f := 24) rfl ?_); refine gl 245 Try.func24 (grids_Keeps.calls k3 a0_0 a0_1 a0_2 a2_0 a2_1 a2_2 a2_3 Jh gP _ GW.out) ?_; rintro e qbo ⟨rfl, hb⟩; refine ⟨_, rfl, ?_⟩; replace HO_7 := Aside0.mk (Kd.R_below (by (with_reducible repeat (first | apply Kd.R_alloc | apply Kd.R_drewN | apply Kd.R_drew)); exact HO_7.out) hb); replace q3 := bb q3 hb; replace q2 := bb q2 hb; replace q4 := bb q4 hb; replace q5 := bb q5 hb; replace q6 := bb q6 hb; replace q7 := bb q7 hb; replace HB := bst HB hb; (try clear hb); (try clear hb2); (try clear hk); (try clear hi); have ⟨q50, q51, q52, q53, q5I, q5J, q5K, q5L⟩ := cf4 q4) | ((with_reducible refine gate_callee (f := 15) rfl ?_); refine gl 251 Try.func15 (torchonref06_Matrix.calls a2_0 a2_1 a2_2 a2_3 Qb _ GX.out) ?_; rintro e qbp ⟨rfl, hb⟩; refine ⟨_, rfl, ?_⟩; replace HO_7 := Aside0.mk (Kd.R_below (by (with_reducible repeat (first | apply Kd.R_alloc | apply Kd.R_drewN | apply Kd.R_drew)); exact HO_7.out) hb); replace q3 := bb q3 hb; replace q2 := bb q2 hb; replace q4 := bb q4 hb; replace q5 := bb q5 hb; replace q6 := bb q6 hb; replace q7 := bb q7 hb; replace HB := bst HB hb; (try clear hb); (try clear hb2); (try clear hk); (try clear hi); have ⟨q54, q55, q56, q57, q5M, q5N, q5O, q5P⟩ := cf4 q4) | (go_at_call 36; (with_reducible refine (torchonlaw06_in.calls k3 _ _ q0 a2_0 a2_1 a2_2 a2_3 J7 _ ?side1 ?side2 q2u.out).mono ?_); (case side1 => repeat (first | exact (Kd.R_reads' HO_7.out).2.2 | (with_reducible refine Kd.C_alloc ?_ _) | (with_reducible refine Kd.C_drewN ?_ _) | (with_reducible refine Kd.C_drew ?_))); (case side2 => exact (Kd.R_reads' HO_7.out).2.1); rintro e qbq ⟨rfl, hb⟩; replace HO_7 := Aside0.mk (Kd.R_below (by (with_reducible repeat (first | apply Kd.R_alloc | apply Kd.R_drewN | apply Kd.R_drew)); exact HO_7.out) hb); replace q3 := bb q3 hb; replace q2 := bb q2 hb; replace q4 := bb q4 hb; replace q5 := bb q5 hb; replace q6 := bb q6 hb; replace q7 := bb q7 hb; replace HB := bst HB hb; (try clear hb); (try clear hb2); (try clear hk); (try clear hi)) | (go_at_call 13; (with_reducible refine (torchonlaw06_awake.calls k3  GO _ q2v.out).mono ?_); rintro e qbr ⟨rfl, hb⟩; replace HO_7 := Aside0.mk (Kd.R_below (by (with_reducible repeat (first | apply Kd.R_alloc | apply Kd.R_drewN | apply Kd.R_drew)); exact HO_7.out) hb); replace q3 := bb q3 hb; replace q2 := bb q2 hb; replace q4 := bb q4 hb; replace q5 := bb q5 hb; replace q6 := bb q6 hb; replace q7 := bb q7 hb; replace HB := bst HB hb; (try clear hb); (try clear hb2); (try clear hk); (try clear hi)))
              go_ret
              exact rt HB
             ·rw [if_neg Jb] at H
              exact absurd H (by simp)
            ·rw [if_neg J5] at H
             have GF : (gP == 0) = false := beq_eq_false_iff_ne.mpr J5
             have q3x : Qb = false := by simpa [GF] using q0A
             have q3w : (gP != 0) = true := bne_iff_ne.mpr J5
             obtain ⟨GP, q2w, H⟩ := ob H
             obtain rfl := Option.some.inj H
             have q88 := QS.out
             have q9q := QU.out
             have q89 := QT.out
             have q9r := QV.out
             have q8a := ga.out
             have q9s := gj.out
             have q8b := gb.out
             have q9t := gm.out
             have q8c := gc.out
             have q9u := gn.out
             have ⟨q58, q59, q5a, q5Q, q5R, q5S⟩ := cf3 q3
             have q8d := GD.out
             have q9v := GC.out
             have q8e := gg.out
             have q9w := gt.out
             have q8f := gh.out
             have q9x := gx.out
             have q8g := gi.out
             have q9y := gA.out
             have ⟨q5b, q5c, q5d, q5e, q5T, q5U, q5V, q5W⟩ := cf4 q4
             go_wp2_with (first | ((with_reducible refine gate_callee (f := 24) rfl ?_); refine gl 245 Try.func24 (grids_Keeps.calls k3 a0_0 a0_1 a0_2 a2_0 a2_1 a2_2 a2_3 Jh gP _ GW.out) ?_; rintro e qbs ⟨rfl, hb⟩; refine ⟨_, rfl, ?_⟩; replace HO_7 := Aside0.mk (Kd.R_below (by (with_reducible repeat (first | apply Kd.R_alloc | apply Kd.R_drewN | apply Kd.R_drew)); exact HO_7.out) hb); replace q3 := bb q3 hb; replace q2 := bb q2 hb; replace q4 := bb q4 hb; replace q5 := bb q5 hb; replace q6 := bb q6 hb; replace q7 := bb q7 hb; replace HB := bst HB hb; (try clear hb); (try clear hb2); (try clear hk); (try clear hi); have ⟨q5f, q5g, q5h, q5i, q5X, q5Y, q5Z, q60⟩ := cf4 q4) | ((with_reducible refine gate_callee (f := 15) rfl ?_); refine gl 251 Try.func15 (torchonref06_Matrix.calls a2_0 a2_1 a2_2 a2_3 Qb _ GX.out) ?_; rintro e qbt ⟨rfl, hb⟩; refine ⟨_, rfl, ?_⟩; replace HO_7 := Aside0.mk (Kd.R_below (by (with_reducible repeat (first | apply Kd.R_alloc | apply Kd.R_drewN | apply Kd.R_drew)); exact HO_7.out) hb); replace q3 := bb q3 hb; replace q2 := bb q2 hb; replace q4 := bb q4 hb; replace q5 := bb q5 hb; replace q6 := bb q6 hb; replace q7 := bb q7 hb; replace HB := bst HB hb; (try clear hb); (try clear hb2); (try clear hk); (try clear hi)) | (go_at_call 13; (with_reducible refine (torchonlaw06_awake.calls k3  GP _ q2w.out).mono ?_); rintro e qbu ⟨rfl, hb⟩; replace HO_7 := Aside0.mk (Kd.R_below (by (with_reducible repeat (first | apply Kd.R_alloc | apply Kd.R_drewN | apply Kd.R_drew)); exact HO_7.out) hb); replace q3 := bb q3 hb; replace q2 := bb q2 hb; replace q4 := bb q4 hb; replace q5 := bb q5 hb; replace q6 := bb q6 hb; replace q7 := bb q7 hb; replace HB := bst HB hb; (try clear hb); (try clear hb2); (try clear hk); (try clear hi)))
             go_ret
             exact rt HB
           ·rw [if_neg Ja] at H
            exact absurd H (by simp)
 ·rw [if_neg c5] at H
  have q0B : (J6 == 0) = false := beq_eq_false_iff_ne.mpr c5
  have q0C : (J6 != 0) = true := bne_iff_ne.mpr c5
  by_cases Jx : (q0.length : Int) = 0
  ·rw [if_pos Jx] at H
   have q4r : ((q0.length : Int) == 0) = true := beq_iff_eq.mpr Jx
   have q4s : ((q0.length : Int) != 0) = false := bne_eq_false_iff_eq.mpr Jx
   clear Jx
   obtain ⟨QQ, q2x, H⟩ := ob H
   by_cases Jy : QQ = 2
   ·rw [if_pos Jy] at H
    have q4t : (QQ == 2) = true := beq_iff_eq.mpr Jy
    have q4u : (QQ != 2) = false := bne_eq_false_iff_eq.mpr Jy
    clear Jy
    obtain ⟨JM, q2y, H⟩ := ob H
    obtain rfl := Option.some.inj H
    go_enter Try.func9, Try.ntmps9
    go_wp2_with (first | ((with_reducible refine gate_dst (N := 3) rfl ?_); refine bx 3 #[.int .i64 a0_0, .int .i64 a0_1, .int .i64 a0_2] 23 fun jV hg qbv q3 hb => ?_; have q2C := gw hg HB; have q2z := gw hg HB; replace HB := bst HB hb; clear hb hg) | ((with_reducible refine gate_dst (N := 4) rfl ?_); refine bx 4 #[.int .i64 a1_0, .int .i64 a1_1, .int .i64 a1_2, .int .i64 a1_3, .int .i64 a1_4, .int .i64 a1_5, .int .i64 a1_6, .int .i64 a1_7] 39 fun qq hg qbw q2 hb => ?_; have q2D := gw hg HB; have q2A := gw hg HB; have QS := nlt hg q3; have QU := ngt hg q3; replace q3 := bb q3 hb; replace HB := bst HB hb; clear hb hg) | ((with_reducible refine gate_dst (N := 5) rfl ?_); refine bx 5 #[.int .i64 a2_0, .int .i64 a2_1, .int .i64 a2_2, .int .i64 a2_3] 25 fun qs hg qbx q4 hb => ?_; have q2E := gw hg HB; have q2B := gw hg HB; have QT := nlt hg q3; have QV := ngt hg q3; have GC := nlt hg q2; have GD := ngt hg q2; replace q3 := bb q3 hb; replace q2 := bb q2 hb; replace HB := bst HB hb; clear hb hg; have q8h := QS.out; have q9z := QU.out; have q8i := QT.out; have q9A := QV.out; have ⟨q5j, q5k, q5l, q61, q62, q63⟩ := cf3 q3) | ((with_reducible refine gate_callee (f := 22) rfl ?_); refine goesL_ (some 36) rfl rfl Try.func22 (by kernel_rfl) rfl #[.agg #[.int .i64 a0_0, .int .i64 a0_1, .int .i64 a0_2]] rfl am ?_; (with_reducible refine (grids_Group.calls k a0_0 a0_1 a0_2 q0 J6 _ A4.out).mono ?_); rintro e qby ⟨v1031, rfl, ho0, hb⟩; refine ⟨_, rfl, ?_⟩; have gH := Aside0.mk (Kd.R_lower (Kd.R_newB ho0 (g := qs) (o := .cells #[.int .i64 a2_0, .int .i64 a2_1, .int .i64 a2_2, .int .i64 a2_3] 25 (0, 0)) (pk q4)) (below_size (bnow HB))); replace q3 := bb q3 hb; replace q2 := bb q2 hb; replace q4 := bb q4 hb; replace HB := bst HB hb; (try clear hb); (try clear hb2); (try clear hk); (try clear hi); (try clear ho0); obtain ⟨q4f, q4x, q3O⟩ := Kd.R_slice gH.out; subst q3O; have ⟨q5m, q5n, q5o, q64, q65, q66⟩ := cf3 q3) | (go_at_call 14; (with_reducible refine (grids_Check.calls k a0_0 a0_1 a0_2 QQ _ q2x.out).mono ?_); rintro e qbz ⟨rfl, hb⟩; replace gH := Aside0.mk (Kd.R_below (by (with_reducible repeat (first | apply Kd.R_alloc | apply Kd.R_drewN | apply Kd.R_drew)); exact gH.out) hb); replace q3 := bb q3 hb; replace q2 := bb q2 hb; replace q4 := bb q4 hb; replace HB := bst HB hb; (try clear hb); (try clear hb2); (try clear hk); (try clear hi)) | (go_at_call 13; (with_reducible refine (torchonlaw06_awake.calls k  JM _ q2y.out).mono ?_); rintro e qbA ⟨rfl, hb⟩; replace gH := Aside0.mk (Kd.R_below (by (with_reducible repeat (first | apply Kd.R_alloc | apply Kd.R_drewN | apply Kd.R_drew)); exact gH.out) hb); replace q3 := bb q3 hb; replace q2 := bb q2 hb; replace q4 := bb q4 hb; replace HB := bst HB hb; (try clear hb); (try clear hb2); (try clear hk); (try clear hi)))
    go_ret
    exact rt HB
   ·rw [if_neg Jy] at H
    exact absurd H (by simp)
  ·rw [if_neg Jx] at H
   exact absurd H (by simp)
end
end Go.Proofs.Ytmcajdepoohlhaa.G
