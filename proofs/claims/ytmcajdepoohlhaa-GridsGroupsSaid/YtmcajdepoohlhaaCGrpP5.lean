/- Functions of the program as plain Lean functions, and their contracts (printed by a program of this session). No condition beyond what each states. -/
import Derived.Test.YtmcajdepoohlhaaCGrpY
import Derived.Test.YtmcajdepoohlhaaCGrpP0
import Derived.Test.YtmcajdepoohlhaaCGrpP1
import Derived.Test.YtmcajdepoohlhaaCGrpP2
import Derived.Test.YtmcajdepoohlhaaCGrpP3
import Derived.Test.YtmcajdepoohlhaaCGrpP4
namespace Go.Proofs.Ytmcajdepoohlhaa.G
open Go.RowKit Go.Proofs.YtmcajdepoohlhaaW.PrintWords Go.Proofs.YtmcajdepoohlhaaW.PrintLast Go.Proofs.YtmcajdepoohlhaaW.PrintMore
attribute [local go_sem] max2_int min2_int max_two min_two max_three min_three max_four min_four
set_option linter.unusedVariables false
set_option linter.unusedSimpArgs false
section
attribute [local go_sem high] eqA23 eqA25 eqA37
/-! ### torchonlaw06_awake: function 13 -/
def torchonlaw06_awake.j0 : Nat → Int → Int → Int → List (S25) → Int → Bool → Int → Int → Int → Int → Int → Int → Int → Int → Int → Option (Bool)
 | 0, _, _, _, _, _, _, _, _, _, _, _, _, _, _, _ => none
 | k + 1, x2, x4, x6, x8, x12, x89, x623000, x623001, x638000, x638001, x638002, x639000, x639001, x639002, x639003 => if x89 = true then (none) else (if x2 = 6 then (if x4 = 1 then (if x6 = 1 then (if (x8.length : Int) = 12 then ((torchonlaw06_pt.f 1 5).bind fun qR => (if (x623000 == qR.1 && (x623001 == qR.2)) = true then (if x12 = 6 then (if (x638000 == 1 && (x638001 == 0 && (x638002 == 1))) = true then ((torchonlaw06_mat.f (-3) (-1) 2 1).bind fun qm => (some (x639000 == qm.1 && (x639001 == qm.2.1 && (x639002 == qm.2.2.1 && (x639003 == qm.2.2.2)))))) else (none)) else (none)) else (none))) else (none)) else (none)) else (none)) else (none))
def torchonlaw06_awake.f (k : Nat)  : Option (Bool) := (torchonlaw06_pt.f 0 0).bind fun qG => ((torchonlaw06_pt.f 1 1).bind fun qH => ((grids_Square.f k 2 1 2 qG.1 qG.2 qH.1 qH.2).bind fun q8 => ((torchonlaw06_pt.f 0 0).bind fun qI => ((torchonlaw06_pt.f 1 0).bind fun qJ => ((torchonlaw06_pt.f 0 1).bind fun qK => ((grids_Side.f k qI.1 qI.2 qJ.1 qJ.2 qK.1 qK.2).bind fun q9 => ((torchonlaw06_pt.f 0 0).bind fun qL => ((torchonlaw06_pt.f 1 0).bind fun qM => ((torchonlaw06_pt.f 1 (-1)).bind fun qN => ((torchonlaw06_pt.f 0 1).bind fun qO => ((grids_Turn.f k qL.1 qL.2 qM.1 qM.2 qN.1 qN.2 qO.1 qO.2).bind fun qa => ((grids_Group.f k 2 1 2).bind fun qb => ((torchonlaw06_mat.f 0 (-1) 1 0).bind fun qk => ((torchonlaw06_pt.f 3 4).bind fun qP => ((torchonlaw06_pt.f 1 2).bind fun qQ => ((grids_Apply.f k qk.1 qk.2.1 qk.2.2.1 qk.2.2.2 qP.1 qP.2 qQ.1 qQ.2).bind fun q6 => ((torchonlaw06_mat.f 1 (-1) 1 0).bind fun ql => ((grids_Order.f k ql.1 ql.2.1 ql.2.2.1 ql.2.2.2).bind fun qc => ((grids_Reduce.f k 5 7 10).bind fun q0 => (if q8.2 = 0 then (if q9.2 = 0 then (if qa.2 = 0 then (if qb.2 = 0 then (if q6.2.2 = 0 then (if qc.2 = 0 then (torchonlaw06_awake.j0 k q8.1 q9.1 qa.1 qb.1 qc.1 (q0.2.2.2.2.2.2.2 != 0) q6.1 q6.2.1 q0.1 q0.2.1 q0.2.2.1 q0.2.2.2.1 q0.2.2.2.2.1 q0.2.2.2.2.2.1 q0.2.2.2.2.2.2.1) else (torchonlaw06_awake.j0 k q8.1 q9.1 qa.1 qb.1 qc.1 true q6.1 q6.2.1 q0.1 q0.2.1 q0.2.2.1 q0.2.2.2.1 q0.2.2.2.2.1 q0.2.2.2.2.2.1 q0.2.2.2.2.2.2.1)) else (torchonlaw06_awake.j0 k q8.1 q9.1 qa.1 qb.1 qc.1 true q6.1 q6.2.1 q0.1 q0.2.1 q0.2.2.1 q0.2.2.2.1 q0.2.2.2.2.1 q0.2.2.2.2.2.1 q0.2.2.2.2.2.2.1)) else (torchonlaw06_awake.j0 k q8.1 q9.1 qa.1 qb.1 qc.1 true q6.1 q6.2.1 q0.1 q0.2.1 q0.2.2.1 q0.2.2.2.1 q0.2.2.2.2.1 q0.2.2.2.2.2.1 q0.2.2.2.2.2.2.1)) else (torchonlaw06_awake.j0 k q8.1 q9.1 qa.1 qb.1 qc.1 true q6.1 q6.2.1 q0.1 q0.2.1 q0.2.2.1 q0.2.2.2.1 q0.2.2.2.2.1 q0.2.2.2.2.2.1 q0.2.2.2.2.2.2.1)) else (torchonlaw06_awake.j0 k q8.1 q9.1 qa.1 qb.1 qc.1 true q6.1 q6.2.1 q0.1 q0.2.1 q0.2.2.1 q0.2.2.2.1 q0.2.2.2.2.1 q0.2.2.2.2.2.1 q0.2.2.2.2.2.2.1)) else (torchonlaw06_awake.j0 k q8.1 q9.1 qa.1 qb.1 qc.1 true q6.1 q6.2.1 q0.1 q0.2.1 q0.2.2.1 q0.2.2.2.1 q0.2.2.2.2.1 q0.2.2.2.2.2.1 q0.2.2.2.2.2.2.1)))))))))))))))))))))
theorem torchonlaw06_awake.mono_l : ∀ k, (∀ y0 y1 y2 y3 y4 y5 y6 y7 y8 y9 y10 y11 y12 y13 y14, LeO (torchonlaw06_awake.j0 k y0 y1 y2 y3 y4 y5 y6 y7 y8 y9 y10 y11 y12 y13 y14) (torchonlaw06_awake.j0 (k + 1) y0 y1 y2 y3 y4 y5 y6 y7 y8 y9 y10 y11 y12 y13 y14))
 | 0 => fun _ _ _ _ _ _ _ _ _ _ _ _ _ _ _ r h => by simp [torchonlaw06_awake.j0] at h
 | k + 1 => by
  have ih0 := torchonlaw06_awake.mono_l k
  ·intro y0 y1 y2 y3 y4 y5 y6 y7 y8 y9 y10 y11 y12 y13 y14
   unfold torchonlaw06_awake.j0
   repeat' first
   | (with_reducible exact ih0 _ _ _ _ _ _ _ _ _ _ _ _ _ _ _)
   | (with_reducible exact grids_Apply.mono _ _ _ _ _ _ _ _ _)
   | (with_reducible exact grids_Group.mono _ _ _ _)
   | (with_reducible exact grids_Order.mono _ _ _ _ _)
   | (with_reducible exact grids_Reduce.mono _ _ _ _)
   | (with_reducible exact grids_Side.mono _ _ _ _ _ _ _)
   | (with_reducible exact grids_Square.mono _ _ _ _ _ _ _ _)
   | (with_reducible exact grids_Turn.mono _ _ _ _ _ _ _ _ _)
   | (with_reducible exact LeO.refl _)
   | (with_reducible exact LeO.none _)
   | (with_reducible refine LeO.ite ?_ ?_)
   | (with_reducible refine LeO.bind ?_ (fun _ => ?_))
   | exact ih0 _ _ _ _ _ _ _ _ _ _ _ _ _ _ _
   | exact grids_Apply.mono _ _ _ _ _ _ _ _ _
   | exact grids_Group.mono _ _ _ _
   | exact grids_Order.mono _ _ _ _ _
   | exact grids_Reduce.mono _ _ _ _
   | exact grids_Side.mono _ _ _ _ _ _ _
   | exact grids_Square.mono _ _ _ _ _ _ _ _
   | exact grids_Turn.mono _ _ _ _ _ _ _ _ _
   | exact LeO.none _
   | refine LeO.ite ?_ ?_
   | refine LeO.bind ?_ (fun _ => ?_)
theorem torchonlaw06_awake.mono : ∀ k, LeO (torchonlaw06_awake.f k ) (torchonlaw06_awake.f (k + 1) ) := by
 intro  k
 have ih0 := torchonlaw06_awake.mono_l k
 unfold torchonlaw06_awake.f
 repeat' first
   | (with_reducible exact ih0 _ _ _ _ _ _ _ _ _ _ _ _ _ _ _)
   | (with_reducible exact grids_Apply.mono _ _ _ _ _ _ _ _ _)
   | (with_reducible exact grids_Group.mono _ _ _ _)
   | (with_reducible exact grids_Order.mono _ _ _ _ _)
   | (with_reducible exact grids_Reduce.mono _ _ _ _)
   | (with_reducible exact grids_Side.mono _ _ _ _ _ _ _)
   | (with_reducible exact grids_Square.mono _ _ _ _ _ _ _ _)
   | (with_reducible exact grids_Turn.mono _ _ _ _ _ _ _ _ _)
   | (with_reducible exact LeO.refl _)
   | (with_reducible exact LeO.none _)
   | (with_reducible refine LeO.ite ?_ ?_)
   | (with_reducible refine LeO.bind ?_ (fun _ => ?_))
   | exact ih0 _ _ _ _ _ _ _ _ _ _ _ _ _ _ _
   | exact grids_Apply.mono _ _ _ _ _ _ _ _ _
   | exact grids_Group.mono _ _ _ _
   | exact grids_Order.mono _ _ _ _ _
   | exact grids_Reduce.mono _ _ _ _
   | exact grids_Side.mono _ _ _ _ _ _ _
   | exact grids_Square.mono _ _ _ _ _ _ _ _
   | exact grids_Turn.mono _ _ _ _ _ _ _ _ _
   | exact LeO.none _
   | refine LeO.ite ?_ ?_
   | refine LeO.bind ?_ (fun _ => ?_)
def torchonlaw06_awake.T2 : Bool × List (List Nat × List Nat) := (true, [([], []), ([], []), ([1], []), ([0, 1, 2, 2], [0, 1, 2]), ([3], [3]), ([4], [4]), ([4], [4]), ([5, 3, 0, 1, 2, 3, 4, 5], [5]), ([6, 7, 0, 1, 2, 3, 4, 5, 6, 7], [6])])
def torchonlaw06_awake.B2 : List Nat := [0, 0, 2, 7, 15, 31, 31, 63, 255]
theorem torchonlaw06_awake.tab2 : rtab .any (opsOf Try.f13 2) = torchonlaw06_awake.T2 := by kernel_rfl
theorem torchonlaw06_awake.bits2 : waitsOk torchonlaw06_awake.T2.2 torchonlaw06_awake.B2 = true := by kernel_rfl
def torchonlaw06_awake.T11 : Bool × List (List Nat × List Nat) := (true, [([], []), ([0], [0]), ([1], [1]), ([2], [2]), ([3, 2], [2, 3]), ([2, 4], [2, 4]), ([5, 2], [5]), ([6], [6]), ([7, 6], [6, 7]), ([6, 8], [6, 8]), ([9, 6], [9]), ([10], [10]), ([11, 10], [10, 11]), ([12, 10], [10, 12]), ([10, 13], [10, 13]), ([14, 10], [14]), ([15], [15]), ([15, 15], [15]), ([16, 17, 15], [15, 16, 17]), ([15, 18], [15, 18]), ([19, 17], [19]), ([20], [20]), ([21, 20], [20, 21]), ([20, 22], [20, 22]), ([23, 20], [23]), ([24], [24]), ([24], [24]), ([25, 26, 24], [24, 25, 26]), ([24, 27], [24, 27]), ([28, 24], [28]), ([29], [29]), ([29, 29], [29]), ([30, 31, 29], [29, 30, 31]), ([29, 32], [29, 32]), ([33, 31, 0, 1, 2, 3, 4, 5, 6, 7, 8, 9, 10, 11, 12, 13, 14, 15, 16, 17, 18, 19, 20, 21, 22, 23, 24, 25, 26, 27, 28, 29, 30, 31, 32, 33], [33])])
def torchonlaw06_awake.B11 : List Nat := [0, 1, 3, 7, 15, 31, 63, 127, 255, 511, 1023, 2047, 4095, 8191, 16383, 32767, 65535, 65535, 262143, 524287, 1048575, 2097151, 4194303, 8388607, 16777215, 33554431, 33554431, 134217727, 268435455, 536870911, 1073741823, 1073741823, 4294967295, 8589934591, 17179869183]
theorem torchonlaw06_awake.tab11 : rtab .any (opsOf Try.f13 11) = torchonlaw06_awake.T11 := by kernel_rfl
theorem torchonlaw06_awake.bits11 : waitsOk torchonlaw06_awake.T11.2 torchonlaw06_awake.B11 = true := by kernel_rfl
set_option maxHeartbeats 8000000 in
set_option maxRecDepth 100000 in
theorem torchonlaw06_awake.calls (k : Nat)  (r : Bool) (w : World) (h : torchonlaw06_awake.f k  = some r) :
  Calls Try.prog 13 #[] w fun e w' => e = .returned (.bool r) ∧ Below w.heap.size w w' := by
 have hu23 := Try.underlying23
 have hu55 := Try.underlying55
 have hu37 := Try.underlying37
 have hu25 := Try.underlying25
 have HB := Aside0.mk (Below.refl w.heap.size w)
 have H : ((torchonlaw06_pt.f 0 0).bind fun qG => ((torchonlaw06_pt.f 1 1).bind fun qH => ((grids_Square.f k 2 1 2 qG.1 qG.2 qH.1 qH.2).bind fun q8 => ((torchonlaw06_pt.f 0 0).bind fun qI => ((torchonlaw06_pt.f 1 0).bind fun qJ => ((torchonlaw06_pt.f 0 1).bind fun qK => ((grids_Side.f k qI.1 qI.2 qJ.1 qJ.2 qK.1 qK.2).bind fun q9 => ((torchonlaw06_pt.f 0 0).bind fun qL => ((torchonlaw06_pt.f 1 0).bind fun qM => ((torchonlaw06_pt.f 1 (-1)).bind fun qN => ((torchonlaw06_pt.f 0 1).bind fun qO => ((grids_Turn.f k qL.1 qL.2 qM.1 qM.2 qN.1 qN.2 qO.1 qO.2).bind fun qa => ((grids_Group.f k 2 1 2).bind fun qb => ((torchonlaw06_mat.f 0 (-1) 1 0).bind fun qk => ((torchonlaw06_pt.f 3 4).bind fun qP => ((torchonlaw06_pt.f 1 2).bind fun qQ => ((grids_Apply.f k qk.1 qk.2.1 qk.2.2.1 qk.2.2.2 qP.1 qP.2 qQ.1 qQ.2).bind fun q6 => ((torchonlaw06_mat.f 1 (-1) 1 0).bind fun ql => ((grids_Order.f k ql.1 ql.2.1 ql.2.2.1 ql.2.2.2).bind fun qc => ((grids_Reduce.f k 5 7 10).bind fun q0 => (if q8.2 = 0 then (if q9.2 = 0 then (if qa.2 = 0 then (if qb.2 = 0 then (if q6.2.2 = 0 then (if qc.2 = 0 then (torchonlaw06_awake.j0 k q8.1 q9.1 qa.1 qb.1 qc.1 (q0.2.2.2.2.2.2.2 != 0) q6.1 q6.2.1 q0.1 q0.2.1 q0.2.2.1 q0.2.2.2.1 q0.2.2.2.2.1 q0.2.2.2.2.2.1 q0.2.2.2.2.2.2.1) else (torchonlaw06_awake.j0 k q8.1 q9.1 qa.1 qb.1 qc.1 true q6.1 q6.2.1 q0.1 q0.2.1 q0.2.2.1 q0.2.2.2.1 q0.2.2.2.2.1 q0.2.2.2.2.2.1 q0.2.2.2.2.2.2.1)) else (torchonlaw06_awake.j0 k q8.1 q9.1 qa.1 qb.1 qc.1 true q6.1 q6.2.1 q0.1 q0.2.1 q0.2.2.1 q0.2.2.2.1 q0.2.2.2.2.1 q0.2.2.2.2.2.1 q0.2.2.2.2.2.2.1)) else (torchonlaw06_awake.j0 k q8.1 q9.1 qa.1 qb.1 qc.1 true q6.1 q6.2.1 q0.1 q0.2.1 q0.2.2.1 q0.2.2.2.1 q0.2.2.2.2.1 q0.2.2.2.2.2.1 q0.2.2.2.2.2.2.1)) else (torchonlaw06_awake.j0 k q8.1 q9.1 qa.1 qb.1 qc.1 true q6.1 q6.2.1 q0.1 q0.2.1 q0.2.2.1 q0.2.2.2.1 q0.2.2.2.2.1 q0.2.2.2.2.2.1 q0.2.2.2.2.2.2.1)) else (torchonlaw06_awake.j0 k q8.1 q9.1 qa.1 qb.1 qc.1 true q6.1 q6.2.1 q0.1 q0.2.1 q0.2.2.1 q0.2.2.2.1 q0.2.2.2.2.1 q0.2.2.2.2.2.1 q0.2.2.2.2.2.2.1)) else (torchonlaw06_awake.j0 k q8.1 q9.1 qa.1 qb.1 qc.1 true q6.1 q6.2.1 q0.1 q0.2.1 q0.2.2.1 q0.2.2.2.1 q0.2.2.2.2.1 q0.2.2.2.2.2.1 q0.2.2.2.2.2.2.1)))))))))))))))))))))) = some r := h
 clear h
 obtain ⟨⟨j6, j7⟩, A1, H⟩ := ob H
 obtain ⟨⟨j8, j9⟩, A2, H⟩ := ob H
 obtain ⟨⟨qq, qA⟩, A3, H⟩ := ob H
 obtain ⟨⟨ja, jb⟩, A4, H⟩ := ob H
 obtain ⟨⟨jc, jd⟩, A5, H⟩ := ob H
 obtain ⟨⟨je, jf⟩, A6, H⟩ := ob H
 obtain ⟨⟨qr, qB⟩, A7, H⟩ := ob H
 obtain ⟨⟨jg, jh⟩, A8, H⟩ := ob H
 obtain ⟨⟨ji, jj⟩, A9, H⟩ := ob H
 obtain ⟨⟨jk, jl⟩, A10, H⟩ := ob H
 obtain ⟨⟨jm, jn⟩, A11, H⟩ := ob H
 obtain ⟨⟨qs, qC⟩, A12, H⟩ := ob H
 obtain ⟨⟨qi, qD⟩, A13, H⟩ := ob H
 obtain ⟨⟨jo, jp, jq, jr⟩, A14, H⟩ := ob H
 obtain ⟨⟨js, jt⟩, A15, H⟩ := ob H
 obtain ⟨⟨ju, jv⟩, A16, H⟩ := ob H
 obtain ⟨⟨qd, qe, qE⟩, A17, H⟩ := ob H
 obtain ⟨⟨jw, jx, jy, jz⟩, A18, H⟩ := ob H
 obtain ⟨⟨qt, qF⟩, A19, H⟩ := ob H
 obtain ⟨⟨qf, qg, qh, qu, qv, qw, qx, jA⟩, A20, H⟩ := ob H
 have qS := Aside0.mk H
 clear H
 go_enter Try.func13, Try.ntmps13
 try go_wp2_with (first | ((with_reducible refine gate_dst (N := 1) rfl ?_); (try (refine gate_guard (by rfl) ?_; dsimp only)); refine bx 1 #[.int .i64 0, .int .i64 0, .int .i64 0] 23 fun qp hg w22 q1 hb => ?_; have gI := gw hg HB; have gE := gw hg HB; replace HB := bst HB hb; clear hb hg; have ⟨g2, g3, g4, gh, gi, gj⟩ := cf3 q1) | ((with_reducible refine gate_store (t := 23) (p := 1) rfl ?_); refine sx 23 1 ((((w22.setCell ⟨qp, 0, none⟩ (.int .i64 2)).setCell ⟨qp, 1, none⟩ (.int .i64 1)).setCell ⟨qp, 2, none⟩ (.int .i64 2))) fun w24 hw => ?_; replace q1 := pw3 hw q1; replace HB := bw hw HB; clear hw))
 replace q1 := bd q1
 replace HB := bdn HB
 refine start_ (n := 9) (S := fun w' => w'.cell? ⟨qp, 0, none⟩ = some (.int .i64 2) ∧ w'.cell? ⟨qp, 1, none⟩ = some (.int .i64 1) ∧ w'.cell? ⟨qp, 2, none⟩ = some (.int .i64 2)) (ds := []) #[false, false, false, false, false, false, false, false, false] (by kernel_rfl) rfl rfl ⟨(blk_cell q1.out 0).trans rfl, (blk_cell q1.out 1).trans rfl, (blk_cell q1.out 2).trans rfl⟩ (fun hHeld => ?_); refine with_tabW torchonlaw06_awake.tab2 torchonlaw06_awake.bits2 (fun HT_ HW_ => ?_)
 generalize w24.drew = w25 at q1 HB hHeld ⊢
 refine tz 0 19 HT_ HW_ hHeld ?_
 refine one_ (i := 1) (N := some 20) #[true, true, false, false, false, false, false, false, false] rfl rfl (one_of HT_.out (by kernel_rfl)) (by decide) (fun K hK => ?_)
 refine gs _ Try.func19 (torchonlaw06_pt.calls 0 0 j6 j7 _ A1.out) ?_
 rintro e w26 ⟨rfl, hb⟩
 refine ⟨_, rfl, ?_⟩
 replace q1 := bb q1 hb
 replace HB := bst HB hb
 (try clear hb)
 (try clear hb2)
 (try clear hk)
 (try clear hi)
 refine hK.out _ _ ⟨(blk_cell q1.out 0).trans rfl, (blk_cell q1.out 1).trans rfl, (blk_cell q1.out 2).trans rfl⟩ (fun hHeld => ?_)
 clear hK K
 refine norm_ (a' := ?_) ?_ ?_
 rotate_left
 ·show Act.put _ (some 20) _ = _
  simp only [Act.put, List.setIfInBounds_toArray, List.set_cons_zero, List.set_cons_succ, i64_w, i32_w]
  rfl
 refine one_ (i := 2) (N := some 21) #[true, true, true, false, false, false, false, false, false] rfl rfl (one_of HT_.out (by kernel_rfl)) (by decide) (fun K hK => ?_)
 refine gs _ Try.func19 (torchonlaw06_pt.calls 1 1 j8 j9 _ A2.out) ?_
 rintro e w27 ⟨rfl, hb⟩
 refine ⟨_, rfl, ?_⟩
 replace q1 := bb q1 hb
 replace HB := bst HB hb
 (try clear hb)
 (try clear hb2)
 (try clear hk)
 (try clear hi)
 refine hK.out _ _ ⟨(blk_cell q1.out 0).trans rfl, (blk_cell q1.out 1).trans rfl, (blk_cell q1.out 2).trans rfl⟩ (fun hHeld => ?_)
 clear hK K
 refine norm_ (a' := ?_) ?_ ?_
 rotate_left
 ·show Act.put _ (some 21) _ = _
  simp only [Act.put, List.setIfInBounds_toArray, List.set_cons_zero, List.set_cons_succ, i64_w, i32_w]
  rfl
 refine one_ (i := 3) (N := some 22) #[true, true, true, true, false, false, false, false, false] rfl rfl (one_of HT_.out (by kernel_rfl)) (by decide) (fun K hK => ?_)
 refine gs _ Try.func20 (grids_Square.calls k 2 1 2 j6 j7 j8 j9 qq qA _ A3.out) ?_
 rintro e w28 ⟨rfl, hb⟩
 refine ⟨_, rfl, ?_⟩
 replace q1 := bb q1 hb
 replace HB := bst HB hb
 (try clear hb)
 (try clear hb2)
 (try clear hk)
 (try clear hi)
 refine hK.out _ _ ⟨(blk_cell q1.out 0).trans rfl, (blk_cell q1.out 1).trans rfl, (blk_cell q1.out 2).trans rfl⟩ (fun hHeld => ?_)
 clear hK K
 refine norm_ (a' := ?_) ?_ ?_
 rotate_left
 ·show Act.put _ (some 22) _ = _
  simp only [Act.put, List.setIfInBounds_toArray, List.set_cons_zero, List.set_cons_succ, i64_w, i32_w]
  rfl
 refine pz 4 18 HT_ ?_
 refine pz 5 23 HT_ ?_
 refine pz 6 24 HT_ ?_
 refine pz 7 2 HT_ ?_
 refine pz 8 3 HT_ ?_
 refine done_ (done_of HT_.out (by kernel_rfl)) ?_
 go_upto_region 9 with (first | ((with_reducible refine gate_callee (f := 19) rfl ?_); refine gl 26 Try.func19 (torchonlaw06_pt.calls 0 0 ja jb _ A4.out) ?_; rintro e w29 ⟨rfl, hb⟩; refine ⟨_, rfl, ?_⟩; replace q1 := bb q1 hb; replace HB := bst HB hb; clear hb) | ((with_reducible refine gate_callee (f := 19) rfl ?_); refine gl 27 Try.func19 (torchonlaw06_pt.calls 1 0 jc jd _ A5.out) ?_; rintro e w30 ⟨rfl, hb⟩; refine ⟨_, rfl, ?_⟩; replace q1 := bb q1 hb; replace HB := bst HB hb; clear hb) | ((with_reducible refine gate_callee (f := 19) rfl ?_); refine gl 28 Try.func19 (torchonlaw06_pt.calls 0 1 je jf _ A6.out) ?_; rintro e w31 ⟨rfl, hb⟩; refine ⟨_, rfl, ?_⟩; replace q1 := bb q1 hb; replace HB := bst HB hb; clear hb) | ((with_reducible refine gate_callee (f := 21) rfl ?_); refine gl 29 Try.func21 (grids_Side.calls k ja jb jc jd je jf qr qB _ A7.out) ?_; rintro e w32 ⟨rfl, hb⟩; refine ⟨_, rfl, ?_⟩; replace q1 := bb q1 hb; replace HB := bst HB hb; clear hb) | ((with_reducible refine gate_callee (f := 19) rfl ?_); refine gl 33 Try.func19 (torchonlaw06_pt.calls 0 0 jg jh _ A8.out) ?_; rintro e w33 ⟨rfl, hb⟩; refine ⟨_, rfl, ?_⟩; replace q1 := bb q1 hb; replace HB := bst HB hb; clear hb) | ((with_reducible refine gate_callee (f := 19) rfl ?_); refine gl 34 Try.func19 (torchonlaw06_pt.calls 1 0 ji jj _ A9.out) ?_; rintro e w34 ⟨rfl, hb⟩; refine ⟨_, rfl, ?_⟩; replace q1 := bb q1 hb; replace HB := bst HB hb; clear hb) | ((with_reducible refine gate_callee (f := 19) rfl ?_); refine gl 35 Try.func19 (torchonlaw06_pt.calls 1 (-1) jk jl _ A10.out) ?_; rintro e w35 ⟨rfl, hb⟩; refine ⟨_, rfl, ?_⟩; replace q1 := bb q1 hb; replace HB := bst HB hb; clear hb) | ((with_reducible refine gate_callee (f := 19) rfl ?_); refine gl 36 Try.func19 (torchonlaw06_pt.calls 0 1 jm jn _ A11.out) ?_; rintro e w36 ⟨rfl, hb⟩; refine ⟨_, rfl, ?_⟩; replace q1 := bb q1 hb; replace HB := bst HB hb; clear hb) | ((with_reducible refine gate_callee (f := 18) rfl ?_); refine gl 37 Try.func18 (grids_Turn.calls k jg jh ji jj jk jl jm jn qs qC _ A12.out) ?_; rintro e w37 ⟨rfl, hb⟩; refine ⟨_, rfl, ?_⟩; replace q1 := bb q1 hb; replace HB := bst HB hb; clear hb; have ⟨g5, g6, g7, gk, gm, gn⟩ := cf3 q1) | ((with_reducible refine gate_callee (f := 22) rfl ?_); refine goesL_ (some 42) rfl rfl Try.func22 (by kernel_rfl) rfl #[.agg #[.int .i64 2, .int .i64 1, .int .i64 2]] rfl am ?_; (with_reducible refine (grids_Group.calls k 2 1 2 qi qD _ A13.out).mono ?_); rintro e w39 ⟨v608, rfl, ho0, hb⟩; refine ⟨_, rfl, ?_⟩; have q5 := Aside0.mk (Kd.R_lower ho0 (below_size (bnow HB))); replace q1 := bb q1 hb; replace HB := bst HB hb; (try clear hb); (try clear hb2); (try clear hk); (try clear hi); (try clear ho0)) | ((with_reducible refine gate_callee (f := 17) rfl ?_); refine gl 46 Try.func17 (torchonlaw06_mat.calls 0 (-1) 1 0 jo jp jq jr _ A14.out) ?_; rintro e w40 ⟨rfl, hb⟩; refine ⟨_, rfl, ?_⟩; replace q5 := Aside0.mk (Kd.R_below (by (with_reducible repeat (first | apply Kd.R_alloc | apply Kd.R_drewN | apply Kd.R_drew)); exact q5.out) hb); replace q1 := bb q1 hb; replace HB := bst HB hb; (try clear hb); (try clear hb2); (try clear hk); (try clear hi)) | ((with_reducible refine gate_callee (f := 19) rfl ?_); refine gl 47 Try.func19 (torchonlaw06_pt.calls 3 4 js jt _ A15.out) ?_; rintro e w41 ⟨rfl, hb⟩; refine ⟨_, rfl, ?_⟩; replace q5 := Aside0.mk (Kd.R_below (by (with_reducible repeat (first | apply Kd.R_alloc | apply Kd.R_drewN | apply Kd.R_drew)); exact q5.out) hb); replace q1 := bb q1 hb; replace HB := bst HB hb; (try clear hb); (try clear hb2); (try clear hk); (try clear hi)) | ((with_reducible refine gate_callee (f := 19) rfl ?_); refine gl 49 Try.func19 (torchonlaw06_pt.calls 1 2 ju jv _ A16.out) ?_; rintro e w42 ⟨rfl, hb⟩; refine ⟨_, rfl, ?_⟩; replace q5 := Aside0.mk (Kd.R_below (by (with_reducible repeat (first | apply Kd.R_alloc | apply Kd.R_drewN | apply Kd.R_drew)); exact q5.out) hb); replace q1 := bb q1 hb; replace HB := bst HB hb; (try clear hb); (try clear hb2); (try clear hk); (try clear hi)) | ((with_reducible refine gate_callee (f := 27) rfl ?_); refine gl 50 Try.func27 (grids_Apply.calls k jo jp jq jr js jt ju jv qd qe qE _ A17.out) ?_; rintro e w43 ⟨rfl, hb⟩; refine ⟨_, rfl, ?_⟩; replace q5 := Aside0.mk (Kd.R_below (by (with_reducible repeat (first | apply Kd.R_alloc | apply Kd.R_drewN | apply Kd.R_drew)); exact q5.out) hb); replace q1 := bb q1 hb; replace HB := bst HB hb; (try clear hb); (try clear hb2); (try clear hk); (try clear hi)) | ((with_reducible refine gate_dst (N := 10) rfl ?_); (try (refine gate_guard (by rfl) ?_; dsimp only)); refine box_event ?hg (N := 10) ?hd (cs := #[.int .i64 0, .int .i64 0]) (t := 37) ?hr ?_; (case hd => rfl); (case hg => rfl); (case hr => first | (go_simp; done) | (go_simp; rfl)); intro qz hg w44 hbox hb; have q2 := Aside0.mk (hbox); have gJ := gw hg HB; have gF := gw hg HB; have qT := nlt hg q1; have jD := ngt hg q1; replace q5 := Aside0.mk (Kd.R_below (by (with_reducible repeat (first | apply Kd.R_alloc | apply Kd.R_drewN | apply Kd.R_drew)); exact q5.out) hb); replace q1 := bb q1 hb; replace HB := bst HB hb; clear hb hg; have gP := jD.out; have gV := qT.out; have ⟨g8, g9, go, gp⟩ := cf2 q2) | ((with_reducible refine gate_callee (f := 17) rfl ?_); refine gl 54 Try.func17 (torchonlaw06_mat.calls 1 (-1) 1 0 jw jx jy jz _ A18.out) ?_; rintro e w47 ⟨rfl, hb⟩; refine ⟨_, rfl, ?_⟩; have n0_ := Aside0.mk (Kd.R_below (by (with_reducible repeat (first | apply Kd.R_alloc | apply Kd.R_drewN | apply Kd.R_drew)); exact (Kd.R_mono (Kd.R_far (p := ⟨qz, 1, none⟩) (Kd.R_far (p := ⟨qz, 0, none⟩) (Kd.R_types q5.out q2.out (by decide)) (fun _ hk => hk.2) (.int .i64 qd)) (fun _ hk => hk.2) (.int .i64 qe)) (fun _ h_ => h_.1))) hb); have n1_ := Aside0.mk (blk_below (g := qp) (o := .cells #[.int .i64 2, .int .i64 1, .int .i64 2] 23 (0, 0)) (by (with_reducible repeat (first | refine blk_drewN ?_ _ | refine blk_drew ?_ | refine blk_alloc ?_ _)); refine blk_far ?_ qT.out _; (with_reducible repeat (first | refine blk_drewN ?_ _ | refine blk_drew ?_ | refine blk_alloc ?_ _)); refine blk_far ?_ qT.out _; (with_reducible repeat (first | refine blk_drewN ?_ _ | refine blk_drew ?_ | refine blk_alloc ?_ _)); exact q1.out) hb); have n2_ := Aside0.mk (blk_below (g := qz) (o := .cells #[.int .i64 qd, .int .i64 qe] 37 (0, 0)) (by (with_reducible repeat (first | refine blk_drewN ?_ _ | refine blk_drew ?_ | refine blk_alloc ?_ _)); refine blk_put (cs := #[.int .i64 qd, .int .i64 0]) ?_ 1 _ rfl; (with_reducible repeat (first | refine blk_drewN ?_ _ | refine blk_drew ?_ | refine blk_alloc ?_ _)); refine blk_put (cs := #[.int .i64 0, .int .i64 0]) ?_ 0 _ rfl; (with_reducible repeat (first | refine blk_drewN ?_ _ | refine blk_drew ?_ | refine blk_alloc ?_ _)); exact q2.out) hb); have n3_ := bst HB hb; clear q5; clear q1; clear q2; clear HB; have q5 := n0_; have q1 := n1_; have q2 := n2_; have HB := n3_; clear n0_ n1_ n2_ n3_; (try clear hb); (try clear hb2); (try clear hk); (try clear hi)) | ((with_reducible refine gate_callee (f := 33) rfl ?_); refine gl 55 Try.func33 (grids_Order.calls k jw jx jy jz qt qF _ A19.out) ?_; rintro e w48 ⟨rfl, hb⟩; refine ⟨_, rfl, ?_⟩; replace q5 := Aside0.mk (Kd.R_below (by (with_reducible repeat (first | apply Kd.R_alloc | apply Kd.R_drewN | apply Kd.R_drew)); exact q5.out) hb); replace q1 := bb q1 hb; replace q2 := bb q2 hb; replace HB := bst HB hb; (try clear hb); (try clear hb2); (try clear hk); (try clear hi)) | ((with_reducible refine gate_callee (f := 11) rfl ?_); refine gl 60 Try.func11 (grids_Reduce.calls k 5 7 10 qf qg qh qu qv qw qx jA _ A20.out) ?_; rintro e w49 ⟨rfl, hb⟩; refine ⟨_, rfl, ?_⟩; replace q5 := Aside0.mk (Kd.R_below (by (with_reducible repeat (first | apply Kd.R_alloc | apply Kd.R_drewN | apply Kd.R_drew)); exact q5.out) hb); replace q1 := bb q1 hb; replace q2 := bb q2 hb; replace HB := bst HB hb; (try clear hb); (try clear hb2); (try clear hk); (try clear hi)) | ((with_reducible refine gate_dst (N := 14) rfl ?_); (try (refine gate_guard (by rfl) ?_; dsimp only)); refine box_event ?hg (N := 14) ?hd (cs := #[.int .i64 0, .int .i64 0, .int .i64 0]) (t := 23) ?hr ?_; (case hd => rfl); (case hg => rfl); (case hr => first | (go_simp; done) | (go_simp; rfl)); intro qj hg w50 hbox hb; have q3 := Aside0.mk (hbox); have gK := gw hg HB; have gG := gw hg HB; have jB := nlt hg q1; have jG := ngt hg q1; have jE := nlt hg q2; have jH := ngt hg q2; replace q5 := Aside0.mk (Kd.R_below (by (with_reducible repeat (first | apply Kd.R_alloc | apply Kd.R_drewN | apply Kd.R_drew)); exact q5.out) hb); replace q1 := bb q1 hb; replace q2 := bb q2 hb; replace HB := bst HB hb; clear hb hg) | ((with_reducible refine gate_dst (N := 15) rfl ?_); (try (refine gate_guard (by rfl) ?_; dsimp only)); refine box_event ?hg (N := 15) ?hd (cs := #[.int .i64 0, .int .i64 0, .int .i64 0, .int .i64 0]) (t := 25) ?hr ?_; (case hd => rfl); (case hg => rfl); (case hr => first | (go_simp; done) | (go_simp; rfl)); intro q7 hg w51 hbox hb; have q4 := Aside0.mk (hbox); have gL := gw hg HB; have gH := gw hg HB; have jC := nlt hg q1; have jJ := ngt hg q1; have jF := nlt hg q2; have jK := ngt hg q2; have jI := nlt hg q3; have jL := ngt hg q3; replace q5 := Aside0.mk (Kd.R_below (Kd.R_elderB (by (with_reducible repeat (first | apply Kd.R_alloc | apply Kd.R_drewN | apply Kd.R_drew)); exact q5.out) q7 (Nat.le_of_eq hg.symm)) hb); replace q1 := bb q1 hb; replace q2 := bb q2 hb; replace q3 := bb q3 hb; replace HB := bst HB hb; clear hb hg; have gQ := jG.out; have gW := jB.out; have gR := jH.out; have gX := jE.out; have gS := jI.out; have gY := jL.out; have ⟨ga, gb, gc, gq, gr, gt⟩ := cf3 q3) | ((with_reducible refine gate_store (t := 23) (p := 14) rfl ?_); refine sx 23 14 ((((w51.setCell ⟨qj, 0, none⟩ (.int .i64 qf)).setCell ⟨qj, 1, none⟩ (.int .i64 qg)).setCell ⟨qj, 2, none⟩ (.int .i64 qh))) fun w56 hw => ?_; have n0_ : Aside0 (Kd.R k25 25 w56 w.heap.size (fun k_ => k_ ≠ q7) v608 qi) := ⟨(by rw [hw]; exact (by (with_reducible repeat (first | apply Kd.R_alloc | apply Kd.R_drewN | apply Kd.R_drew)); exact Kd.R_mono (Kd.R_far (p := ⟨qj, 2, none⟩) (Kd.R_far (p := ⟨qj, 1, none⟩) (Kd.R_far (p := ⟨qj, 0, none⟩) (Kd.R_types q5.out q3.out (by decide)) (fun _ hk => hk.2) (.int .i64 qf)) (fun _ hk => hk.2) (.int .i64 qg)) (fun _ hk => hk.2) (.int .i64 qh)) (fun _ hk => hk.1.2)))⟩; have n1_ := fw hw q1; have n2_ := fw hw q2; have n3_ := pw3 hw q3; have n4_ := fw hw q4; have n5_ := bw hw HB; clear hw; clear q5; clear q1; clear q2; clear q3; clear q4; clear HB; have q5 := n0_; have q1 := n1_; have q2 := n2_; have q3 := n3_; have q4 := n4_; have HB := n5_; clear n0_ n1_ n2_ n3_ n4_ n5_; have gT := jJ.out; have gZ := jC.out; have gU := jK.out; have Q0 := jF.out; have ⟨gd, ge, gf, gg, gu, gv, gx, gy⟩ := cf4 q4) | ((with_reducible refine gate_store (t := 25) (p := 15) rfl ?_); refine sx 25 15 (((((w56.setCell ⟨q7, 0, none⟩ (.int .i64 qu)).setCell ⟨q7, 1, none⟩ (.int .i64 qv)).setCell ⟨q7, 2, none⟩ (.int .i64 qw)).setCell ⟨q7, 3, none⟩ (.int .i64 qx))) fun w60 hw => ?_; have n0_ : Aside0 (Kd.R k25 25 w60 w.heap.size (fun k_ => k_ ≠ q7) v608 qi) := ⟨(by rw [hw]; exact (by (with_reducible repeat (first | apply Kd.R_alloc | apply Kd.R_drewN | apply Kd.R_drew)); exact Kd.R_mono (Kd.R_far (p := ⟨q7, 3, none⟩) (Kd.R_far (p := ⟨q7, 2, none⟩) (Kd.R_far (p := ⟨q7, 1, none⟩) (Kd.R_far (p := ⟨q7, 0, none⟩) (Kd.R_mono q5.out (fun k_ hk => (⟨hk, hk⟩ : _ ∧ k_ ≠ q7))) (fun _ hk => hk.2) (.int .i64 qu)) (fun _ hk => hk.2) (.int .i64 qv)) (fun _ hk => hk.2) (.int .i64 qw)) (fun _ hk => hk.2) (.int .i64 qx)) (fun _ hk => hk.1)))⟩; have n1_ := fw hw q1; have n2_ := fw hw q2; have n3_ := fw hw q3; have n4_ := pw4 hw q4; have n5_ := bw hw HB; clear hw; clear q5; clear q1; clear q2; clear q3; clear q4; clear HB; have q5 := n0_; have q1 := n1_; have q2 := n2_; have q3 := n3_; have q4 := n4_; have HB := n5_; clear n0_ n1_ n2_ n3_ n4_ n5_))
 (try simp only [Act.put, List.setIfInBounds_toArray, List.set_cons_zero, List.set_cons_succ])
 go_cut [89] (fun v89 wc => ∃ (kq : Nat) (x89_20 : Bool), v89 = .bool x89_20 ∧ Aside0 (torchonlaw06_awake.j0 kq qq qr qs qi qt x89_20 qd qe qf qg qh qu qv qw qx = some r) ∧ Aside0 (kq ≤ k) ∧ Aside0 (Kd.R k25 25 wc w.heap.size (fun k_ => k_ ≠ q7) v608 qi) ∧ Aside0 (wc.heap[qp]? = some (.cells #[.int .i64 2, .int .i64 1, .int .i64 2] 23 (0, 0))) ∧ Aside0 (wc.heap[qz]? = some (.cells #[.int .i64 qd, .int .i64 qe] 37 (0, 0))) ∧ Aside0 (wc.heap[qj]? = some (.cells #[.int .i64 qf, .int .i64 qg, .int .i64 qh] 23 (0, 0))) ∧ Aside0 (wc.heap[q7]? = some (.cells #[.int .i64 qu, .int .i64 qv, .int .i64 qw, .int .i64 qx] 25 (0, 0))) ∧ Aside0 (Below w.heap.size w wc))
 case first =>
  have H := qS.out
  clear qS
  by_cases c61 : qA = 0
  ·rw [if_pos c61] at H
   have qy : (qA == 0) = true := beq_iff_eq.mpr c61
   have qU : (qA != 0) = false := bne_eq_false_iff_eq.mpr c61
   clear c61
   (first | rw [qy] | (simp only [i64_w, i32_w]; rw [qy]) | skip)
   by_cases c62 : qB = 0
   ·rw [if_pos c62] at H
    have qV : (qB == 0) = true := beq_iff_eq.mpr c62
    have qW : (qB != 0) = false := bne_eq_false_iff_eq.mpr c62
    clear c62
    by_cases c63 : qC = 0
    ·rw [if_pos c63] at H
     have qX : (qC == 0) = true := beq_iff_eq.mpr c63
     have qY : (qC != 0) = false := bne_eq_false_iff_eq.mpr c63
     clear c63
     by_cases c64 : qD = 0
     ·rw [if_pos c64] at H
      have qZ : (qD == 0) = true := beq_iff_eq.mpr c64
      have j0 : (qD != 0) = false := bne_eq_false_iff_eq.mpr c64
      clear c64
      by_cases c65 : qE = 0
      ·rw [if_pos c65] at H
       have j1 : (qE == 0) = true := beq_iff_eq.mpr c65
       have j2 : (qE != 0) = false := bne_eq_false_iff_eq.mpr c65
       clear c65
       by_cases c66 : qF = 0
       ·rw [if_pos c66] at H
        have j3 : (qF == 0) = true := beq_iff_eq.mpr c66
        have j4 : (qF != 0) = false := bne_eq_false_iff_eq.mpr c66
        clear c66
        have H' := Aside0.mk H
        clear H
        go_wp2
        go_meet
        case rel => exact ⟨_, ((jA != 0)), (by first | rfl | (simp; done) | (simp [*]; done)), H', ⟨by first | omega | exact Nat.le_refl _⟩, ⟨by (with_reducible repeat (first | apply Kd.R_alloc | apply Kd.R_drewN | apply Kd.R_drew)); exact q5.out⟩, ⟨pk q1⟩, ⟨pk q2⟩, ⟨pk q3⟩, ⟨pk q4⟩, ⟨bnow HB⟩⟩
       ·rw [if_neg c66] at H
        have j3 : (qF == 0) = false := beq_eq_false_iff_ne.mpr c66
        have j4 : (qF != 0) = true := bne_iff_ne.mpr c66
        have H' := Aside0.mk H
        clear H
        go_wp2
        go_meet
        case rel => exact ⟨_, (true), (by first | rfl | (simp; done) | (simp [*]; done)), H', ⟨by first | omega | exact Nat.le_refl _⟩, ⟨by (with_reducible repeat (first | apply Kd.R_alloc | apply Kd.R_drewN | apply Kd.R_drew)); exact q5.out⟩, ⟨pk q1⟩, ⟨pk q2⟩, ⟨pk q3⟩, ⟨pk q4⟩, ⟨bnow HB⟩⟩
      ·rw [if_neg c65] at H
       have j1 : (qE == 0) = false := beq_eq_false_iff_ne.mpr c65
       have j2 : (qE != 0) = true := bne_iff_ne.mpr c65
       have H' := Aside0.mk H
       clear H
       go_wp2
       go_meet
       case rel => exact ⟨_, (true), (by first | rfl | (simp; done) | (simp [*]; done)), H', ⟨by first | omega | exact Nat.le_refl _⟩, ⟨by (with_reducible repeat (first | apply Kd.R_alloc | apply Kd.R_drewN | apply Kd.R_drew)); exact q5.out⟩, ⟨pk q1⟩, ⟨pk q2⟩, ⟨pk q3⟩, ⟨pk q4⟩, ⟨bnow HB⟩⟩
     ·rw [if_neg c64] at H
      have qZ : (qD == 0) = false := beq_eq_false_iff_ne.mpr c64
      have j0 : (qD != 0) = true := bne_iff_ne.mpr c64
      have H' := Aside0.mk H
      clear H
      go_wp2
      go_meet
      case rel => exact ⟨_, (true), (by first | rfl | (simp; done) | (simp [*]; done)), H', ⟨by first | omega | exact Nat.le_refl _⟩, ⟨by (with_reducible repeat (first | apply Kd.R_alloc | apply Kd.R_drewN | apply Kd.R_drew)); exact q5.out⟩, ⟨pk q1⟩, ⟨pk q2⟩, ⟨pk q3⟩, ⟨pk q4⟩, ⟨bnow HB⟩⟩
    ·rw [if_neg c63] at H
     have qX : (qC == 0) = false := beq_eq_false_iff_ne.mpr c63
     have qY : (qC != 0) = true := bne_iff_ne.mpr c63
     have H' := Aside0.mk H
     clear H
     go_wp2
     go_meet
     case rel => exact ⟨_, (true), (by first | rfl | (simp; done) | (simp [*]; done)), H', ⟨by first | omega | exact Nat.le_refl _⟩, ⟨by (with_reducible repeat (first | apply Kd.R_alloc | apply Kd.R_drewN | apply Kd.R_drew)); exact q5.out⟩, ⟨pk q1⟩, ⟨pk q2⟩, ⟨pk q3⟩, ⟨pk q4⟩, ⟨bnow HB⟩⟩
   ·rw [if_neg c62] at H
    have qV : (qB == 0) = false := beq_eq_false_iff_ne.mpr c62
    have qW : (qB != 0) = true := bne_iff_ne.mpr c62
    have H' := Aside0.mk H
    clear H
    go_wp2
    go_meet
    case rel => exact ⟨_, (true), (by first | rfl | (simp; done) | (simp [*]; done)), H', ⟨by first | omega | exact Nat.le_refl _⟩, ⟨by (with_reducible repeat (first | apply Kd.R_alloc | apply Kd.R_drewN | apply Kd.R_drew)); exact q5.out⟩, ⟨pk q1⟩, ⟨pk q2⟩, ⟨pk q3⟩, ⟨pk q4⟩, ⟨bnow HB⟩⟩
  ·rw [if_neg c61] at H
   have qy : (qA == 0) = false := beq_eq_false_iff_ne.mpr c61
   have qU : (qA != 0) = true := bne_iff_ne.mpr c61
   (first | rw [qy] | (simp only [i64_w, i32_w]; rw [qy]) | skip)
   have H' := Aside0.mk H
   clear H
   go_wp2
   go_meet
   case rel => exact ⟨_, (true), (by first | rfl | (simp; done) | (simp [*]; done)), H', ⟨by first | omega | exact Nat.le_refl _⟩, ⟨by (with_reducible repeat (first | apply Kd.R_alloc | apply Kd.R_drewN | apply Kd.R_drew)); exact q5.out⟩, ⟨pk q1⟩, ⟨pk q2⟩, ⟨pk q3⟩, ⟨pk q4⟩, ⟨bnow HB⟩⟩
 case rest =>
  clear qS
  try clear c1; try clear c2; try clear p2; try clear c3; try clear c4; try clear c5; try clear c6; try clear c11; try clear c13; try clear c17; try clear c18; try clear c19; try clear c20; try clear c21; try clear c22; try clear c27; try clear c33; try clear c45; try clear c52; try clear c53; try clear c54; try clear c57; try clear c58; try clear c61; try clear qy; try clear qU; try clear c62; try clear qV; try clear qW; try clear c63; try clear qX; try clear qY; try clear c64; try clear qZ; try clear j0; try clear c65; try clear j1; try clear j2; try clear c66; try clear j3; try clear j4; try clear g2; try clear g3; try clear g4; try clear g5; try clear g6; try clear g7; try clear g8; try clear g9; try clear ga; try clear gb; try clear gc; try clear gd; try clear ge; try clear gf; try clear gg; try clear gh; try clear gi; try clear gj; try clear gk; try clear gm; try clear gn; try clear go; try clear gp; try clear gq; try clear gr; try clear gt; try clear gu; try clear gv; try clear gx; try clear gy
  obtain ⟨kq, x89_20, rfl, HA, HJ20, HO_8, q1, q2, q3, q4, HB⟩ := hcut
  cases kq with
  | zero => exact absurd HA.out (by simp [torchonlaw06_awake.j0])
  | succ kj20 =>
   have H := HA.out
   clear HA
   simp only [torchonlaw06_awake.j0] at H
   by_cases c67 : x89_20 = true
   ·subst c67
    have H1 : (none) = some r := by rw [if_pos rfl] at H; exact H
    clear H
    have H := H1
    clear H1
    exact absurd H (by simp)
   ·replace c67 := Bool.eq_false_iff.mpr c67
    subst c67
    have H1 : (if qq = 6 then (if qr = 1 then (if qs = 1 then (if (qi.length : Int) = 12 then ((torchonlaw06_pt.f 1 5).bind fun qR => (if (qd == qR.1 && (qe == qR.2)) = true then (if qt = 6 then (if (qf == 1 && (qg == 0 && (qh == 1))) = true then ((torchonlaw06_mat.f (-3) (-1) 2 1).bind fun qm => (some (qu == qm.1 && (qv == qm.2.1 && (qw == qm.2.2.1 && (qx == qm.2.2.2)))))) else (none)) else (none)) else (none))) else (none)) else (none)) else (none)) else (none)) = some r := by rw [if_neg (show ¬ (false = true) by decide)] at H; exact H
    clear H
    have H := H1
    clear H1
    by_cases c68 : qq = 6
    ·rw [if_pos c68] at H
     have jM : (qq == 6) = true := beq_iff_eq.mpr c68
     have jN : (qq != 6) = false := bne_eq_false_iff_eq.mpr c68
     clear c68
     by_cases c69 : qr = 1
     ·rw [if_pos c69] at H
      have jO : (qr == 1) = true := beq_iff_eq.mpr c69
      have jP : (qr != 1) = false := bne_eq_false_iff_eq.mpr c69
      clear c69
      by_cases c70 : qs = 1
      ·rw [if_pos c70] at H
       have jQ : (qs == 1) = true := beq_iff_eq.mpr c70
       have jR : (qs != 1) = false := bne_eq_false_iff_eq.mpr c70
       clear c70
       by_cases c71 : (qi.length : Int) = 12
       ·rw [if_pos c71] at H
        have jS : ((qi.length : Int) == 12) = true := beq_iff_eq.mpr c71
        have jT : ((qi.length : Int) != 12) = false := bne_eq_false_iff_eq.mpr c71
        clear c71
        obtain ⟨⟨qn, qo⟩, A72, H⟩ := ob H
        by_cases c73 : (qd == qn && (qe == qo)) = true
        ·rw [if_pos c73] at H
         have jU : (qd == qn && (qe == qo)) = true := c73
         (try (have jV : decide (qd = qn && (qe == qo)) = true := by simpa using c73))
         (try (have jW : (qd == qn && (qe == qo)) = true := by simpa using c73))
         clear c73
         by_cases c74 : qt = 6
         ·rw [if_pos c74] at H
          have jX : (qt == 6) = true := beq_iff_eq.mpr c74
          have jY : (qt != 6) = false := bne_eq_false_iff_eq.mpr c74
          clear c74
          by_cases c75 : (qf == 1 && (qg == 0 && (qh == 1))) = true
          ·rw [if_pos c75] at H
           have jZ : (qf == 1 && (qg == 0 && (qh == 1))) = true := c75
           (try (have g0 : decide (qf = 1 && (qg == 0 && (qh == 1))) = true := by simpa using c75))
           (try (have g1 : (qf == 1 && (qg == 0 && (qh == 1))) = true := by simpa using c75))
           clear c75
           obtain ⟨⟨gz, gA, gB, gC⟩, A76, H⟩ := ob H
           obtain rfl := Option.some.inj H
           try go_wp2
           replace HO_8 := Aside0.mk (Kd.R_drew HO_8.out)
           replace q1 := bd q1
           replace q2 := bd q2
           replace q3 := bd q3
           replace q4 := bd q4
           replace HB := bdn HB
           obtain ⟨gD, gO, j5⟩ := Kd.R_slice HO_8.out
           (first | subst j5 | (injection j5 with f1_ f2_ f3_; have f4_ := f1_.symm; have f5_ := f3_.symm; clear f1_ f2_ f3_; subst f4_; subst f5_))
           refine start_ (n := 35) (S := fun w' => w'.cell? ⟨qz, 0, none⟩ = some (.int .i64 qd) ∧ w'.cell? ⟨qz, 1, none⟩ = some (.int .i64 qe) ∧ w'.cell? ⟨qj, 0, none⟩ = some (.int .i64 qf) ∧ w'.cell? ⟨qj, 1, none⟩ = some (.int .i64 qg) ∧ w'.cell? ⟨qj, 2, none⟩ = some (.int .i64 qh) ∧ w'.cell? ⟨q7, 0, none⟩ = some (.int .i64 qu) ∧ w'.cell? ⟨q7, 1, none⟩ = some (.int .i64 qv) ∧ w'.cell? ⟨q7, 2, none⟩ = some (.int .i64 qw) ∧ w'.cell? ⟨q7, 3, none⟩ = some (.int .i64 qx)) (ds := []) #[false, false, false, false, false, false, false, false, false, false, false, false, false, false, false, false, false, false, false, false, false, false, false, false, false, false, false, false, false, false, false, false, false, false, false] (by kernel_rfl) rfl rfl ⟨(blk_cell q2.out 0).trans rfl, (blk_cell q2.out 1).trans rfl, (blk_cell q3.out 0).trans rfl, (blk_cell q3.out 1).trans rfl, (blk_cell q3.out 2).trans rfl, (blk_cell q4.out 0).trans rfl, (blk_cell q4.out 1).trans rfl, (blk_cell q4.out 2).trans rfl, (blk_cell q4.out 3).trans rfl⟩ (fun hHeld => ?_); refine with_tabW torchonlaw06_awake.tab11 torchonlaw06_awake.bits11 (fun HT_ HW_ => ?_)
           generalize wc.drew = w77 at HO_8 q1 q2 q3 q4 HB hHeld ⊢
           refine pz 0 90 HT_ ?_
           refine pz 1 91 HT_ ?_
           refine pz 2 92 HT_ ?_
           refine pz 3 93 HT_ ?_
           refine pz 4 94 HT_ ?_
           refine pz 5 95 HT_ ?_
           refine pz 6 96 HT_ ?_
           refine pz 7 97 HT_ ?_
           refine pz 8 98 HT_ ?_
           refine pz 9 99 HT_ ?_
           refine pz 10 100 HT_ ?_
           refine pz 11 101 HT_ ?_
           refine pz 12 102 HT_ ?_
           refine pz 13 103 HT_ ?_
           refine pz 14 104 HT_ ?_
           refine pz 15 105 HT_ ?_
           refine tz 16 106 HT_ HW_ hHeld ?_
           refine one_ (i := 17) (N := some 107) #[true, true, true, true, true, true, true, true, true, true, true, true, true, true, true, true, true, true, false, false, false, false, false, false, false, false, false, false, false, false, false, false, false, false, false] rfl rfl (one_of HT_.out (by kernel_rfl)) (by decide) (fun K hK => ?_)
           refine gs _ Try.func19 (torchonlaw06_pt.calls 1 5 qn qo _ A72.out) ?_
           rintro e w79 ⟨rfl, hb⟩
           refine ⟨_, rfl, ?_⟩
           have n0_ := Aside0.mk (Kd.R_below (by (with_reducible repeat (first | apply Kd.R_alloc | apply Kd.R_drewN | apply Kd.R_drew)); exact HO_8.out) hb)
           have n1_ := bb q1 hb
           have n2_ := bb q2 hb
           have n3_ := bb q3 hb
           have n4_ := bb q4 hb
           have n5_ := bst HB hb
           clear HO_8
           clear q1
           clear q2
           clear q3
           clear q4
           clear HB
           have HO_8 := n0_
           have q1 := n1_
           have q2 := n2_
           have q3 := n3_
           have q4 := n4_
           have HB := n5_
           clear n0_ n1_ n2_ n3_ n4_ n5_
           (try clear hb)
           (try clear hb2)
           (try clear hk)
           (try clear hi)
           refine hK.out _ _ ⟨(blk_cell q2.out 0).trans rfl, (blk_cell q2.out 1).trans rfl, (blk_cell q3.out 0).trans rfl, (blk_cell q3.out 1).trans rfl, (blk_cell q3.out 2).trans rfl, (blk_cell q4.out 0).trans rfl, (blk_cell q4.out 1).trans rfl, (blk_cell q4.out 2).trans rfl, (blk_cell q4.out 3).trans rfl⟩ (fun hHeld => ?_)
           clear hK K
           refine norm_ (a' := ?_) ?_ ?_
           rotate_left
           ·show Act.put _ (some 107) _ = _
            simp only [Act.put, List.setIfInBounds_toArray, List.set_cons_zero, List.set_cons_succ, i64_w, i32_w]
            rfl
           refine pz 18 108 HT_ ?_
           refine pz 19 109 HT_ ?_
           refine pz 20 110 HT_ ?_
           refine pz 21 111 HT_ ?_
           refine pz 22 112 HT_ ?_
           refine pz 23 113 HT_ ?_
           refine pz 24 114 HT_ ?_
           refine pz 26 116 HT_ ?_
           refine tz 25 115 HT_ HW_ hHeld ?_
           refine pz 27 117 HT_ ?_
           refine pz 28 118 HT_ ?_
           refine pz 29 119 HT_ ?_
           refine tz 30 120 HT_ HW_ hHeld ?_
           refine one_ (i := 31) (N := some 121) #[true, true, true, true, true, true, true, true, true, true, true, true, true, true, true, true, true, true, true, true, true, true, true, true, true, true, true, true, true, true, true, true, false, false, false] rfl rfl (one_of HT_.out (by kernel_rfl)) (by decide) (fun K hK => ?_)
           refine gs _ Try.func17 (torchonlaw06_mat.calls (-3) (-1) 2 1 gz gA gB gC _ A76.out) ?_
           rintro e w80 ⟨rfl, hb⟩
           refine ⟨_, rfl, ?_⟩
           have n0_ := Aside0.mk (Kd.R_below (by (with_reducible repeat (first | apply Kd.R_alloc | apply Kd.R_drewN | apply Kd.R_drew)); exact HO_8.out) hb)
           have n1_ := bb q1 hb
           have n2_ := bb q2 hb
           have n3_ := bb q3 hb
           have n4_ := bb q4 hb
           have n5_ := bst HB hb
           clear HO_8
           clear q1
           clear q2
           clear q3
           clear q4
           clear HB
           have HO_8 := n0_
           have q1 := n1_
           have q2 := n2_
           have q3 := n3_
           have q4 := n4_
           have HB := n5_
           clear n0_ n1_ n2_ n3_ n4_ n5_
           (try clear hb)
           (try clear hb2)
           (try clear hk)
           (try clear hi)
           refine hK.out _ _ ⟨(blk_cell q2.out 0).trans rfl, (blk_cell q2.out 1).trans rfl, (blk_cell q3.out 0).trans rfl, (blk_cell q3.out 1).trans rfl, (blk_cell q3.out 2).trans rfl, (blk_cell q4.out 0).trans rfl, (blk_cell q4.out 1).trans rfl, (blk_cell q4.out 2).trans rfl, (blk_cell q4.out 3).trans rfl⟩ (fun hHeld => ?_)
           clear hK K
           refine norm_ (a' := ?_) ?_ ?_
           rotate_left
           ·show Act.put _ (some 121) _ = _
            simp only [Act.put, List.setIfInBounds_toArray, List.set_cons_zero, List.set_cons_succ, i64_w, i32_w]
            rfl
           refine pz 32 122 HT_ ?_
           refine pz 33 123 HT_ ?_
           refine pz 34 0 HT_ ?_
           refine done_ (done_of HT_.out (by kernel_rfl)) ?_
           try go_wp2
           go_ret
           exact rt HB
          ·rw [if_neg c75] at H
           have jZ : (qf == 1 && (qg == 0 && (qh == 1))) = false := by simpa using c75
           (try (have g0 : decide (qf = 1 && (qg == 0 && (qh == 1))) = false := by simpa using c75))
           (try (have g1 : (qf == 1 && (qg == 0 && (qh == 1))) = false := by simpa using c75))
           (try (have gN : ¬ (qf = 1 && (qg == 0 && (qh == 1))) := by simpa using c75))
           clear c75
           exact absurd H (by simp)
         ·rw [if_neg c74] at H
          have jX : (qt == 6) = false := beq_eq_false_iff_ne.mpr c74
          have jY : (qt != 6) = true := bne_iff_ne.mpr c74
          exact absurd H (by simp)
        ·rw [if_neg c73] at H
         have jU : (qd == qn && (qe == qo)) = false := by simpa using c73
         (try (have jV : decide (qd = qn && (qe == qo)) = false := by simpa using c73))
         (try (have jW : (qd == qn && (qe == qo)) = false := by simpa using c73))
         (try (have gM : ¬ (qd = qn && (qe == qo)) := by simpa using c73))
         clear c73
         exact absurd H (by simp)
       ·rw [if_neg c71] at H
        have jS : ((qi.length : Int) == 12) = false := beq_eq_false_iff_ne.mpr c71
        have jT : ((qi.length : Int) != 12) = true := bne_iff_ne.mpr c71
        exact absurd H (by simp)
      ·rw [if_neg c70] at H
       have jQ : (qs == 1) = false := beq_eq_false_iff_ne.mpr c70
       have jR : (qs != 1) = true := bne_iff_ne.mpr c70
       exact absurd H (by simp)
     ·rw [if_neg c69] at H
      have jO : (qr == 1) = false := beq_eq_false_iff_ne.mpr c69
      have jP : (qr != 1) = true := bne_iff_ne.mpr c69
      exact absurd H (by simp)
    ·rw [if_neg c68] at H
     have jM : (qq == 6) = false := beq_eq_false_iff_ne.mpr c68
     have jN : (qq != 6) = true := bne_iff_ne.mpr c68
     exact absurd H (by simp)
end
section
/-! ### torchonref06_from: function 47 -/
def torchonref06_from.f (a0 : Int) (a1 : Int) (a2 : Int) : Option (Bool) := if a0 ≥ a1 then (some (decide (a0 ≤ a2))) else (some false)
set_option maxHeartbeats 8000000 in
set_option maxRecDepth 100000 in
theorem torchonref06_from.calls (a0 : Int) (a1 : Int) (a2 : Int) (r : Bool) (w : World) (h : torchonref06_from.f a0 a1 a2 = some r) :
  Calls Try.prog 47 #[.int .i64 a0, .int .i64 a1, .int .i64 a2] w fun e w' => e = .returned (.bool r) ∧ Drawn0 w w' := by
 have H : (if a0 ≥ a1 then (some (decide (a0 ≤ a2))) else (some false)) = some r := h
 clear h
 by_cases c4 : a0 ≥ a1
 ·rw [if_pos c4] at H
  have q0 : decide (a1 ≤ a0) = true := decide_eq_true c4
  clear c4
  obtain rfl := Option.some.inj H
  go_enter Try.func47, Try.ntmps47
  go_wp2
  go_ret
  exact ⟨by first | rfl | (simp; done) | (simp [*]; done), by repeat (first | exact Drawn0.refl _ | apply Drawn0.step)⟩
 ·rw [if_neg c4] at H
  have q0 : decide (a1 ≤ a0) = false := decide_eq_false c4
  clear c4
  obtain rfl := Option.some.inj H
  go_enter Try.func47, Try.ntmps47
  go_wp2
  go_ret
  exact ⟨by first | rfl | (simp; done) | (simp [*]; done), by repeat (first | exact Drawn0.refl _ | apply Drawn0.step)⟩
end
section
/-! ### torchonref06_Det: function 72 -/
def torchonref06_Det.f (a0_0 : Int) (a0_1 : Int) (a0_2 : Int) : Option (Int) := (some (wrap64 (a0_0 * a0_2))).bind fun q0 => ((some (wrap64 (a0_1 * a0_1))).bind fun q1 => ((some (wrap64 (q0 - q1))).bind fun q2 => (some q2)))
set_option maxHeartbeats 8000000 in
set_option maxRecDepth 100000 in
theorem torchonref06_Det.calls (a0_0 : Int) (a0_1 : Int) (a0_2 : Int) (r : Int) (w : World) (h : torchonref06_Det.f a0_0 a0_1 a0_2 = some r) :
  Calls Try.prog 72 #[.agg #[.int .i64 a0_0, .int .i64 a0_1, .int .i64 a0_2]] w fun e w' => e = .returned (.int .i64 r) ∧ Below w.heap.size w w' := by
 have hu23 := Try.underlying23
 have HB := Aside0.mk (Below.refl w.heap.size w)
 have H : ((some (wrap64 (a0_0 * a0_2))).bind fun q0 => ((some (wrap64 (a0_1 * a0_1))).bind fun q1 => ((some (wrap64 (q0 - q1))).bind fun q2 => (some q2)))) = some r := h
 clear h
 obtain ⟨q0, E20, H⟩ := oc H
 have E2w : (IntKind.i64.wrap (a0_0 * a0_2)) = q0 := (i64_w _).trans E20
 obtain ⟨q1, E30, H⟩ := oc H
 have E3w : (IntKind.i64.wrap (a0_1 * a0_1)) = q1 := (i64_w _).trans E30
 obtain ⟨q2, E40, H⟩ := oc H
 have E4w : (IntKind.i64.wrap (q0 - q1)) = q2 := (i64_w _).trans E40
 obtain rfl := Option.some.inj H
 go_enter Try.func72, Try.ntmps72
 go_wp2_with (first | ((with_reducible refine gate_dst (N := 1) rfl ?_); refine bx 1 #[.int .i64 a0_0, .int .i64 a0_1, .int .i64 a0_2] 23 fun q6 hg w5 q3 hb => ?_; have q5 := gw hg HB; have q4 := gw hg HB; replace HB := bst HB hb; clear hb hg; have ⟨q7, q8, q9, qa, qb, qc⟩ := cf3 q3))
 go_ret
 exact rt HB
end
section
/-! ### torchonref06_Check: function 43 -/
def torchonref06_Check.j0 : Nat → Bool → Option (Int)
 | 0, _ => none
 | k + 1, x23 => if x23 = true then (some 2) else (some 0)
def torchonref06_Check.f (k : Nat) (a0_0 : Int) (a0_1 : Int) (a0_2 : Int) : Option (Int) := (torchonref06_from.f a0_0 1 10000).bind fun q4 => (if q4 = true then ((torchonref06_from.f a0_2 1 10000).bind fun q3 => (if q3 = true then ((torchonref06_from.f a0_1 (-10000) 10000).bind fun q2 => (if q2 = true then ((torchonref06_Det.f a0_0 a0_1 a0_2).bind fun q0 => (torchonref06_Check.j0 k (decide (q0 < 1)))) else (torchonref06_Check.j0 k true))) else (torchonref06_Check.j0 k true))) else (torchonref06_Check.j0 k true))
theorem torchonref06_Check.mono_l : ∀ k, (∀ y0, LeO (torchonref06_Check.j0 k y0) (torchonref06_Check.j0 (k + 1) y0))
 | 0 => fun _ r h => by simp [torchonref06_Check.j0] at h
 | k + 1 => by
  have ih0 := torchonref06_Check.mono_l k
  ·intro y0
   unfold torchonref06_Check.j0
   repeat' first
   | (with_reducible exact ih0 _)
   | (with_reducible exact LeO.refl _)
   | (with_reducible exact LeO.none _)
   | (with_reducible refine LeO.ite ?_ ?_)
   | (with_reducible refine LeO.bind ?_ (fun _ => ?_))
   | exact ih0 _
   | exact LeO.none _
   | refine LeO.ite ?_ ?_
   | refine LeO.bind ?_ (fun _ => ?_)
theorem torchonref06_Check.mono : ∀ a0 a1 a2 k, LeO (torchonref06_Check.f k a0 a1 a2) (torchonref06_Check.f (k + 1) a0 a1 a2) := by
 intro a0 a1 a2 k
 have ih0 := torchonref06_Check.mono_l k
 unfold torchonref06_Check.f
 repeat' first
   | (with_reducible exact ih0 _)
   | (with_reducible exact LeO.refl _)
   | (with_reducible exact LeO.none _)
   | (with_reducible refine LeO.ite ?_ ?_)
   | (with_reducible refine LeO.bind ?_ (fun _ => ?_))
   | exact ih0 _
   | exact LeO.none _
   | refine LeO.ite ?_ ?_
   | refine LeO.bind ?_ (fun _ => ?_)
set_option maxHeartbeats 8000000 in
set_option maxRecDepth 100000 in
theorem torchonref06_Check.calls (k : Nat) (a0_0 : Int) (a0_1 : Int) (a0_2 : Int) (r : Int) (w : World) (h : torchonref06_Check.f k a0_0 a0_1 a0_2 = some r) :
  Calls Try.prog 43 #[.agg #[.int .i64 a0_0, .int .i64 a0_1, .int .i64 a0_2]] w fun e w' => e = .returned (.int .i64 r) ∧ Below w.heap.size w w' := by
 have hu23 := Try.underlying23
 have HB := Aside0.mk (Below.refl w.heap.size w)
 have H : ((torchonref06_from.f a0_0 1 10000).bind fun q4 => (if q4 = true then ((torchonref06_from.f a0_2 1 10000).bind fun q3 => (if q3 = true then ((torchonref06_from.f a0_1 (-10000) 10000).bind fun q2 => (if q2 = true then ((torchonref06_Det.f a0_0 a0_1 a0_2).bind fun q0 => (torchonref06_Check.j0 k (decide (q0 < 1)))) else (torchonref06_Check.j0 k true))) else (torchonref06_Check.j0 k true))) else (torchonref06_Check.j0 k true))) = some r := h
 clear h
 have HC2 := Aside0.mk H
 clear H
 go_enter Try.func43, Try.ntmps43
 go_upto_region 1 with (first | ((with_reducible refine gate_dst (N := 1) rfl ?_); refine bx 1 #[.int .i64 a0_0, .int .i64 a0_1, .int .i64 a0_2] 23 fun q5 hg w3 q1 hb => ?_; have qv := gw hg HB; have qu := gw hg HB; replace HB := bst HB hb; clear hb hg))
 (try simp only [Act.put, List.setIfInBounds_toArray, List.set_cons_zero, List.set_cons_succ])
 go_cut [23] (fun v23 wc => ∃ (kq : Nat) (x23_1 : Bool), v23 = .bool x23_1 ∧ Aside0 (torchonref06_Check.j0 kq x23_1 = some r) ∧ Aside0 (kq ≤ k) ∧ Aside0 (wc.heap[q5]? = some (.cells #[.int .i64 a0_0, .int .i64 a0_1, .int .i64 a0_2] 23 (0, 0))) ∧ Aside0 (Below w.heap.size w wc))
 case first =>
  have H := HC2.out
  clear HC2
  obtain ⟨q4, A4, H⟩ := ob H
  by_cases c5 : q4 = true
  ·subst c5
   have H1 : ((torchonref06_from.f a0_2 1 10000).bind fun q3 => (if q3 = true then ((torchonref06_from.f a0_1 (-10000) 10000).bind fun q2 => (if q2 = true then ((torchonref06_Det.f a0_0 a0_1 a0_2).bind fun q0 => (torchonref06_Check.j0 k (decide (q0 < 1)))) else (torchonref06_Check.j0 k true))) else (torchonref06_Check.j0 k true))) = some r := by rw [if_pos rfl] at H; exact H
   clear H
   have H := H1
   clear H1
   obtain ⟨q3, A6, H⟩ := ob H
   by_cases c7 : q3 = true
   ·subst c7
    have H1 : ((torchonref06_from.f a0_1 (-10000) 10000).bind fun q2 => (if q2 = true then ((torchonref06_Det.f a0_0 a0_1 a0_2).bind fun q0 => (torchonref06_Check.j0 k (decide (q0 < 1)))) else (torchonref06_Check.j0 k true))) = some r := by rw [if_pos rfl] at H; exact H
    clear H
    have H := H1
    clear H1
    obtain ⟨q2, A8, H⟩ := ob H
    by_cases c9 : q2 = true
    ·subst c9
     have H1 : ((torchonref06_Det.f a0_0 a0_1 a0_2).bind fun q0 => (torchonref06_Check.j0 k (decide (q0 < 1)))) = some r := by rw [if_pos rfl] at H; exact H
     clear H
     have H := H1
     clear H1
     obtain ⟨q0, A10, H⟩ := ob H
     have H' := Aside0.mk H
     clear H
     have ⟨q6, q7, q8, qi, qj, qk⟩ := cf3 q1
     go_wp2_with (first | ((with_reducible refine gate_callee (f := 47) rfl ?_); refine goesL_ (some 5) rfl rfl Try.func47 (by kernel_rfl) rfl #[.int .i64 a0_0, .int .i64 1, .int .i64 10000] rfl am ?_; (with_reducible refine (torchonref06_from.calls a0_0 1 10000 true _ A4.out).mono ?_); rintro e w' ⟨rfl, ⟨nd, rfl⟩⟩; refine ⟨_, rfl, ?_⟩) | (go_at_call 47; (with_reducible refine (torchonref06_from.calls a0_2 1 10000 true _ A6.out).mono ?_); rintro e w' ⟨rfl, ⟨nd, rfl⟩⟩) | (go_at_call 47; (with_reducible refine (torchonref06_from.calls a0_1 (-10000) 10000 true _ A8.out).mono ?_); rintro e w' ⟨rfl, ⟨nd, rfl⟩⟩) | (go_at_call 72; (with_reducible refine (torchonref06_Det.calls a0_0 a0_1 a0_2 q0 _ A10.out).mono ?_); rintro e w12 ⟨rfl, hb⟩; replace q1 := bb q1 hb; replace HB := bst HB hb; clear hb))
     go_meet
     case rel => exact ⟨_, (decide (q0 < 1)), (by first | rfl | (simp; done) | (simp [*]; done)), H', ⟨by first | omega | exact Nat.le_refl _⟩, ⟨pk q1⟩, ⟨bnow HB⟩⟩
    ·replace c9 := Bool.eq_false_iff.mpr c9
     subst c9
     have H1 : (torchonref06_Check.j0 k true) = some r := by rw [if_neg (show ¬ (false = true) by decide)] at H; exact H
     clear H
     have H := H1
     clear H1
     have H' := Aside0.mk H
     clear H
     have ⟨q9, qa, qb, ql, qm, qn⟩ := cf3 q1
     go_wp2_with (first | ((with_reducible refine gate_callee (f := 47) rfl ?_); refine goesL_ (some 5) rfl rfl Try.func47 (by kernel_rfl) rfl #[.int .i64 a0_0, .int .i64 1, .int .i64 10000] rfl am ?_; (with_reducible refine (torchonref06_from.calls a0_0 1 10000 true _ A4.out).mono ?_); rintro e w' ⟨rfl, ⟨nd, rfl⟩⟩; refine ⟨_, rfl, ?_⟩) | (go_at_call 47; (with_reducible refine (torchonref06_from.calls a0_2 1 10000 true _ A6.out).mono ?_); rintro e w' ⟨rfl, ⟨nd, rfl⟩⟩) | (go_at_call 47; (with_reducible refine (torchonref06_from.calls a0_1 (-10000) 10000 false _ A8.out).mono ?_); rintro e w' ⟨rfl, ⟨nd, rfl⟩⟩))
     go_meet
     case rel => exact ⟨_, (true), (by first | rfl | (simp; done) | (simp [*]; done)), H', ⟨by first | omega | exact Nat.le_refl _⟩, ⟨pk q1⟩, ⟨bnow HB⟩⟩
   ·replace c7 := Bool.eq_false_iff.mpr c7
    subst c7
    have H1 : (torchonref06_Check.j0 k true) = some r := by rw [if_neg (show ¬ (false = true) by decide)] at H; exact H
    clear H
    have H := H1
    clear H1
    have H' := Aside0.mk H
    clear H
    have ⟨qc, qd, qe, qo, qp, qq⟩ := cf3 q1
    go_wp2_with (first | ((with_reducible refine gate_callee (f := 47) rfl ?_); refine goesL_ (some 5) rfl rfl Try.func47 (by kernel_rfl) rfl #[.int .i64 a0_0, .int .i64 1, .int .i64 10000] rfl am ?_; (with_reducible refine (torchonref06_from.calls a0_0 1 10000 true _ A4.out).mono ?_); rintro e w' ⟨rfl, ⟨nd, rfl⟩⟩; refine ⟨_, rfl, ?_⟩) | (go_at_call 47; (with_reducible refine (torchonref06_from.calls a0_2 1 10000 false _ A6.out).mono ?_); rintro e w' ⟨rfl, ⟨nd, rfl⟩⟩))
    go_meet
    case rel => exact ⟨_, (true), (by first | rfl | (simp; done) | (simp [*]; done)), H', ⟨by first | omega | exact Nat.le_refl _⟩, ⟨pk q1⟩, ⟨bnow HB⟩⟩
  ·replace c5 := Bool.eq_false_iff.mpr c5
   subst c5
   have H1 : (torchonref06_Check.j0 k true) = some r := by rw [if_neg (show ¬ (false = true) by decide)] at H; exact H
   clear H
   have H := H1
   clear H1
   have H' := Aside0.mk H
   clear H
   have ⟨qf, qg, qh, qr, qs, qt⟩ := cf3 q1
   go_wp2_with (first | ((with_reducible refine gate_callee (f := 47) rfl ?_); refine goesL_ (some 5) rfl rfl Try.func47 (by kernel_rfl) rfl #[.int .i64 a0_0, .int .i64 1, .int .i64 10000] rfl am ?_; (with_reducible refine (torchonref06_from.calls a0_0 1 10000 false _ A4.out).mono ?_); rintro e w' ⟨rfl, ⟨nd, rfl⟩⟩; refine ⟨_, rfl, ?_⟩))
   go_meet
   case rel => exact ⟨_, (true), (by first | rfl | (simp; done) | (simp [*]; done)), H', ⟨by first | omega | exact Nat.le_refl _⟩, ⟨pk q1⟩, ⟨bnow HB⟩⟩
 case rest =>
  clear HC2
  try clear p2; try clear c4; try clear c5; try clear c7; try clear c9; try clear q6; try clear q7; try clear q8; try clear q9; try clear qa; try clear qb; try clear qc; try clear qd; try clear qe; try clear qf; try clear qg; try clear qh; try clear qi; try clear qj; try clear qk; try clear ql; try clear qm; try clear qn; try clear qo; try clear qp; try clear qq; try clear qr; try clear qs; try clear qt
  obtain ⟨kq, x23_1, rfl, HA, HJ1, q1, HB⟩ := hcut
  cases kq with
  | zero => exact absurd HA.out (by simp [torchonref06_Check.j0])
  | succ kj1 =>
   have H := HA.out
   clear HA
   simp only [torchonref06_Check.j0] at H
   by_cases c16 : x23_1 = true
   ·subst c16
    have H1 : (some 2) = some r := by rw [if_pos rfl] at H; exact H
    clear H
    have H := H1
    clear H1
    obtain rfl := Option.some.inj H
    go_wp2
    go_ret
    exact rt HB
   ·replace c16 := Bool.eq_false_iff.mpr c16
    subst c16
    have H1 : (some 0) = some r := by rw [if_neg (show ¬ (false = true) by decide)] at H; exact H
    clear H
    have H := H1
    clear H1
    obtain rfl := Option.some.inj H
    go_wp2
    go_ret
    exact rt HB
end
section
/-! ### torchonref06_Product: function 48 -/
def torchonref06_Product.f (a0_0 : Int) (a0_1 : Int) (a0_2 : Int) (a1_0 : Int) (a1_1 : Int) (a2_0 : Int) (a2_1 : Int) : Option (Int) := (some (wrap64 (a0_0 * a1_0))).bind fun q1 => ((some (wrap64 (q1 * a2_0))).bind fun q2 => ((some (wrap64 (a1_0 * a2_1))).bind fun q3 => ((some (wrap64 (a1_1 * a2_0))).bind fun q4 => ((some (wrap64 (q3 + q4))).bind fun q5 => ((some (wrap64 (a0_1 * q5))).bind fun q6 => ((some (wrap64 (q2 + q6))).bind fun q7 => ((some (wrap64 (a0_2 * a1_1))).bind fun q8 => ((some (wrap64 (q8 * a2_1))).bind fun q9 => ((some (wrap64 (q7 + q9))).bind fun qb => (some qb))))))))))
set_option maxHeartbeats 8000000 in
set_option maxRecDepth 100000 in
theorem torchonref06_Product.calls (a0_0 : Int) (a0_1 : Int) (a0_2 : Int) (a1_0 : Int) (a1_1 : Int) (a2_0 : Int) (a2_1 : Int) (r : Int) (w : World) (h : torchonref06_Product.f a0_0 a0_1 a0_2 a1_0 a1_1 a2_0 a2_1 = some r) :
  Calls Try.prog 48 #[.agg #[.int .i64 a0_0, .int .i64 a0_1, .int .i64 a0_2], .agg #[.int .i64 a1_0, .int .i64 a1_1], .agg #[.int .i64 a2_0, .int .i64 a2_1]] w fun e w' => e = .returned (.int .i64 r) ∧ Below w.heap.size w w' := by
 have hu23 := Try.underlying23
 have hu37 := Try.underlying37
 have HB := Aside0.mk (Below.refl w.heap.size w)
 have H : ((some (wrap64 (a0_0 * a1_0))).bind fun q1 => ((some (wrap64 (q1 * a2_0))).bind fun q2 => ((some (wrap64 (a1_0 * a2_1))).bind fun q3 => ((some (wrap64 (a1_1 * a2_0))).bind fun q4 => ((some (wrap64 (q3 + q4))).bind fun q5 => ((some (wrap64 (a0_1 * q5))).bind fun q6 => ((some (wrap64 (q2 + q6))).bind fun q7 => ((some (wrap64 (a0_2 * a1_1))).bind fun q8 => ((some (wrap64 (q8 * a2_1))).bind fun q9 => ((some (wrap64 (q7 + q9))).bind fun qb => (some qb))))))))))) = some r := h
 clear h
 obtain ⟨q1, E40, H⟩ := oc H
 have E4w : (IntKind.i64.wrap (a0_0 * a1_0)) = q1 := (i64_w _).trans E40
 obtain ⟨q2, E50, H⟩ := oc H
 have E5w : (IntKind.i64.wrap (q1 * a2_0)) = q2 := (i64_w _).trans E50
 obtain ⟨q3, E60, H⟩ := oc H
 have E6w : (IntKind.i64.wrap (a1_0 * a2_1)) = q3 := (i64_w _).trans E60
 obtain ⟨q4, E70, H⟩ := oc H
 have E7w : (IntKind.i64.wrap (a1_1 * a2_0)) = q4 := (i64_w _).trans E70
 obtain ⟨q5, E80, H⟩ := oc H
 have E8w : (IntKind.i64.wrap (q3 + q4)) = q5 := (i64_w _).trans E80
 obtain ⟨q6, E90, H⟩ := oc H
 have E9w : (IntKind.i64.wrap (a0_1 * q5)) = q6 := (i64_w _).trans E90
 obtain ⟨q7, E100, H⟩ := oc H
 have E10w : (IntKind.i64.wrap (q2 + q6)) = q7 := (i64_w _).trans E100
 obtain ⟨q8, E110, H⟩ := oc H
 have E11w : (IntKind.i64.wrap (a0_2 * a1_1)) = q8 := (i64_w _).trans E110
 obtain ⟨q9, E120, H⟩ := oc H
 have E12w : (IntKind.i64.wrap (q8 * a2_1)) = q9 := (i64_w _).trans E120
 obtain ⟨qb, E130, H⟩ := oc H
 have E13w : (IntKind.i64.wrap (q7 + q9)) = qb := (i64_w _).trans E130
 obtain rfl := Option.some.inj H
 go_enter Try.func48, Try.ntmps48
 go_wp2_with (first | ((with_reducible refine gate_dst (N := 3) rfl ?_); refine bx 3 #[.int .i64 a0_0, .int .i64 a0_1, .int .i64 a0_2] 23 fun qp hg w14 q0 hb => ?_; have qm := gw hg HB; have qj := gw hg HB; replace HB := bst HB hb; clear hb hg) | ((with_reducible refine gate_dst (N := 4) rfl ?_); refine bx 4 #[.int .i64 a1_0, .int .i64 a1_1] 37 fun qq hg w15 qa hb => ?_; have qn := gw hg HB; have qk := gw hg HB; have qd := nlt hg q0; have qf := ngt hg q0; replace q0 := bb q0 hb; replace HB := bst HB hb; clear hb hg) | ((with_reducible refine gate_dst (N := 5) rfl ?_); refine bx 5 #[.int .i64 a2_0, .int .i64 a2_1] 37 fun qr hg w16 qc hb => ?_; have qo := gw hg HB; have ql := gw hg HB; have qe := nlt hg q0; have qh := ngt hg q0; have qg := nlt hg qa; have qi := ngt hg qa; replace q0 := bb q0 hb; replace qa := bb qa hb; replace HB := bst HB hb; clear hb hg; have qG := qd.out; have qJ := qf.out; have qH := qe.out; have qK := qh.out; have ⟨qs, qt, qu, qz, qA, qB⟩ := cf3 q0; have qI := qg.out; have qL := qi.out; have ⟨qv, qw, qC, qD⟩ := cf2 qa; have ⟨qx, qy, qE, qF⟩ := cf2 qc))
 go_ret
 exact rt HB
end
section
/-! ### torchonref06_root: function 83 -/
def torchonref06_root.l0 : Nat → Int → Int → Int → Option (Int)
 | 0, _, _, _ => none
 | k + 1, x0, x3, x4 => (some (wrap64 (x4 - x3))).bind fun q1 => (if q1 > 1 then ((some (wrap64 (x3 + x4))).bind fun q3 => ((some (wrap64 (Int.tdiv q3 2))).bind fun q0 => ((some (wrap64 (q0 * q0))).bind fun q2 => (if q2 ≤ x0 then (torchonref06_root.l0 k x0 q0 x4) else (torchonref06_root.l0 k x0 x3 q0))))) else (some x3))
def torchonref06_root.f (k : Nat) (a0 : Int) : Option (Int) := torchonref06_root.l0 k a0 0 20000
theorem torchonref06_root.mono_l : ∀ k, (∀ y0 y1 y2, LeO (torchonref06_root.l0 k y0 y1 y2) (torchonref06_root.l0 (k + 1) y0 y1 y2))
 | 0 => fun _ _ _ r h => by simp [torchonref06_root.l0] at h
 | k + 1 => by
  have ih0 := torchonref06_root.mono_l k
  ·intro y0 y1 y2
   unfold torchonref06_root.l0
   repeat' first
   | (with_reducible exact ih0 _ _ _)
   | (with_reducible exact LeO.refl _)
   | (with_reducible exact LeO.none _)
   | (with_reducible refine LeO.ite ?_ ?_)
   | (with_reducible refine LeO.bind ?_ (fun _ => ?_))
   | exact ih0 _ _ _
   | exact LeO.none _
   | refine LeO.ite ?_ ?_
   | refine LeO.bind ?_ (fun _ => ?_)
theorem torchonref06_root.mono : ∀ a0 k, LeO (torchonref06_root.f k a0) (torchonref06_root.f (k + 1) a0) := by
 intro a0 k
 have ih0 := torchonref06_root.mono_l k
 unfold torchonref06_root.f
 repeat' first
   | (with_reducible exact ih0 _ _ _)
   | (with_reducible exact LeO.refl _)
   | (with_reducible exact LeO.none _)
   | (with_reducible refine LeO.ite ?_ ?_)
   | (with_reducible refine LeO.bind ?_ (fun _ => ?_))
   | exact ih0 _ _ _
   | exact LeO.none _
   | refine LeO.ite ?_ ?_
   | refine LeO.bind ?_ (fun _ => ?_)
set_option maxHeartbeats 8000000 in
set_option maxRecDepth 100000 in
theorem torchonref06_root.calls (k : Nat) (a0 : Int) (r : Int) (w : World) (h : torchonref06_root.f k a0 = some r) :
  Calls Try.prog 83 #[.int .i64 a0] w fun e w' => e = .returned (.int .i64 r) ∧ Drawn0 w w' := by
 have H : (torchonref06_root.l0 k a0 0 20000) = some r := h
 clear h
 have H' := Aside0.mk H
 clear H
 go_enter Try.func83, Try.ntmps83
 go_wp2
 go_loopg [3, 4] k (fun kq v3 v4 w' => ∃ (x3_1 : Int) (x4_1 : Int), v3 = .int .i64 x3_1 ∧ v4 = .int .i64 x4_1 ∧ Aside0 (torchonref06_root.l0 kq a0 x3_1 x4_1 = some r) ∧ Aside0 (kq ≤ k) ∧ Drawn0 w w')
 case atStart => exact ⟨(0), (20000), (by first | rfl | (simp; done) | (simp [*]; done)), (by first | rfl | (simp; done) | (simp [*]; done)), H', ⟨Nat.le_refl _⟩, by repeat (first | exact Drawn0.refl _ | apply Drawn0.step)⟩
 case round =>
  clear H'
  obtain ⟨x3_1, x4_1, rfl, rfl, HA, HK1, ⟨m1, rfl⟩⟩ := hrel
  cases gk with
  | zero => exact absurd HA.out (by simp [torchonref06_root.l0])
  | succ k1 =>
   have H := HA.out
   clear HA
   simp only [torchonref06_root.l0] at H
   obtain ⟨q1, E20, H⟩ := oc H
   have E2w : (IntKind.i64.wrap (x4_1 - x3_1)) = q1 := (i64_w _).trans E20
   by_cases c3 : q1 > 1
   ·rw [if_pos c3] at H
    have q4 : decide (1 < q1) = true := decide_eq_true c3
    clear c3
    obtain ⟨q3, E40, H⟩ := oc H
    have E4w : (IntKind.i64.wrap (x3_1 + x4_1)) = q3 := (i64_w _).trans E40
    obtain ⟨q0, E50, H⟩ := oc H
    have E5w : (IntKind.i64.wrap (Int.tdiv q3 2)) = q0 := (i64_w _).trans E50
    obtain ⟨q2, E60, H⟩ := oc H
    have E6w : (IntKind.i64.wrap (q0 * q0)) = q2 := (i64_w _).trans E60
    by_cases c7 : q2 ≤ a0
    ·rw [if_pos c7] at H
     have q5 : decide (q2 ≤ a0) = true := decide_eq_true c7
     clear c7
     have H' := Aside0.mk H
     clear H
     go_wp2
     go_roundg k1
     case measure => have := HK1.out; omega
     case rel => exact ⟨(q0), (x4_1), (by first | rfl | (simp; done) | (simp [*]; done)), (by first | rfl | (simp; done) | (simp [*]; done)), H', ⟨by have := HK1.out; omega⟩, by repeat (first | exact Drawn0.refl _ | apply Drawn0.step)⟩
    ·rw [if_neg c7] at H
     have q5 : decide (q2 ≤ a0) = false := decide_eq_false c7
     clear c7
     have H' := Aside0.mk H
     clear H
     go_wp2
     go_roundg k1
     case measure => have := HK1.out; omega
     case rel => exact ⟨(x3_1), (q0), (by first | rfl | (simp; done) | (simp [*]; done)), (by first | rfl | (simp; done) | (simp [*]; done)), H', ⟨by have := HK1.out; omega⟩, by repeat (first | exact Drawn0.refl _ | apply Drawn0.step)⟩
   ·rw [if_neg c3] at H
    have q4 : decide (1 < q1) = false := decide_eq_false c3
    clear c3
    obtain rfl := Option.some.inj H
    go_wp2
    go_ret
    exact ⟨by first | rfl | (simp; done) | (simp [*]; done), by repeat (first | exact Drawn0.refl _ | apply Drawn0.step)⟩
end
section
/-! ### torchonref06_Steps: function 73 -/
def torchonref06_Steps.l0 : Nat → Int → List (S37) → Int → Int → Int → Int → Option ((List (S37)))
 | 0, _, _, _, _, _, _ => none
 | k + 1, x1, x5, x6, x272000, x272001, x272002 => if x6 ≤ 10000 then ((some (wrap64 (x272000 * x1))).bind fun qn => ((torchonref06_Det.f x272000 x272001 x272002).bind fun q6 => ((some (wrap64 (q6 * x6))).bind fun qo => ((some (wrap64 (qo * x6))).bind fun qp => ((some (wrap64 (qn - qp))).bind fun q3 => (if q3 < 0 then ((some (wrap64 (x6 + 1))).bind fun qq => (torchonref06_Steps.l0 k x1 x5 qq x272000 x272001 x272002)) else ((torchonref06_root.f k q3).bind fun q2 => ((some (wrap64 (q2 * q2))).bind fun qa => (if qa = q3 then ((some (wrap64 (x272001 * x6))).bind fun q7 => ((some (wrap64 (q2 - q7))).bind fun ql => (if x272000 = 0 then (none) else ((some (Int.tmod ql x272000)).bind fun qe => (if qe = 0 then ((some (wrap64 (Int.tdiv ql x272000))).bind fun q5 => (if x5.length < 8796093022208 then ((some (x5 ++ [(⟨q5, x6⟩ : S37)] : List (S37))).bind fun q4 => (if q2 > 0 then ((some (wrap64 (q2 + q7))).bind fun qb => ((some (Int.tmod qb x272000)).bind fun q8 => (if q8 = 0 then ((some (wrap64 (-qb))).bind fun qh => ((some (wrap64 (Int.tdiv qh x272000))).bind fun q9 => (if q4.length < 8796093022208 then ((some (wrap64 (x6 + 1))).bind fun qc => (torchonref06_Steps.l0 k x1 (q4 ++ [(⟨q9, x6⟩ : S37)]) qc x272000 x272001 x272002)) else (none)))) else ((some (wrap64 (x6 + 1))).bind fun qi => (torchonref06_Steps.l0 k x1 q4 qi x272000 x272001 x272002))))) else ((some (wrap64 (x6 + 1))).bind fun qj => (torchonref06_Steps.l0 k x1 q4 qj x272000 x272001 x272002)))) else (none))) else (if q2 > 0 then ((some (wrap64 (q2 + q7))).bind fun qm => ((some (Int.tmod qm x272000)).bind fun qf => (if qf = 0 then ((some (wrap64 (-qm))).bind fun qs => ((some (wrap64 (Int.tdiv qs x272000))).bind fun qg => (if x5.length < 8796093022208 then ((some (wrap64 (x6 + 1))).bind fun qk => (torchonref06_Steps.l0 k x1 (x5 ++ [(⟨qg, x6⟩ : S37)]) qk x272000 x272001 x272002)) else (none)))) else ((some (wrap64 (x6 + 1))).bind fun qt => (torchonref06_Steps.l0 k x1 x5 qt x272000 x272001 x272002))))) else ((some (wrap64 (x6 + 1))).bind fun qu => (torchonref06_Steps.l0 k x1 x5 qu x272000 x272001 x272002)))))))) else ((some (wrap64 (x6 + 1))).bind fun qr => (torchonref06_Steps.l0 k x1 x5 qr x272000 x272001 x272002))))))))))) else (some x5)
def torchonref06_Steps.f (k : Nat) (a0_0 : Int) (a0_1 : Int) (a0_2 : Int) (a1 : Int) : Option ((List (S37))) := torchonref06_Steps.l0 k a1 ([] : List (S37)) (-10000) a0_0 a0_1 a0_2
theorem torchonref06_Steps.mono_l : ∀ k, (∀ y0 y1 y2 y3 y4 y5, LeO (torchonref06_Steps.l0 k y0 y1 y2 y3 y4 y5) (torchonref06_Steps.l0 (k + 1) y0 y1 y2 y3 y4 y5))
 | 0 => fun _ _ _ _ _ _ r h => by simp [torchonref06_Steps.l0] at h
 | k + 1 => by
  have ih0 := torchonref06_Steps.mono_l k
  ·intro y0 y1 y2 y3 y4 y5
   unfold torchonref06_Steps.l0
   repeat' first
   | (with_reducible exact ih0 _ _ _ _ _ _)
   | (with_reducible exact torchonref06_root.mono _ _)
   | (with_reducible exact LeO.refl _)
   | (with_reducible exact LeO.none _)
   | (with_reducible refine LeO.ite ?_ ?_)
   | (with_reducible refine LeO.bind ?_ (fun _ => ?_))
   | exact ih0 _ _ _ _ _ _
   | exact torchonref06_root.mono _ _
   | exact LeO.none _
   | refine LeO.ite ?_ ?_
   | refine LeO.bind ?_ (fun _ => ?_)
theorem torchonref06_Steps.mono : ∀ a0 a1 a2 a3 k, LeO (torchonref06_Steps.f k a0 a1 a2 a3) (torchonref06_Steps.f (k + 1) a0 a1 a2 a3) := by
 intro a0 a1 a2 a3 k
 have ih0 := torchonref06_Steps.mono_l k
 unfold torchonref06_Steps.f
 repeat' first
   | (with_reducible exact ih0 _ _ _ _ _ _)
   | (with_reducible exact torchonref06_root.mono _ _)
   | (with_reducible exact LeO.refl _)
   | (with_reducible exact LeO.none _)
   | (with_reducible refine LeO.ite ?_ ?_)
   | (with_reducible refine LeO.bind ?_ (fun _ => ?_))
   | exact ih0 _ _ _ _ _ _
   | exact torchonref06_root.mono _ _
   | exact LeO.none _
   | refine LeO.ite ?_ ?_
   | refine LeO.bind ?_ (fun _ => ?_)
def torchonref06_Steps.T5 : Bool × List (List Nat × List Nat) := (true, [([], []), ([0], [0]), ([], []), ([1, 2], [1, 2]), ([], []), ([4], [4]), ([], []), ([5, 6], [5, 6]), ([], []), ([7, 8], [7, 8]), ([3, 9], [3, 9]), ([10, 5, 0, 1, 2, 3, 4, 5, 6, 7, 8, 9, 10], [10])])
def torchonref06_Steps.B5 : List Nat := [0, 1, 0, 7, 0, 16, 0, 112, 0, 496, 1023, 2047]
theorem torchonref06_Steps.tab5 : rtab .any (opsOf Try.f73 5) = torchonref06_Steps.T5 := by kernel_rfl
theorem torchonref06_Steps.bits5 : waitsOk torchonref06_Steps.T5.2 torchonref06_Steps.B5 = true := by kernel_rfl
set_option maxHeartbeats 8000000 in
set_option maxRecDepth 100000 in
theorem torchonref06_Steps.calls (k : Nat) (a0_0 : Int) (a0_1 : Int) (a0_2 : Int) (a1 : Int) (r : List (S37)) (w : World) (h : torchonref06_Steps.f k a0_0 a0_1 a0_2 a1 = some r) :
  Calls Try.prog 73 #[.agg #[.int .i64 a0_0, .int .i64 a0_1, .int .i64 a0_2], .int .i64 a1] w fun e w' => ∃ v0_ : Value, e = .returned (v0_) ∧ Kd.R k37 37 w' w.heap.size (fun _ => True) v0_ r ∧ Below w.heap.size w w' := by
 have hu23 := Try.underlying23
 have hu37 := Try.underlying37
 have HB := Aside0.mk (Below.refl w.heap.size w)
 have H : (torchonref06_Steps.l0 k a1 ([] : List (S37)) (-10000) a0_0 a0_1 a0_2) = some r := h
 clear h
 have H' := Aside0.mk H
 clear H
 go_enter Try.func73, Try.ntmps73
 go_wp2_with (first | ((with_reducible refine gate_dst (N := 2) rfl ?_); refine bx 2 #[.int .i64 a0_0, .int .i64 a0_1, .int .i64 a0_2] 23 fun q1 hg w3 q0 hb => ?_; have qM := gw hg HB; have qx := gw hg HB; replace HB := bst HB hb; clear hb hg))
 (try simp only [Act.put, List.setIfInBounds_toArray, List.set_cons_zero, List.set_cons_succ])
 go_loopg [5, 6] k (fun kq v5 v6 w' => ∃ (x5_1 : List (S37)) (x6_1 : Int), v6 = .int .i64 x6_1 ∧ Aside0 (torchonref06_Steps.l0 kq a1 x5_1 x6_1 a0_0 a0_1 a0_2 = some r) ∧ Aside0 (kq ≤ k) ∧ Aside0 (Kd.R k37 37 w' w.heap.size (fun _ => True) v5 x5_1) ∧ Aside0 (w'.heap[q1]? = some (.cells #[.int .i64 a0_0, .int .i64 a0_1, .int .i64 a0_2] 23 (0, 0))) ∧ Aside0 (Below w.heap.size w w'))
 case atStart => exact ⟨(([] : List (S37))), ((-10000)), (by first | rfl | (simp; done) | (simp [*]; done)), H', ⟨Nat.le_refl _⟩, ⟨by first | exact Kd.R_nil _ _ _ _ _ | exact Kd.N_nil _ _ _ _ _ | exact Kd.V_nil _ _ _ _ _ | exact Kd.Q_nil _ _ _ _ _ | exact Kd.S_nil _ _ _ _ _⟩, ⟨pk q0⟩, ⟨bnow HB⟩⟩
 case round =>
  clear H'
  try clear p2
  obtain ⟨x5_1, x6_1, rfl, HA, HK1, HO_5, q0, HB⟩ := hrel
  cases gk with
  | zero => exact absurd HA.out (by simp [torchonref06_Steps.l0])
  | succ k1 =>
   have H := HA.out
   clear HA
   simp only [torchonref06_Steps.l0] at H
   by_cases c4 : x6_1 ≤ 10000
   ·rw [if_pos c4] at H
    have qJ : decide (x6_1 ≤ 10000) = true := decide_eq_true c4
    clear c4
    obtain ⟨qn, E50, H⟩ := oc H
    have E5w : (IntKind.i64.wrap (a0_0 * a1)) = qn := (i64_w _).trans E50
    obtain ⟨q6, A6, H⟩ := ob H
    obtain ⟨qo, E70, H⟩ := oc H
    have E7w : (IntKind.i64.wrap (q6 * x6_1)) = qo := (i64_w _).trans E70
    obtain ⟨qp, E80, H⟩ := oc H
    have E8w : (IntKind.i64.wrap (qo * x6_1)) = qp := (i64_w _).trans E80
    obtain ⟨q3, E90, H⟩ := oc H
    have E9w : (IntKind.i64.wrap (qn - qp)) = q3 := (i64_w _).trans E90
    by_cases c10 : q3 < 0
    ·rw [if_pos c10] at H
     have qA : decide (q3 < 0) = true := decide_eq_true c10
     clear c10
     obtain ⟨qq, E110, H⟩ := oc H
     have E11w : (IntKind.i64.wrap (x6_1 + 1)) = qq := (i64_w _).trans E110
     have H' := Aside0.mk H
     clear H
     try go_wp2
     replace HO_5 := Aside0.mk (Kd.R_drew HO_5.out)
     replace q0 := bd q0
     replace HB := bdn HB
     refine start_ (n := 12) (S := fun w' => w'.cell? ⟨q1, 0, none⟩ = some (.int .i64 a0_0) ∧ w'.cell? ⟨q1, 1, none⟩ = some (.int .i64 a0_1) ∧ w'.cell? ⟨q1, 2, none⟩ = some (.int .i64 a0_2)) (ds := []) #[false, false, false, false, false, false, false, false, false, false, false, false] (by kernel_rfl) rfl rfl ⟨(blk_cell q0.out 0).trans rfl, (blk_cell q0.out 1).trans rfl, (blk_cell q0.out 2).trans rfl⟩ (fun hHeld => ?_); refine with_tabW torchonref06_Steps.tab5 torchonref06_Steps.bits5 (fun HT_ HW_ => ?_)
     generalize wr.drew = w12 at HO_5 q0 HB hHeld ⊢
     refine pz 0 13 HT_ ?_
     refine pz 2 15 HT_ ?_
     refine pz 6 19 HT_ ?_
     refine pz 8 21 HT_ ?_
     refine tz 1 14 HT_ HW_ hHeld ?_
     refine pz 3 16 HT_ ?_
     refine tz 4 17 HT_ HW_ hHeld ?_
     refine one_ (i := 5) (N := some 18) #[true, true, true, true, true, true, true, false, true, false, false, false] rfl rfl (one_of HT_.out (by kernel_rfl)) (by decide) (fun K hK => ?_)
     refine gs _ Try.func72 (torchonref06_Det.calls a0_0 a0_1 a0_2 q6 _ A6.out) ?_
     rintro e w13 ⟨rfl, hb⟩
     refine ⟨_, rfl, ?_⟩
     have n0_ := Aside0.mk (Kd.R_below (by (with_reducible repeat (first | apply Kd.R_alloc | apply Kd.R_drewN | apply Kd.R_drew)); exact HO_5.out) hb)
     have n1_ := bb q0 hb
     have n2_ := bst HB hb
     clear HO_5
     clear q0
     clear HB
     have HO_5 := n0_
     have q0 := n1_
     have HB := n2_
     clear n0_ n1_ n2_
     (try clear hb)
     (try clear hb2)
     (try clear hk)
     (try clear hi)
     refine hK.out _ _ ⟨(blk_cell q0.out 0).trans rfl, (blk_cell q0.out 1).trans rfl, (blk_cell q0.out 2).trans rfl⟩ (fun hHeld => ?_)
     clear hK K
     refine norm_ (a' := ?_) ?_ ?_
     rotate_left
     ·show Act.put _ (some 18) _ = _
      simp only [Act.put, List.setIfInBounds_toArray, List.set_cons_zero, List.set_cons_succ, i64_w, i32_w]
      rfl
     refine pz 7 20 HT_ ?_
     refine pz 9 22 HT_ ?_
     refine pz 10 23 HT_ ?_
     refine pz 11 7 HT_ ?_
     refine done_ (done_of HT_.out (by kernel_rfl)) ?_
     try go_wp2
     go_roundg k1
     case measure => have := HK1.out; omega
     case rel => exact ⟨(x5_1), (qq), (by first | rfl | (simp; done) | (simp [*]; done)), H', ⟨by have := HK1.out; omega⟩, ⟨by (with_reducible repeat (first | apply Kd.R_alloc | apply Kd.R_drewN | apply Kd.R_drew)); exact HO_5.out⟩, ⟨pk q0⟩, ⟨bnow HB⟩⟩
    ·rw [if_neg c10] at H
     have qA : decide (q3 < 0) = false := decide_eq_false c10
     clear c10
     obtain ⟨q2, A14, H⟩ := ob H
     obtain ⟨qa, E150, H⟩ := oc H
     have E15w : (IntKind.i64.wrap (q2 * q2)) = qa := (i64_w _).trans E150
     by_cases c16 : qa = q3
     ·rw [if_pos c16] at H
      have qB : (qa == q3) = true := beq_iff_eq.mpr c16
      have qC : (qa != q3) = false := bne_eq_false_iff_eq.mpr c16
      clear c16
      obtain ⟨q7, E170, H⟩ := oc H
      have E17w : (IntKind.i64.wrap (a0_1 * x6_1)) = q7 := (i64_w _).trans E170
      obtain ⟨ql, E180, H⟩ := oc H
      have E18w : (IntKind.i64.wrap (q2 - q7)) = ql := (i64_w _).trans E180
      by_cases c19 : a0_0 = 0
      ·rw [if_pos c19] at H
       exact absurd H (by simp)
      ·rw [if_neg c19] at H
       have qN : (a0_0 == 0) = false := beq_eq_false_iff_ne.mpr c19
       have qO : (a0_0 != 0) = true := bne_iff_ne.mpr c19
       obtain ⟨qe, E200, H⟩ := oc H
       by_cases c21 : qe = 0
       ·rw [if_pos c21] at H
        have qD : (qe == 0) = true := beq_iff_eq.mpr c21
        have qE : (qe != 0) = false := bne_eq_false_iff_eq.mpr c21
        clear c21
        obtain ⟨q5, E220, H⟩ := oc H
        have E22w : (IntKind.i64.wrap (Int.tdiv ql a0_0)) = q5 := (i64_w _).trans E220
        by_cases c23 : x5_1.length < 8796093022208
        ·rw [if_pos c23] at H
         have LMc23 := Aside0.mk c23
         clear c23
         obtain ⟨q4, hy285⟩ : ∃ y_ : List (S37), y_ = (x5_1 ++ [(⟨q5, x6_1⟩ : S37)]) := ⟨_, rfl⟩
         replace H : (if q2 > 0 then ((some (wrap64 (q2 + q7))).bind fun qb => ((some (Int.tmod qb a0_0)).bind fun q8 => (if q8 = 0 then ((some (wrap64 (-qb))).bind fun qh => ((some (wrap64 (Int.tdiv qh a0_0))).bind fun q9 => (if q4.length < 8796093022208 then ((some (wrap64 (x6_1 + 1))).bind fun qc => (torchonref06_Steps.l0 k1 a1 (q4 ++ [(⟨q9, x6_1⟩ : S37)]) qc a0_0 a0_1 a0_2)) else (none)))) else ((some (wrap64 (x6_1 + 1))).bind fun qi => (torchonref06_Steps.l0 k1 a1 q4 qi a0_0 a0_1 a0_2))))) else ((some (wrap64 (x6_1 + 1))).bind fun qj => (torchonref06_Steps.l0 k1 a1 q4 qj a0_0 a0_1 a0_2))) = some r := by first | (rw [hy285]; with_reducible exact H) | (have H2_ := (Option.bind_some _ _).symm.trans H; rw [hy285]; with_reducible exact H2_) | (have H2_ := (Option.bind_some _ _).symm.trans H; with_reducible exact H2_) | with_reducible exact H | (rw [hy285]; exact H) | exact H
         have Ny285 := Aside0.mk hy285
         clear hy285
         by_cases c24 : q2 > 0
         ·rw [if_pos c24] at H
          have qF : decide (0 < q2) = true := decide_eq_true c24
          clear c24
          obtain ⟨qb, E250, H⟩ := oc H
          have E25w : (IntKind.i64.wrap (q2 + q7)) = qb := (i64_w _).trans E250
          obtain ⟨q8, E260, H⟩ := oc H
          by_cases c27 : q8 = 0
          ·rw [if_pos c27] at H
           have qG : (q8 == 0) = true := beq_iff_eq.mpr c27
           have qH : (q8 != 0) = false := bne_eq_false_iff_eq.mpr c27
           clear c27
           obtain ⟨qh, E280, H⟩ := oc H
           have E28w : (IntKind.i64.wrap (-qb)) = qh := (i64_w _).trans E280
           obtain ⟨q9, E290, H⟩ := oc H
           have E29w : (IntKind.i64.wrap (Int.tdiv qh a0_0)) = q9 := (i64_w _).trans E290
           by_cases c30 : q4.length < 8796093022208
           ·rw [if_pos c30] at H
            have LMc30 := Aside0.mk c30
            clear c30
            obtain ⟨qv, hy292⟩ : ∃ y_ : List (S37), y_ = (q4 ++ [(⟨q9, x6_1⟩ : S37)]) := ⟨_, rfl⟩
            replace H : ((some (wrap64 (x6_1 + 1))).bind fun qc => (torchonref06_Steps.l0 k1 a1 qv qc a0_0 a0_1 a0_2)) = some r := by first | (rw [hy292]; with_reducible exact H) | (have H2_ := (Option.bind_some _ _).symm.trans H; rw [hy292]; with_reducible exact H2_) | (have H2_ := (Option.bind_some _ _).symm.trans H; with_reducible exact H2_) | with_reducible exact H | (rw [hy292]; exact H) | exact H
            have Ny292 := Aside0.mk hy292
            clear hy292
            obtain ⟨qc, E310, H⟩ := oc H
            have E31w : (IntKind.i64.wrap (x6_1 + 1)) = qc := (i64_w _).trans E310
            have H' := Aside0.mk H
            clear H
            try go_wp2
            replace HO_5 := Aside0.mk (Kd.R_drew HO_5.out)
            replace q0 := bd q0
            replace HB := bdn HB
            refine start_ (n := 12) (S := fun w' => w'.cell? ⟨q1, 0, none⟩ = some (.int .i64 a0_0) ∧ w'.cell? ⟨q1, 1, none⟩ = some (.int .i64 a0_1) ∧ w'.cell? ⟨q1, 2, none⟩ = some (.int .i64 a0_2)) (ds := []) #[false, false, false, false, false, false, false, false, false, false, false, false] (by kernel_rfl) rfl rfl ⟨(blk_cell q0.out 0).trans rfl, (blk_cell q0.out 1).trans rfl, (blk_cell q0.out 2).trans rfl⟩ (fun hHeld => ?_); refine with_tabW torchonref06_Steps.tab5 torchonref06_Steps.bits5 (fun HT_ HW_ => ?_)
            generalize wr.drew = w32 at HO_5 q0 HB hHeld ⊢
            refine pz 0 13 HT_ ?_
            refine pz 2 15 HT_ ?_
            refine pz 6 19 HT_ ?_
            refine pz 8 21 HT_ ?_
            refine tz 1 14 HT_ HW_ hHeld ?_
            refine pz 3 16 HT_ ?_
            refine tz 4 17 HT_ HW_ hHeld ?_
            refine one_ (i := 5) (N := some 18) #[true, true, true, true, true, true, true, false, true, false, false, false] rfl rfl (one_of HT_.out (by kernel_rfl)) (by decide) (fun K hK => ?_)
            refine gs _ Try.func72 (torchonref06_Det.calls a0_0 a0_1 a0_2 q6 _ A6.out) ?_
            rintro e w33 ⟨rfl, hb⟩
            refine ⟨_, rfl, ?_⟩
            have n0_ := Aside0.mk (Kd.R_below (by (with_reducible repeat (first | apply Kd.R_alloc | apply Kd.R_drewN | apply Kd.R_drew)); exact HO_5.out) hb)
            have n1_ := bb q0 hb
            have n2_ := bst HB hb
            clear HO_5
            clear q0
            clear HB
            have HO_5 := n0_
            have q0 := n1_
            have HB := n2_
            clear n0_ n1_ n2_
            (try clear hb)
            (try clear hb2)
            (try clear hk)
            (try clear hi)
            refine hK.out _ _ ⟨(blk_cell q0.out 0).trans rfl, (blk_cell q0.out 1).trans rfl, (blk_cell q0.out 2).trans rfl⟩ (fun hHeld => ?_)
            clear hK K
            refine norm_ (a' := ?_) ?_ ?_
            rotate_left
            ·show Act.put _ (some 18) _ = _
             simp only [Act.put, List.setIfInBounds_toArray, List.set_cons_zero, List.set_cons_succ, i64_w, i32_w]
             rfl
            refine pz 7 20 HT_ ?_
            refine pz 9 22 HT_ ?_
            refine pz 10 23 HT_ ?_
            refine pz 11 7 HT_ ?_
            refine done_ (done_of HT_.out (by kernel_rfl)) ?_
            try go_wp2_with (first | ((with_reducible refine gate_callee (f := 83) rfl ?_); refine goesL_ (some 27) rfl rfl Try.func83 (by kernel_rfl) rfl #[.int .i64 q3] rfl am ?_; (with_reducible refine (torchonref06_root.calls k1 q3 q2 _ A14.out).mono ?_); rintro e w' ⟨rfl, ⟨nd, rfl⟩⟩; refine ⟨_, rfl, ?_⟩; have ⟨qP, qQ, qR, jd, je, jf⟩ := cf3 q0) | ((with_reducible refine gate_builtin (b := .append) (xs := #[.tmp 43, .tmp 55]) rfl ?_); at_builtin; refine Kd.R_append k37 (w0 := w) w.heap.size rfl (.tmp 43) (.tmp 55) 98 37 (.agg #[(.int .i64 0), (.int .i64 0)]) 16 rfl Try.underlying98 info37 rfl (by decide) (by omega) u5 x5_1 (⟨q5, x6_1⟩ : S37) [.int .i64 q5, .int .i64 x6_1] (fun _ => True) (fun _ => False) rfl rfl ?aP (fun _ hk => hk.elim) ?aF ?aO ?aB ?aS ?aL ?_; (case aP => exact k37_mkM _ _ _ (⟨q5, x6_1⟩ : S37)); (case aB => exact (bnow HB)); (case aF => exact (fun _ _ => trivial)); (case aO => exact (by (with_reducible repeat (first | apply Kd.R_alloc | apply Kd.R_drewN | apply Kd.R_drew)); exact HO_5.out)); (case aS => exact (below_size (bnow HB))); (case aL => have := LMc23.out; omega); intro v286 w35 ho hb hg hat; rw [← Ny285.out] at ho; have n0_ := Aside0.mk (blk_grown (g := q1) (o := .cells #[.int .i64 a0_0, .int .i64 a0_1, .int .i64 a0_2] 23 (0, 0)) (pk q0) hg (Kd.R_ne HO_5.out q0.out (by decide))); have n1_ := Aside0.mk (hb); have n2_ := Aside0.mk (ho); clear q0; clear HB; clear HO_5; have q0 := n0_; have HB := n1_; have qd := n2_; clear n0_ n1_ n2_; clear ho hb hg hat; have ⟨qS, qT, qU, jg, jh, ji⟩ := cf3 q0) | ((with_reducible refine gate_builtin (b := .append) (xs := #[.tmp 71, .tmp 84]) rfl ?_); at_builtin; refine Kd.R_append k37 (w0 := w) w.heap.size rfl (.tmp 71) (.tmp 84) 98 37 (.agg #[(.int .i64 0), (.int .i64 0)]) 16 rfl Try.underlying98 info37 rfl (by decide) (by omega) v286 q4 (⟨q9, x6_1⟩ : S37) [.int .i64 q9, .int .i64 x6_1] (fun _ => True) (fun _ => False) rfl rfl ?aP (fun _ hk => hk.elim) ?aF ?aO ?aB ?aS ?aL ?_; (case aP => exact k37_mkM _ _ _ (⟨q9, x6_1⟩ : S37)); (case aB => exact (bnow HB)); (case aF => exact (fun _ _ => trivial)); (case aO => exact (by (with_reducible repeat (first | apply Kd.R_alloc | apply Kd.R_drewN | apply Kd.R_drew)); exact qd.out)); (case aS => exact (below_size (bnow HB))); (case aL => have := LMc30.out; omega); intro v293 w37 ho hb hg hat; rw [← Ny292.out] at ho; have n0_ := Aside0.mk (blk_grown (g := q1) (o := .cells #[.int .i64 a0_0, .int .i64 a0_1, .int .i64 a0_2] 23 (0, 0)) (pk q0) hg (Kd.R_ne qd.out q0.out (by decide))); have n1_ := Aside0.mk (hb); have n2_ := Aside0.mk (ho); clear q0; clear HB; clear qd; have q0 := n0_; have HB := n1_; have qy := n2_; clear n0_ n1_ n2_; clear ho hb hg hat))
            go_roundg k1
            case measure => have := HK1.out; omega
            case rel => exact ⟨(qv), (qc), (by first | rfl | (simp; done) | (simp [*]; done)), H', ⟨by have := HK1.out; omega⟩, ⟨by (with_reducible repeat (first | apply Kd.R_alloc | apply Kd.R_drewN | apply Kd.R_drew)); exact qy.out⟩, ⟨pk q0⟩, ⟨bnow HB⟩⟩
           ·rw [if_neg c30] at H
            exact absurd H (by simp)
          ·rw [if_neg c27] at H
           have qG : (q8 == 0) = false := beq_eq_false_iff_ne.mpr c27
           have qH : (q8 != 0) = true := bne_iff_ne.mpr c27
           obtain ⟨qi, E380, H⟩ := oc H
           have E38w : (IntKind.i64.wrap (x6_1 + 1)) = qi := (i64_w _).trans E380
           have H' := Aside0.mk H
           clear H
           try go_wp2
           replace HO_5 := Aside0.mk (Kd.R_drew HO_5.out)
           replace q0 := bd q0
           replace HB := bdn HB
           refine start_ (n := 12) (S := fun w' => w'.cell? ⟨q1, 0, none⟩ = some (.int .i64 a0_0) ∧ w'.cell? ⟨q1, 1, none⟩ = some (.int .i64 a0_1) ∧ w'.cell? ⟨q1, 2, none⟩ = some (.int .i64 a0_2)) (ds := []) #[false, false, false, false, false, false, false, false, false, false, false, false] (by kernel_rfl) rfl rfl ⟨(blk_cell q0.out 0).trans rfl, (blk_cell q0.out 1).trans rfl, (blk_cell q0.out 2).trans rfl⟩ (fun hHeld => ?_); refine with_tabW torchonref06_Steps.tab5 torchonref06_Steps.bits5 (fun HT_ HW_ => ?_)
           generalize wr.drew = w39 at HO_5 q0 HB hHeld ⊢
           refine pz 0 13 HT_ ?_
           refine pz 2 15 HT_ ?_
           refine pz 6 19 HT_ ?_
           refine pz 8 21 HT_ ?_
           refine tz 1 14 HT_ HW_ hHeld ?_
           refine pz 3 16 HT_ ?_
           refine tz 4 17 HT_ HW_ hHeld ?_
           refine one_ (i := 5) (N := some 18) #[true, true, true, true, true, true, true, false, true, false, false, false] rfl rfl (one_of HT_.out (by kernel_rfl)) (by decide) (fun K hK => ?_)
           refine gs _ Try.func72 (torchonref06_Det.calls a0_0 a0_1 a0_2 q6 _ A6.out) ?_
           rintro e w40 ⟨rfl, hb⟩
           refine ⟨_, rfl, ?_⟩
           have n0_ := Aside0.mk (Kd.R_below (by (with_reducible repeat (first | apply Kd.R_alloc | apply Kd.R_drewN | apply Kd.R_drew)); exact HO_5.out) hb)
           have n1_ := bb q0 hb
           have n2_ := bst HB hb
           clear HO_5
           clear q0
           clear HB
           have HO_5 := n0_
           have q0 := n1_
           have HB := n2_
           clear n0_ n1_ n2_
           (try clear hb)
           (try clear hb2)
           (try clear hk)
           (try clear hi)
           refine hK.out _ _ ⟨(blk_cell q0.out 0).trans rfl, (blk_cell q0.out 1).trans rfl, (blk_cell q0.out 2).trans rfl⟩ (fun hHeld => ?_)
           clear hK K
           refine norm_ (a' := ?_) ?_ ?_
           rotate_left
           ·show Act.put _ (some 18) _ = _
            simp only [Act.put, List.setIfInBounds_toArray, List.set_cons_zero, List.set_cons_succ, i64_w, i32_w]
            rfl
           refine pz 7 20 HT_ ?_
           refine pz 9 22 HT_ ?_
           refine pz 10 23 HT_ ?_
           refine pz 11 7 HT_ ?_
           refine done_ (done_of HT_.out (by kernel_rfl)) ?_
           try go_wp2_with (first | ((with_reducible refine gate_callee (f := 83) rfl ?_); refine goesL_ (some 27) rfl rfl Try.func83 (by kernel_rfl) rfl #[.int .i64 q3] rfl am ?_; (with_reducible refine (torchonref06_root.calls k1 q3 q2 _ A14.out).mono ?_); rintro e w' ⟨rfl, ⟨nd, rfl⟩⟩; refine ⟨_, rfl, ?_⟩; have ⟨qV, qW, qX, jj, jk, jl⟩ := cf3 q0) | ((with_reducible refine gate_builtin (b := .append) (xs := #[.tmp 43, .tmp 55]) rfl ?_); at_builtin; refine Kd.R_append k37 (w0 := w) w.heap.size rfl (.tmp 43) (.tmp 55) 98 37 (.agg #[(.int .i64 0), (.int .i64 0)]) 16 rfl Try.underlying98 info37 rfl (by decide) (by omega) u5 x5_1 (⟨q5, x6_1⟩ : S37) [.int .i64 q5, .int .i64 x6_1] (fun _ => True) (fun _ => False) rfl rfl ?aP (fun _ hk => hk.elim) ?aF ?aO ?aB ?aS ?aL ?_; (case aP => exact k37_mkM _ _ _ (⟨q5, x6_1⟩ : S37)); (case aB => exact (bnow HB)); (case aF => exact (fun _ _ => trivial)); (case aO => exact (by (with_reducible repeat (first | apply Kd.R_alloc | apply Kd.R_drewN | apply Kd.R_drew)); exact HO_5.out)); (case aS => exact (below_size (bnow HB))); (case aL => have := LMc23.out; omega); intro v286 w42 ho hb hg hat; rw [← Ny285.out] at ho; have n0_ := Aside0.mk (blk_grown (g := q1) (o := .cells #[.int .i64 a0_0, .int .i64 a0_1, .int .i64 a0_2] 23 (0, 0)) (pk q0) hg (Kd.R_ne HO_5.out q0.out (by decide))); have n1_ := Aside0.mk (hb); have n2_ := Aside0.mk (ho); clear q0; clear HB; clear HO_5; have q0 := n0_; have HB := n1_; have qd := n2_; clear n0_ n1_ n2_; clear ho hb hg hat; have ⟨qY, qZ, j0, jm, jn, jo⟩ := cf3 q0))
           go_roundg k1
           case measure => have := HK1.out; omega
           case rel => exact ⟨(q4), (qi), (by first | rfl | (simp; done) | (simp [*]; done)), H', ⟨by have := HK1.out; omega⟩, ⟨by (with_reducible repeat (first | apply Kd.R_alloc | apply Kd.R_drewN | apply Kd.R_drew)); exact qd.out⟩, ⟨pk q0⟩, ⟨bnow HB⟩⟩
         ·rw [if_neg c24] at H
          have qF : decide (0 < q2) = false := decide_eq_false c24
          clear c24
          obtain ⟨qj, E440, H⟩ := oc H
          have E44w : (IntKind.i64.wrap (x6_1 + 1)) = qj := (i64_w _).trans E440
          have H' := Aside0.mk H
          clear H
          try go_wp2
          replace HO_5 := Aside0.mk (Kd.R_drew HO_5.out)
          replace q0 := bd q0
          replace HB := bdn HB
          refine start_ (n := 12) (S := fun w' => w'.cell? ⟨q1, 0, none⟩ = some (.int .i64 a0_0) ∧ w'.cell? ⟨q1, 1, none⟩ = some (.int .i64 a0_1) ∧ w'.cell? ⟨q1, 2, none⟩ = some (.int .i64 a0_2)) (ds := []) #[false, false, false, false, false, false, false, false, false, false, false, false] (by kernel_rfl) rfl rfl ⟨(blk_cell q0.out 0).trans rfl, (blk_cell q0.out 1).trans rfl, (blk_cell q0.out 2).trans rfl⟩ (fun hHeld => ?_); refine with_tabW torchonref06_Steps.tab5 torchonref06_Steps.bits5 (fun HT_ HW_ => ?_)
          generalize wr.drew = w45 at HO_5 q0 HB hHeld ⊢
          refine pz 0 13 HT_ ?_
          refine pz 2 15 HT_ ?_
          refine pz 6 19 HT_ ?_
          refine pz 8 21 HT_ ?_
          refine tz 1 14 HT_ HW_ hHeld ?_
          refine pz 3 16 HT_ ?_
          refine tz 4 17 HT_ HW_ hHeld ?_
          refine one_ (i := 5) (N := some 18) #[true, true, true, true, true, true, true, false, true, false, false, false] rfl rfl (one_of HT_.out (by kernel_rfl)) (by decide) (fun K hK => ?_)
          refine gs _ Try.func72 (torchonref06_Det.calls a0_0 a0_1 a0_2 q6 _ A6.out) ?_
          rintro e w46 ⟨rfl, hb⟩
          refine ⟨_, rfl, ?_⟩
          have n0_ := Aside0.mk (Kd.R_below (by (with_reducible repeat (first | apply Kd.R_alloc | apply Kd.R_drewN | apply Kd.R_drew)); exact HO_5.out) hb)
          have n1_ := bb q0 hb
          have n2_ := bst HB hb
          clear HO_5
          clear q0
          clear HB
          have HO_5 := n0_
          have q0 := n1_
          have HB := n2_
          clear n0_ n1_ n2_
          (try clear hb)
          (try clear hb2)
          (try clear hk)
          (try clear hi)
          refine hK.out _ _ ⟨(blk_cell q0.out 0).trans rfl, (blk_cell q0.out 1).trans rfl, (blk_cell q0.out 2).trans rfl⟩ (fun hHeld => ?_)
          clear hK K
          refine norm_ (a' := ?_) ?_ ?_
          rotate_left
          ·show Act.put _ (some 18) _ = _
           simp only [Act.put, List.setIfInBounds_toArray, List.set_cons_zero, List.set_cons_succ, i64_w, i32_w]
           rfl
          refine pz 7 20 HT_ ?_
          refine pz 9 22 HT_ ?_
          refine pz 10 23 HT_ ?_
          refine pz 11 7 HT_ ?_
          refine done_ (done_of HT_.out (by kernel_rfl)) ?_
          try go_wp2_with (first | ((with_reducible refine gate_callee (f := 83) rfl ?_); refine goesL_ (some 27) rfl rfl Try.func83 (by kernel_rfl) rfl #[.int .i64 q3] rfl am ?_; (with_reducible refine (torchonref06_root.calls k1 q3 q2 _ A14.out).mono ?_); rintro e w' ⟨rfl, ⟨nd, rfl⟩⟩; refine ⟨_, rfl, ?_⟩; have ⟨j1, j2, j3, jp, jq, jr⟩ := cf3 q0) | ((with_reducible refine gate_builtin (b := .append) (xs := #[.tmp 43, .tmp 55]) rfl ?_); at_builtin; refine Kd.R_append k37 (w0 := w) w.heap.size rfl (.tmp 43) (.tmp 55) 98 37 (.agg #[(.int .i64 0), (.int .i64 0)]) 16 rfl Try.underlying98 info37 rfl (by decide) (by omega) u5 x5_1 (⟨q5, x6_1⟩ : S37) [.int .i64 q5, .int .i64 x6_1] (fun _ => True) (fun _ => False) rfl rfl ?aP (fun _ hk => hk.elim) ?aF ?aO ?aB ?aS ?aL ?_; (case aP => exact k37_mkM _ _ _ (⟨q5, x6_1⟩ : S37)); (case aB => exact (bnow HB)); (case aF => exact (fun _ _ => trivial)); (case aO => exact (by (with_reducible repeat (first | apply Kd.R_alloc | apply Kd.R_drewN | apply Kd.R_drew)); exact HO_5.out)); (case aS => exact (below_size (bnow HB))); (case aL => have := LMc23.out; omega); intro v286 w48 ho hb hg hat; rw [← Ny285.out] at ho; have n0_ := Aside0.mk (blk_grown (g := q1) (o := .cells #[.int .i64 a0_0, .int .i64 a0_1, .int .i64 a0_2] 23 (0, 0)) (pk q0) hg (Kd.R_ne HO_5.out q0.out (by decide))); have n1_ := Aside0.mk (hb); have n2_ := Aside0.mk (ho); clear q0; clear HB; clear HO_5; have q0 := n0_; have HB := n1_; have qd := n2_; clear n0_ n1_ n2_; clear ho hb hg hat))
          go_roundg k1
          case measure => have := HK1.out; omega
          case rel => exact ⟨(q4), (qj), (by first | rfl | (simp; done) | (simp [*]; done)), H', ⟨by have := HK1.out; omega⟩, ⟨by (with_reducible repeat (first | apply Kd.R_alloc | apply Kd.R_drewN | apply Kd.R_drew)); exact qd.out⟩, ⟨pk q0⟩, ⟨bnow HB⟩⟩
        ·rw [if_neg c23] at H
         exact absurd H (by simp)
       ·rw [if_neg c21] at H
        have qD : (qe == 0) = false := beq_eq_false_iff_ne.mpr c21
        have qE : (qe != 0) = true := bne_iff_ne.mpr c21
        by_cases c49 : q2 > 0
        ·rw [if_pos c49] at H
         have qI : decide (0 < q2) = true := decide_eq_true c49
         clear c49
         obtain ⟨qm, E500, H⟩ := oc H
         have E50w : (IntKind.i64.wrap (q2 + q7)) = qm := (i64_w _).trans E500
         obtain ⟨qf, E510, H⟩ := oc H
         by_cases c52 : qf = 0
         ·rw [if_pos c52] at H
          have qK : (qf == 0) = true := beq_iff_eq.mpr c52
          have qL : (qf != 0) = false := bne_eq_false_iff_eq.mpr c52
          clear c52
          obtain ⟨qs, E530, H⟩ := oc H
          have E53w : (IntKind.i64.wrap (-qm)) = qs := (i64_w _).trans E530
          obtain ⟨qg, E540, H⟩ := oc H
          have E54w : (IntKind.i64.wrap (Int.tdiv qs a0_0)) = qg := (i64_w _).trans E540
          by_cases c55 : x5_1.length < 8796093022208
          ·rw [if_pos c55] at H
           have LMc55 := Aside0.mk c55
           clear c55
           obtain ⟨qw, hy302⟩ : ∃ y_ : List (S37), y_ = (x5_1 ++ [(⟨qg, x6_1⟩ : S37)]) := ⟨_, rfl⟩
           replace H : ((some (wrap64 (x6_1 + 1))).bind fun qk => (torchonref06_Steps.l0 k1 a1 qw qk a0_0 a0_1 a0_2)) = some r := by first | (rw [hy302]; with_reducible exact H) | (have H2_ := (Option.bind_some _ _).symm.trans H; rw [hy302]; with_reducible exact H2_) | (have H2_ := (Option.bind_some _ _).symm.trans H; with_reducible exact H2_) | with_reducible exact H | (rw [hy302]; exact H) | exact H
           have Ny302 := Aside0.mk hy302
           clear hy302
           obtain ⟨qk, E560, H⟩ := oc H
           have E56w : (IntKind.i64.wrap (x6_1 + 1)) = qk := (i64_w _).trans E560
           have H' := Aside0.mk H
           clear H
           try go_wp2
           replace HO_5 := Aside0.mk (Kd.R_drew HO_5.out)
           replace q0 := bd q0
           replace HB := bdn HB
           refine start_ (n := 12) (S := fun w' => w'.cell? ⟨q1, 0, none⟩ = some (.int .i64 a0_0) ∧ w'.cell? ⟨q1, 1, none⟩ = some (.int .i64 a0_1) ∧ w'.cell? ⟨q1, 2, none⟩ = some (.int .i64 a0_2)) (ds := []) #[false, false, false, false, false, false, false, false, false, false, false, false] (by kernel_rfl) rfl rfl ⟨(blk_cell q0.out 0).trans rfl, (blk_cell q0.out 1).trans rfl, (blk_cell q0.out 2).trans rfl⟩ (fun hHeld => ?_); refine with_tabW torchonref06_Steps.tab5 torchonref06_Steps.bits5 (fun HT_ HW_ => ?_)
           generalize wr.drew = w57 at HO_5 q0 HB hHeld ⊢
           refine pz 0 13 HT_ ?_
           refine pz 2 15 HT_ ?_
           refine pz 6 19 HT_ ?_
           refine pz 8 21 HT_ ?_
           refine tz 1 14 HT_ HW_ hHeld ?_
           refine pz 3 16 HT_ ?_
           refine tz 4 17 HT_ HW_ hHeld ?_
           refine one_ (i := 5) (N := some 18) #[true, true, true, true, true, true, true, false, true, false, false, false] rfl rfl (one_of HT_.out (by kernel_rfl)) (by decide) (fun K hK => ?_)
           refine gs _ Try.func72 (torchonref06_Det.calls a0_0 a0_1 a0_2 q6 _ A6.out) ?_
           rintro e w58 ⟨rfl, hb⟩
           refine ⟨_, rfl, ?_⟩
           have n0_ := Aside0.mk (Kd.R_below (by (with_reducible repeat (first | apply Kd.R_alloc | apply Kd.R_drewN | apply Kd.R_drew)); exact HO_5.out) hb)
           have n1_ := bb q0 hb
           have n2_ := bst HB hb
           clear HO_5
           clear q0
           clear HB
           have HO_5 := n0_
           have q0 := n1_
           have HB := n2_
           clear n0_ n1_ n2_
           (try clear hb)
           (try clear hb2)
           (try clear hk)
           (try clear hi)
           refine hK.out _ _ ⟨(blk_cell q0.out 0).trans rfl, (blk_cell q0.out 1).trans rfl, (blk_cell q0.out 2).trans rfl⟩ (fun hHeld => ?_)
           clear hK K
           refine norm_ (a' := ?_) ?_ ?_
           rotate_left
           ·show Act.put _ (some 18) _ = _
            simp only [Act.put, List.setIfInBounds_toArray, List.set_cons_zero, List.set_cons_succ, i64_w, i32_w]
            rfl
           refine pz 7 20 HT_ ?_
           refine pz 9 22 HT_ ?_
           refine pz 10 23 HT_ ?_
           refine pz 11 7 HT_ ?_
           refine done_ (done_of HT_.out (by kernel_rfl)) ?_
           try go_wp2_with (first | ((with_reducible refine gate_callee (f := 83) rfl ?_); refine goesL_ (some 27) rfl rfl Try.func83 (by kernel_rfl) rfl #[.int .i64 q3] rfl am ?_; (with_reducible refine (torchonref06_root.calls k1 q3 q2 _ A14.out).mono ?_); rintro e w' ⟨rfl, ⟨nd, rfl⟩⟩; refine ⟨_, rfl, ?_⟩; have ⟨j4, j5, j6, js, jt, ju⟩ := cf3 q0) | ((with_reducible refine gate_builtin (b := .append) (xs := #[.tmp 71, .tmp 84]) rfl ?_); at_builtin; refine Kd.R_append k37 (w0 := w) w.heap.size rfl (.tmp 71) (.tmp 84) 98 37 (.agg #[(.int .i64 0), (.int .i64 0)]) 16 rfl Try.underlying98 info37 rfl (by decide) (by omega) u5 x5_1 (⟨qg, x6_1⟩ : S37) [.int .i64 qg, .int .i64 x6_1] (fun _ => True) (fun _ => False) rfl rfl ?aP (fun _ hk => hk.elim) ?aF ?aO ?aB ?aS ?aL ?_; (case aP => exact k37_mkM _ _ _ (⟨qg, x6_1⟩ : S37)); (case aB => exact (bnow HB)); (case aF => exact (fun _ _ => trivial)); (case aO => exact (by (with_reducible repeat (first | apply Kd.R_alloc | apply Kd.R_drewN | apply Kd.R_drew)); exact HO_5.out)); (case aS => exact (below_size (bnow HB))); (case aL => have := LMc55.out; omega); intro v303 w60 ho hb hg hat; rw [← Ny302.out] at ho; have n0_ := Aside0.mk (blk_grown (g := q1) (o := .cells #[.int .i64 a0_0, .int .i64 a0_1, .int .i64 a0_2] 23 (0, 0)) (pk q0) hg (Kd.R_ne HO_5.out q0.out (by decide))); have n1_ := Aside0.mk (hb); have n2_ := Aside0.mk (ho); clear q0; clear HB; clear HO_5; have q0 := n0_; have HB := n1_; have qz := n2_; clear n0_ n1_ n2_; clear ho hb hg hat))
           go_roundg k1
           case measure => have := HK1.out; omega
           case rel => exact ⟨(qw), (qk), (by first | rfl | (simp; done) | (simp [*]; done)), H', ⟨by have := HK1.out; omega⟩, ⟨by (with_reducible repeat (first | apply Kd.R_alloc | apply Kd.R_drewN | apply Kd.R_drew)); exact qz.out⟩, ⟨pk q0⟩, ⟨bnow HB⟩⟩
          ·rw [if_neg c55] at H
           exact absurd H (by simp)
         ·rw [if_neg c52] at H
          have qK : (qf == 0) = false := beq_eq_false_iff_ne.mpr c52
          have qL : (qf != 0) = true := bne_iff_ne.mpr c52
          obtain ⟨qt, E610, H⟩ := oc H
          have E61w : (IntKind.i64.wrap (x6_1 + 1)) = qt := (i64_w _).trans E610
          have H' := Aside0.mk H
          clear H
          try go_wp2
          replace HO_5 := Aside0.mk (Kd.R_drew HO_5.out)
          replace q0 := bd q0
          replace HB := bdn HB
          refine start_ (n := 12) (S := fun w' => w'.cell? ⟨q1, 0, none⟩ = some (.int .i64 a0_0) ∧ w'.cell? ⟨q1, 1, none⟩ = some (.int .i64 a0_1) ∧ w'.cell? ⟨q1, 2, none⟩ = some (.int .i64 a0_2)) (ds := []) #[false, false, false, false, false, false, false, false, false, false, false, false] (by kernel_rfl) rfl rfl ⟨(blk_cell q0.out 0).trans rfl, (blk_cell q0.out 1).trans rfl, (blk_cell q0.out 2).trans rfl⟩ (fun hHeld => ?_); refine with_tabW torchonref06_Steps.tab5 torchonref06_Steps.bits5 (fun HT_ HW_ => ?_)
          generalize wr.drew = w62 at HO_5 q0 HB hHeld ⊢
          refine pz 0 13 HT_ ?_
          refine pz 2 15 HT_ ?_
          refine pz 6 19 HT_ ?_
          refine pz 8 21 HT_ ?_
          refine tz 1 14 HT_ HW_ hHeld ?_
          refine pz 3 16 HT_ ?_
          refine tz 4 17 HT_ HW_ hHeld ?_
          refine one_ (i := 5) (N := some 18) #[true, true, true, true, true, true, true, false, true, false, false, false] rfl rfl (one_of HT_.out (by kernel_rfl)) (by decide) (fun K hK => ?_)
          refine gs _ Try.func72 (torchonref06_Det.calls a0_0 a0_1 a0_2 q6 _ A6.out) ?_
          rintro e w63 ⟨rfl, hb⟩
          refine ⟨_, rfl, ?_⟩
          have n0_ := Aside0.mk (Kd.R_below (by (with_reducible repeat (first | apply Kd.R_alloc | apply Kd.R_drewN | apply Kd.R_drew)); exact HO_5.out) hb)
          have n1_ := bb q0 hb
          have n2_ := bst HB hb
          clear HO_5
          clear q0
          clear HB
          have HO_5 := n0_
          have q0 := n1_
          have HB := n2_
          clear n0_ n1_ n2_
          (try clear hb)
          (try clear hb2)
          (try clear hk)
          (try clear hi)
          refine hK.out _ _ ⟨(blk_cell q0.out 0).trans rfl, (blk_cell q0.out 1).trans rfl, (blk_cell q0.out 2).trans rfl⟩ (fun hHeld => ?_)
          clear hK K
          refine norm_ (a' := ?_) ?_ ?_
          rotate_left
          ·show Act.put _ (some 18) _ = _
           simp only [Act.put, List.setIfInBounds_toArray, List.set_cons_zero, List.set_cons_succ, i64_w, i32_w]
           rfl
          refine pz 7 20 HT_ ?_
          refine pz 9 22 HT_ ?_
          refine pz 10 23 HT_ ?_
          refine pz 11 7 HT_ ?_
          refine done_ (done_of HT_.out (by kernel_rfl)) ?_
          try go_wp2_with (first | ((with_reducible refine gate_callee (f := 83) rfl ?_); refine goesL_ (some 27) rfl rfl Try.func83 (by kernel_rfl) rfl #[.int .i64 q3] rfl am ?_; (with_reducible refine (torchonref06_root.calls k1 q3 q2 _ A14.out).mono ?_); rintro e w' ⟨rfl, ⟨nd, rfl⟩⟩; refine ⟨_, rfl, ?_⟩; have ⟨j7, j8, j9, jv, jw, jx⟩ := cf3 q0))
          go_roundg k1
          case measure => have := HK1.out; omega
          case rel => exact ⟨(x5_1), (qt), (by first | rfl | (simp; done) | (simp [*]; done)), H', ⟨by have := HK1.out; omega⟩, ⟨by (with_reducible repeat (first | apply Kd.R_alloc | apply Kd.R_drewN | apply Kd.R_drew)); exact HO_5.out⟩, ⟨pk q0⟩, ⟨bnow HB⟩⟩
        ·rw [if_neg c49] at H
         have qI : decide (0 < q2) = false := decide_eq_false c49
         clear c49
         obtain ⟨qu, E650, H⟩ := oc H
         have E65w : (IntKind.i64.wrap (x6_1 + 1)) = qu := (i64_w _).trans E650
         have H' := Aside0.mk H
         clear H
         try go_wp2
         replace HO_5 := Aside0.mk (Kd.R_drew HO_5.out)
         replace q0 := bd q0
         replace HB := bdn HB
         refine start_ (n := 12) (S := fun w' => w'.cell? ⟨q1, 0, none⟩ = some (.int .i64 a0_0) ∧ w'.cell? ⟨q1, 1, none⟩ = some (.int .i64 a0_1) ∧ w'.cell? ⟨q1, 2, none⟩ = some (.int .i64 a0_2)) (ds := []) #[false, false, false, false, false, false, false, false, false, false, false, false] (by kernel_rfl) rfl rfl ⟨(blk_cell q0.out 0).trans rfl, (blk_cell q0.out 1).trans rfl, (blk_cell q0.out 2).trans rfl⟩ (fun hHeld => ?_); refine with_tabW torchonref06_Steps.tab5 torchonref06_Steps.bits5 (fun HT_ HW_ => ?_)
         generalize wr.drew = w66 at HO_5 q0 HB hHeld ⊢
         refine pz 0 13 HT_ ?_
         refine pz 2 15 HT_ ?_
         refine pz 6 19 HT_ ?_
         refine pz 8 21 HT_ ?_
         refine tz 1 14 HT_ HW_ hHeld ?_
         refine pz 3 16 HT_ ?_
         refine tz 4 17 HT_ HW_ hHeld ?_
         refine one_ (i := 5) (N := some 18) #[true, true, true, true, true, true, true, false, true, false, false, false] rfl rfl (one_of HT_.out (by kernel_rfl)) (by decide) (fun K hK => ?_)
         refine gs _ Try.func72 (torchonref06_Det.calls a0_0 a0_1 a0_2 q6 _ A6.out) ?_
         rintro e w67 ⟨rfl, hb⟩
         refine ⟨_, rfl, ?_⟩
         have n0_ := Aside0.mk (Kd.R_below (by (with_reducible repeat (first | apply Kd.R_alloc | apply Kd.R_drewN | apply Kd.R_drew)); exact HO_5.out) hb)
         have n1_ := bb q0 hb
         have n2_ := bst HB hb
         clear HO_5
         clear q0
         clear HB
         have HO_5 := n0_
         have q0 := n1_
         have HB := n2_
         clear n0_ n1_ n2_
         (try clear hb)
         (try clear hb2)
         (try clear hk)
         (try clear hi)
         refine hK.out _ _ ⟨(blk_cell q0.out 0).trans rfl, (blk_cell q0.out 1).trans rfl, (blk_cell q0.out 2).trans rfl⟩ (fun hHeld => ?_)
         clear hK K
         refine norm_ (a' := ?_) ?_ ?_
         rotate_left
         ·show Act.put _ (some 18) _ = _
          simp only [Act.put, List.setIfInBounds_toArray, List.set_cons_zero, List.set_cons_succ, i64_w, i32_w]
          rfl
         refine pz 7 20 HT_ ?_
         refine pz 9 22 HT_ ?_
         refine pz 10 23 HT_ ?_
         refine pz 11 7 HT_ ?_
         refine done_ (done_of HT_.out (by kernel_rfl)) ?_
         try go_wp2_with (first | ((with_reducible refine gate_callee (f := 83) rfl ?_); refine goesL_ (some 27) rfl rfl Try.func83 (by kernel_rfl) rfl #[.int .i64 q3] rfl am ?_; (with_reducible refine (torchonref06_root.calls k1 q3 q2 _ A14.out).mono ?_); rintro e w' ⟨rfl, ⟨nd, rfl⟩⟩; refine ⟨_, rfl, ?_⟩; have ⟨ja, jb, jc, jy, jz, jA⟩ := cf3 q0))
         go_roundg k1
         case measure => have := HK1.out; omega
         case rel => exact ⟨(x5_1), (qu), (by first | rfl | (simp; done) | (simp [*]; done)), H', ⟨by have := HK1.out; omega⟩, ⟨by (with_reducible repeat (first | apply Kd.R_alloc | apply Kd.R_drewN | apply Kd.R_drew)); exact HO_5.out⟩, ⟨pk q0⟩, ⟨bnow HB⟩⟩
     ·rw [if_neg c16] at H
      have qB : (qa == q3) = false := beq_eq_false_iff_ne.mpr c16
      have qC : (qa != q3) = true := bne_iff_ne.mpr c16
      obtain ⟨qr, E690, H⟩ := oc H
      have E69w : (IntKind.i64.wrap (x6_1 + 1)) = qr := (i64_w _).trans E690
      have H' := Aside0.mk H
      clear H
      try go_wp2
      replace HO_5 := Aside0.mk (Kd.R_drew HO_5.out)
      replace q0 := bd q0
      replace HB := bdn HB
      refine start_ (n := 12) (S := fun w' => w'.cell? ⟨q1, 0, none⟩ = some (.int .i64 a0_0) ∧ w'.cell? ⟨q1, 1, none⟩ = some (.int .i64 a0_1) ∧ w'.cell? ⟨q1, 2, none⟩ = some (.int .i64 a0_2)) (ds := []) #[false, false, false, false, false, false, false, false, false, false, false, false] (by kernel_rfl) rfl rfl ⟨(blk_cell q0.out 0).trans rfl, (blk_cell q0.out 1).trans rfl, (blk_cell q0.out 2).trans rfl⟩ (fun hHeld => ?_); refine with_tabW torchonref06_Steps.tab5 torchonref06_Steps.bits5 (fun HT_ HW_ => ?_)
      generalize wr.drew = w70 at HO_5 q0 HB hHeld ⊢
      refine pz 0 13 HT_ ?_
      refine pz 2 15 HT_ ?_
      refine pz 6 19 HT_ ?_
      refine pz 8 21 HT_ ?_
      refine tz 1 14 HT_ HW_ hHeld ?_
      refine pz 3 16 HT_ ?_
      refine tz 4 17 HT_ HW_ hHeld ?_
      refine one_ (i := 5) (N := some 18) #[true, true, true, true, true, true, true, false, true, false, false, false] rfl rfl (one_of HT_.out (by kernel_rfl)) (by decide) (fun K hK => ?_)
      refine gs _ Try.func72 (torchonref06_Det.calls a0_0 a0_1 a0_2 q6 _ A6.out) ?_
      rintro e w71 ⟨rfl, hb⟩
      refine ⟨_, rfl, ?_⟩
      have n0_ := Aside0.mk (Kd.R_below (by (with_reducible repeat (first | apply Kd.R_alloc | apply Kd.R_drewN | apply Kd.R_drew)); exact HO_5.out) hb)
      have n1_ := bb q0 hb
      have n2_ := bst HB hb
      clear HO_5
      clear q0
      clear HB
      have HO_5 := n0_
      have q0 := n1_
      have HB := n2_
      clear n0_ n1_ n2_
      (try clear hb)
      (try clear hb2)
      (try clear hk)
      (try clear hi)
      refine hK.out _ _ ⟨(blk_cell q0.out 0).trans rfl, (blk_cell q0.out 1).trans rfl, (blk_cell q0.out 2).trans rfl⟩ (fun hHeld => ?_)
      clear hK K
      refine norm_ (a' := ?_) ?_ ?_
      rotate_left
      ·show Act.put _ (some 18) _ = _
       simp only [Act.put, List.setIfInBounds_toArray, List.set_cons_zero, List.set_cons_succ, i64_w, i32_w]
       rfl
      refine pz 7 20 HT_ ?_
      refine pz 9 22 HT_ ?_
      refine pz 10 23 HT_ ?_
      refine pz 11 7 HT_ ?_
      refine done_ (done_of HT_.out (by kernel_rfl)) ?_
      try go_wp2_with (first | ((with_reducible refine gate_callee (f := 83) rfl ?_); refine goesL_ (some 27) rfl rfl Try.func83 (by kernel_rfl) rfl #[.int .i64 q3] rfl am ?_; (with_reducible refine (torchonref06_root.calls k1 q3 q2 _ A14.out).mono ?_); rintro e w' ⟨rfl, ⟨nd, rfl⟩⟩; refine ⟨_, rfl, ?_⟩))
      go_roundg k1
      case measure => have := HK1.out; omega
      case rel => exact ⟨(x5_1), (qr), (by first | rfl | (simp; done) | (simp [*]; done)), H', ⟨by have := HK1.out; omega⟩, ⟨by (with_reducible repeat (first | apply Kd.R_alloc | apply Kd.R_drewN | apply Kd.R_drew)); exact HO_5.out⟩, ⟨pk q0⟩, ⟨bnow HB⟩⟩
   ·rw [if_neg c4] at H
    have qJ : decide (x6_1 ≤ 10000) = false := decide_eq_false c4
    clear c4
    obtain rfl := Option.some.inj H
    go_wp2
    go_ret
    exact ⟨_, by first | rfl | (simp [errW_none, errW_some] <;> rfl) | (simp [*, errW_none, errW_some] <;> rfl), by (with_reducible repeat (first | apply Kd.R_alloc | apply Kd.R_drewN | apply Kd.R_drew)); exact HO_5.out, by repeat (first | (with_reducible first | exact HB.out | apply below_alloc | apply pw_below_drewN | apply below_drew1 | refine below_set ?_ qx.out) | exact HB.out)⟩
end
section
/-! ### torchonref06_cross: function 74 -/
def torchonref06_cross.f (a0_0 : Int) (a0_1 : Int) (a1_0 : Int) (a1_1 : Int) : Option (Int) := (some (wrap64 (a0_0 * a1_1))).bind fun q0 => ((some (wrap64 (a0_1 * a1_0))).bind fun q1 => ((some (wrap64 (q0 - q1))).bind fun q3 => (some q3)))
set_option maxHeartbeats 8000000 in
set_option maxRecDepth 100000 in
theorem torchonref06_cross.calls (a0_0 : Int) (a0_1 : Int) (a1_0 : Int) (a1_1 : Int) (r : Int) (w : World) (h : torchonref06_cross.f a0_0 a0_1 a1_0 a1_1 = some r) :
  Calls Try.prog 74 #[.agg #[.int .i64 a0_0, .int .i64 a0_1], .agg #[.int .i64 a1_0, .int .i64 a1_1]] w fun e w' => e = .returned (.int .i64 r) ∧ Below w.heap.size w w' := by
 have hu37 := Try.underlying37
 have HB := Aside0.mk (Below.refl w.heap.size w)
 have H : ((some (wrap64 (a0_0 * a1_1))).bind fun q0 => ((some (wrap64 (a0_1 * a1_0))).bind fun q1 => ((some (wrap64 (q0 - q1))).bind fun q3 => (some q3)))) = some r := h
 clear h
 obtain ⟨q0, E30, H⟩ := oc H
 have E3w : (IntKind.i64.wrap (a0_0 * a1_1)) = q0 := (i64_w _).trans E30
 obtain ⟨q1, E40, H⟩ := oc H
 have E4w : (IntKind.i64.wrap (a0_1 * a1_0)) = q1 := (i64_w _).trans E40
 obtain ⟨q3, E50, H⟩ := oc H
 have E5w : (IntKind.i64.wrap (q0 - q1)) = q3 := (i64_w _).trans E50
 obtain rfl := Option.some.inj H
 go_enter Try.func74, Try.ntmps74
 go_wp2_with (first | ((with_reducible refine gate_dst (N := 2) rfl ?_); refine bx 2 #[.int .i64 a0_0, .int .i64 a0_1] 37 fun qb hg w6 q2 hb => ?_; have q9 := gw hg HB; have q7 := gw hg HB; replace HB := bst HB hb; clear hb hg) | ((with_reducible refine gate_dst (N := 3) rfl ?_); refine bx 3 #[.int .i64 a1_0, .int .i64 a1_1] 37 fun qc hg w7 q4 hb => ?_; have qa := gw hg HB; have q8 := gw hg HB; have q5 := nlt hg q2; have q6 := ngt hg q2; replace q2 := bb q2 hb; replace HB := bst HB hb; clear hb hg; have ql := q5.out; have qm := q6.out; have ⟨qf, qg, qj, qk⟩ := cf2 q2; have ⟨qd, qe, qh, qi⟩ := cf2 q4))
 go_ret
 exact rt HB
end
section
/-! ### torchonref06_Less: function 75 -/
def torchonref06_Less.f (a0_0 : Int) (a0_1 : Int) (a0_2 : Int) (a0_3 : Int) (a1_0 : Int) (a1_1 : Int) (a1_2 : Int) (a1_3 : Int) : Option (Bool) := if a0_0 = a1_0 then (if a0_1 = a1_1 then (if a0_2 = a1_2 then (some (decide (a0_3 < a1_3))) else (some (decide (a0_2 < a1_2)))) else (some (decide (a0_1 < a1_1)))) else (some (decide (a0_0 < a1_0)))
set_option maxHeartbeats 8000000 in
set_option maxRecDepth 100000 in
theorem torchonref06_Less.calls (a0_0 : Int) (a0_1 : Int) (a0_2 : Int) (a0_3 : Int) (a1_0 : Int) (a1_1 : Int) (a1_2 : Int) (a1_3 : Int) (r : Bool) (w : World) (h : torchonref06_Less.f a0_0 a0_1 a0_2 a0_3 a1_0 a1_1 a1_2 a1_3 = some r) :
  Calls Try.prog 75 #[.agg #[.int .i64 a0_0, .int .i64 a0_1, .int .i64 a0_2, .int .i64 a0_3], .agg #[.int .i64 a1_0, .int .i64 a1_1, .int .i64 a1_2, .int .i64 a1_3]] w fun e w' => e = .returned (.bool r) ∧ Below w.heap.size w w' := by
 have hu25 := Try.underlying25
 have HB := Aside0.mk (Below.refl w.heap.size w)
 have H : (if a0_0 = a1_0 then (if a0_1 = a1_1 then (if a0_2 = a1_2 then (some (decide (a0_3 < a1_3))) else (some (decide (a0_2 < a1_2)))) else (some (decide (a0_1 < a1_1)))) else (some (decide (a0_0 < a1_0)))) = some r := h
 clear h
 by_cases c3 : a0_0 = a1_0
 ·rw [if_pos c3] at H
  have qa : (a0_0 == a1_0) = true := beq_iff_eq.mpr c3
  have qb : (a0_0 != a1_0) = false := bne_eq_false_iff_eq.mpr c3
  clear c3
  by_cases c4 : a0_1 = a1_1
  ·rw [if_pos c4] at H
   have qc : (a0_1 == a1_1) = true := beq_iff_eq.mpr c4
   have qd : (a0_1 != a1_1) = false := bne_eq_false_iff_eq.mpr c4
   clear c4
   by_cases c5 : a0_2 = a1_2
   ·rw [if_pos c5] at H
    have qe : (a0_2 == a1_2) = true := beq_iff_eq.mpr c5
    have qf : (a0_2 != a1_2) = false := bne_eq_false_iff_eq.mpr c5
    clear c5
    obtain rfl := Option.some.inj H
    go_enter Try.func75, Try.ntmps75
    go_wp2_with (first | ((with_reducible refine gate_dst (N := 2) rfl ?_); refine bx 2 #[.int .i64 a0_0, .int .i64 a0_1, .int .i64 a0_2, .int .i64 a0_3] 25 fun q8 hg w6 q0 hb => ?_; have q6 := gw hg HB; have q4 := gw hg HB; replace HB := bst HB hb; clear hb hg) | ((with_reducible refine gate_dst (N := 3) rfl ?_); refine bx 3 #[.int .i64 a1_0, .int .i64 a1_1, .int .i64 a1_2, .int .i64 a1_3] 25 fun q9 hg w7 q1 hb => ?_; have q7 := gw hg HB; have q5 := gw hg HB; have q2 := nlt hg q0; have q3 := ngt hg q0; replace q0 := bb q0 hb; replace HB := bst HB hb; clear hb hg; have jl := q2.out; have jp := q3.out; have ⟨qI, qJ, qK, qL, je, jf, jg, jh⟩ := cf4 q0; have ⟨qg, qh, qi, qj, qM, qN, qO, qP⟩ := cf4 q1))
    go_ret
    exact rt HB
   ·rw [if_neg c5] at H
    have qe : (a0_2 == a1_2) = false := beq_eq_false_iff_ne.mpr c5
    have qf : (a0_2 != a1_2) = true := bne_iff_ne.mpr c5
    obtain rfl := Option.some.inj H
    go_enter Try.func75, Try.ntmps75
    go_wp2_with (first | ((with_reducible refine gate_dst (N := 2) rfl ?_); refine bx 2 #[.int .i64 a0_0, .int .i64 a0_1, .int .i64 a0_2, .int .i64 a0_3] 25 fun q8 hg w11 q0 hb => ?_; have q6 := gw hg HB; have q4 := gw hg HB; replace HB := bst HB hb; clear hb hg) | ((with_reducible refine gate_dst (N := 3) rfl ?_); refine bx 3 #[.int .i64 a1_0, .int .i64 a1_1, .int .i64 a1_2, .int .i64 a1_3] 25 fun q9 hg w12 q1 hb => ?_; have q7 := gw hg HB; have q5 := gw hg HB; have q2 := nlt hg q0; have q3 := ngt hg q0; replace q0 := bb q0 hb; replace HB := bst HB hb; clear hb hg; have ji := q2.out; have jm := q3.out; have ⟨qk, ql, qm, qn, qQ, qR, qS, qT⟩ := cf4 q0; have ⟨qo, qp, qq, qr, qU, qV, qW, qX⟩ := cf4 q1))
    go_ret
    exact rt HB
  ·rw [if_neg c4] at H
   have qc : (a0_1 == a1_1) = false := beq_eq_false_iff_ne.mpr c4
   have qd : (a0_1 != a1_1) = true := bne_iff_ne.mpr c4
   obtain rfl := Option.some.inj H
   go_enter Try.func75, Try.ntmps75
   go_wp2_with (first | ((with_reducible refine gate_dst (N := 2) rfl ?_); refine bx 2 #[.int .i64 a0_0, .int .i64 a0_1, .int .i64 a0_2, .int .i64 a0_3] 25 fun q8 hg w16 q0 hb => ?_; have q6 := gw hg HB; have q4 := gw hg HB; replace HB := bst HB hb; clear hb hg) | ((with_reducible refine gate_dst (N := 3) rfl ?_); refine bx 3 #[.int .i64 a1_0, .int .i64 a1_1, .int .i64 a1_2, .int .i64 a1_3] 25 fun q9 hg w17 q1 hb => ?_; have q7 := gw hg HB; have q5 := gw hg HB; have q2 := nlt hg q0; have q3 := ngt hg q0; replace q0 := bb q0 hb; replace HB := bst HB hb; clear hb hg; have jj := q2.out; have jn := q3.out; have ⟨qs, qt, qu, qv, qY, qZ, j0, j1⟩ := cf4 q0; have ⟨qw, qx, qy, qz, j2, j3, j4, j5⟩ := cf4 q1))
   go_ret
   exact rt HB
 ·rw [if_neg c3] at H
  have qa : (a0_0 == a1_0) = false := beq_eq_false_iff_ne.mpr c3
  have qb : (a0_0 != a1_0) = true := bne_iff_ne.mpr c3
  obtain rfl := Option.some.inj H
  go_enter Try.func75, Try.ntmps75
  go_wp2_with (first | ((with_reducible refine gate_dst (N := 2) rfl ?_); refine bx 2 #[.int .i64 a0_0, .int .i64 a0_1, .int .i64 a0_2, .int .i64 a0_3] 25 fun q8 hg w21 q0 hb => ?_; have q6 := gw hg HB; have q4 := gw hg HB; replace HB := bst HB hb; clear hb hg) | ((with_reducible refine gate_dst (N := 3) rfl ?_); refine bx 3 #[.int .i64 a1_0, .int .i64 a1_1, .int .i64 a1_2, .int .i64 a1_3] 25 fun q9 hg w22 q1 hb => ?_; have q7 := gw hg HB; have q5 := gw hg HB; have q2 := nlt hg q0; have q3 := ngt hg q0; replace q0 := bb q0 hb; replace HB := bst HB hb; clear hb hg; have jk := q2.out; have jo := q3.out; have ⟨qA, qB, qC, qD, j6, j7, j8, j9⟩ := cf4 q0; have ⟨qE, qF, qG, qH, ja, jb, jc, jd⟩ := cf4 q1))
  go_ret
  exact rt HB
end
end Go.Proofs.Ytmcajdepoohlhaa.G
