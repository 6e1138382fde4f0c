/- Functions of the program as plain Lean functions, and their contracts (printed by a program of this session). No condition beyond what each states. -/
import Derived.Test.YtmcajdepoohlhaaCGrpY
import Derived.Test.YtmcajdepoohlhaaCGrpP0
import Derived.Test.YtmcajdepoohlhaaCGrpP5
namespace Go.Proofs.Ytmcajdepoohlhaa.G
open Go.RowKit Go.Proofs.YtmcajdepoohlhaaW.PrintWords Go.Proofs.YtmcajdepoohlhaaW.PrintLast Go.Proofs.YtmcajdepoohlhaaW.PrintMore
attribute [local go_sem] max2_int min2_int max_two min_two max_three min_three max_four min_four
set_option linter.unusedVariables false
set_option linter.unusedSimpArgs false
section
/-! ### torchonref06_Leading: function 45 -/
mutual
def torchonref06_Leading.l0 : Nat → List (S37) → List (S37) → List (S25) → Int → Int → Int → Int → Int → Int → Int → Option ((List (S25)))
 | 0, _, _, _, _, _, _, _, _, _, _ => none
 | k + 1, x5, x6, x7, x8, x316000, x316001, x316002, x317000, x317001, x317002 => if x8 < (x5.length : Int) then (torchonref06_Leading.l1 k x5 x6 x7 x8 0 x316000 x316001 x316002 x317000 x317001 x317002) else (some x7)
def torchonref06_Leading.l1 : Nat → List (S37) → List (S37) → List (S25) → Int → Int → Int → Int → Int → Int → Int → Int → Option ((List (S25)))
 | 0, _, _, _, _, _, _, _, _, _, _, _ => none
 | k + 1, x5, x6, x7, x8, x9, x316000, x316001, x316002, x317000, x317001, x317002 => if x9 < (x6.length : Int) then (if 0 ≤ x8 then (if x8 < (x5.length : Int) then (if 0 ≤ x9 then ((torchonref06_cross.f ((rd_T37 x5 x8).f0) ((rd_T37 x5 x8).f1) ((rd_T37 x6 x9).f0) ((rd_T37 x6 x9).f1)).bind fun qC => ((torchonref06_Product.f x316000 x316001 x316002 ((rd_T37 x5 x8).f0) ((rd_T37 x5 x8).f1) ((rd_T37 x6 x9).f0) ((rd_T37 x6 x9).f1)).bind fun qD => (if qD = x317001 then (if qC = 1 then (torchonref06_Leading.j2 k x5 x6 x7 x8 x9 false x316000 x316001 x316002 x317000 x317001 x317002) else (torchonref06_Leading.j2 k x5 x6 x7 x8 x9 (qC != (-1)) x316000 x316001 x316002 x317000 x317001 x317002)) else (torchonref06_Leading.j2 k x5 x6 x7 x8 x9 true x316000 x316001 x316002 x317000 x317001 x317002)))) else (none)) else (none)) else (none)) else ((some (wrap64 (x8 + 1))).bind fun jl => (torchonref06_Leading.l0 k x5 x6 x7 jl x316000 x316001 x316002 x317000 x317001 x317002))
def torchonref06_Leading.j2 : Nat → List (S37) → List (S37) → List (S25) → Int → Int → Bool → Int → Int → Int → Int → Int → Int → Option ((List (S25)))
 | 0, _, _, _, _, _, _, _, _, _, _, _, _ => none
 | k + 1, x5, x6, x7, x8, x9, x63, x316000, x316001, x316002, x317000, x317001, x317002 => if x63 = true then ((some (wrap64 (x9 + 1))).bind fun qV => (torchonref06_Leading.l1 k x5 x6 x7 x8 qV x316000 x316001 x316002 x317000 x317001 x317002)) else (if 0 ≤ x8 then (if x8 < (x5.length : Int) then (if 0 ≤ x9 then (if x9 < (x6.length : Int) then (torchonref06_Leading.l2 k x5 x6 x7 x8 x9 0 x316000 x316001 x316002 x317000 x317001 x317002 ((rd_T37 x5 x8).f0) ((rd_T37 x6 x9).f0) ((rd_T37 x5 x8).f1) ((rd_T37 x6 x9).f1)) else (none)) else (none)) else (none)) else (none))
def torchonref06_Leading.l2 : Nat → List (S37) → List (S37) → List (S25) → Int → Int → Int → Int → Int → Int → Int → Int → Int → Int → Int → Int → Int → Option ((List (S25)))
 | 0, _, _, _, _, _, _, _, _, _, _, _, _, _, _, _, _ => none
 | k + 1, x5, x6, x7, x8, x9, x12, x316000, x316001, x316002, x317000, x317001, x317002, x336000, x336001, x336002, x336003 => if x12 < (x7.length : Int) then (if 0 ≤ x12 then ((torchonref06_Less.f ((rd_T25 x7 x12).f0) ((rd_T25 x7 x12).f1) ((rd_T25 x7 x12).f2) ((rd_T25 x7 x12).f3) x336000 x336001 x336002 x336003).bind fun jH => (if jH = true then ((some (wrap64 (x12 + 1))).bind fun qW => (torchonref06_Leading.l2 k x5 x6 x7 x8 x9 qW x316000 x316001 x316002 x317000 x317001 x317002 x336000 x336001 x336002 x336003)) else ((some (([] : List (S25)) : List (S25))).bind fun qq => (if x12 ≤ (x7.length : Int) then ((some (x7.take (x12 : Int).toNat : List (S25))).bind fun qe => (if qq.length + qe.length < 4398046511104 then ((some (qq ++ qe : List (S25))).bind fun qj => (if qj.length < 4398046511104 then ((some (qj ++ [(⟨x336000, x336001, x336002, x336003⟩ : S25)] : List (S25))).bind fun qf => ((some (x7.drop (x12 : Int).toNat : List (S25))).bind fun q7 => (if qf.length + q7.length < 4398046511104 then ((some (wrap64 (x9 + 1))).bind fun qi => (torchonref06_Leading.l1 k x5 x6 (qf ++ q7) x8 qi x316000 x316001 x316002 x317000 x317001 x317002)) else (none)))) else (none))) else (none))) else (none))))) else (none)) else ((some (([] : List (S25)) : List (S25))).bind fun qE => (if 0 ≤ x12 then (if x12 ≤ (x7.length : Int) then ((some (x7.take (x12 : Int).toNat : List (S25))).bind fun qg => (if qE.length + qg.length < 4398046511104 then ((some (qE ++ qg : List (S25))).bind fun ql => (if ql.length < 4398046511104 then ((some (ql ++ [(⟨x336000, x336001, x336002, x336003⟩ : S25)] : List (S25))).bind fun qh => ((some (x7.drop (x12 : Int).toNat : List (S25))).bind fun qb => (if qh.length + qb.length < 4398046511104 then ((some (wrap64 (x9 + 1))).bind fun qk => (torchonref06_Leading.l1 k x5 x6 (qh ++ qb) x8 qk x316000 x316001 x316002 x317000 x317001 x317002)) else (none)))) else (none))) else (none))) else (none)) else (none)))
end
def torchonref06_Leading.f (k : Nat) (a0_0 : Int) (a0_1 : Int) (a0_2 : Int) (a1_0 : Int) (a1_1 : Int) (a1_2 : Int) : Option ((List (S25))) := (torchonref06_Steps.f k a0_0 a0_1 a0_2 a1_0).bind fun q1 => ((torchonref06_Steps.f k a0_0 a0_1 a0_2 a1_2).bind fun q2 => (torchonref06_Leading.l0 k q1 q2 ([] : List (S25)) 0 a0_0 a0_1 a0_2 a1_0 a1_1 a1_2))
theorem torchonref06_Leading.mono_l : ∀ k, (∀ y0 y1 y2 y3 y4 y5 y6 y7 y8 y9, LeO (torchonref06_Leading.l0 k y0 y1 y2 y3 y4 y5 y6 y7 y8 y9) (torchonref06_Leading.l0 (k + 1) y0 y1 y2 y3 y4 y5 y6 y7 y8 y9)) ∧ (∀ y0 y1 y2 y3 y4 y5 y6 y7 y8 y9 y10, LeO (torchonref06_Leading.l1 k y0 y1 y2 y3 y4 y5 y6 y7 y8 y9 y10) (torchonref06_Leading.l1 (k + 1) y0 y1 y2 y3 y4 y5 y6 y7 y8 y9 y10)) ∧ (∀ y0 y1 y2 y3 y4 y5 y6 y7 y8 y9 y10 y11, LeO (torchonref06_Leading.j2 k y0 y1 y2 y3 y4 y5 y6 y7 y8 y9 y10 y11) (torchonref06_Leading.j2 (k + 1) y0 y1 y2 y3 y4 y5 y6 y7 y8 y9 y10 y11)) ∧ (∀ y0 y1 y2 y3 y4 y5 y6 y7 y8 y9 y10 y11 y12 y13 y14 y15, LeO (torchonref06_Leading.l2 k y0 y1 y2 y3 y4 y5 y6 y7 y8 y9 y10 y11 y12 y13 y14 y15) (torchonref06_Leading.l2 (k + 1) y0 y1 y2 y3 y4 y5 y6 y7 y8 y9 y10 y11 y12 y13 y14 y15))
 | 0 => ⟨fun _ _ _ _ _ _ _ _ _ _ r h => by simp [torchonref06_Leading.l0] at h, fun _ _ _ _ _ _ _ _ _ _ _ r h => by simp [torchonref06_Leading.l1] at h, fun _ _ _ _ _ _ _ _ _ _ _ _ r h => by simp [torchonref06_Leading.j2] at h, fun _ _ _ _ _ _ _ _ _ _ _ _ _ _ _ _ r h => by simp [torchonref06_Leading.l2] at h⟩
 | k + 1 => by
  obtain ⟨ih0, ih1, ih2, ih3⟩ := torchonref06_Leading.mono_l k
  refine ⟨?_, ?_, ?_, ?_⟩
  ·intro y0 y1 y2 y3 y4 y5 y6 y7 y8 y9
   unfold torchonref06_Leading.l0
   repeat' first
   | (with_reducible exact ih0 _ _ _ _ _ _ _ _ _ _)
   | (with_reducible exact ih1 _ _ _ _ _ _ _ _ _ _ _)
   | (with_reducible exact ih2 _ _ _ _ _ _ _ _ _ _ _ _)
   | (with_reducible exact ih3 _ _ _ _ _ _ _ _ _ _ _ _ _ _ _ _)
   | (with_reducible exact torchonref06_Steps.mono _ _ _ _ _)
   | (with_reducible exact LeO.refl _)
   | (with_reducible exact LeO.none _)
   | (with_reducible refine LeO.ite ?_ ?_)
   | (with_reducible refine LeO.bind ?_ (fun _ => ?_))
   | exact ih0 _ _ _ _ _ _ _ _ _ _
   | exact ih1 _ _ _ _ _ _ _ _ _ _ _
   | exact ih2 _ _ _ _ _ _ _ _ _ _ _ _
   | exact ih3 _ _ _ _ _ _ _ _ _ _ _ _ _ _ _ _
   | exact torchonref06_Steps.mono _ _ _ _ _
   | exact LeO.none _
   | refine LeO.ite ?_ ?_
   | refine LeO.bind ?_ (fun _ => ?_)
  ·intro y0 y1 y2 y3 y4 y5 y6 y7 y8 y9 y10
   unfold torchonref06_Leading.l1
   repeat' first
   | (with_reducible exact ih0 _ _ _ _ _ _ _ _ _ _)
   | (with_reducible exact ih1 _ _ _ _ _ _ _ _ _ _ _)
   | (with_reducible exact ih2 _ _ _ _ _ _ _ _ _ _ _ _)
   | (with_reducible exact ih3 _ _ _ _ _ _ _ _ _ _ _ _ _ _ _ _)
   | (with_reducible exact torchonref06_Steps.mono _ _ _ _ _)
   | (with_reducible exact LeO.refl _)
   | (with_reducible exact LeO.none _)
   | (with_reducible refine LeO.ite ?_ ?_)
   | (with_reducible refine LeO.bind ?_ (fun _ => ?_))
   | exact ih0 _ _ _ _ _ _ _ _ _ _
   | exact ih1 _ _ _ _ _ _ _ _ _ _ _
   | exact ih2 _ _ _ _ _ _ _ _ _ _ _ _
   | exact ih3 _ _ _ _ _ _ _ _ _ _ _ _ _ _ _ _
   | exact torchonref06_Steps.mono _ _ _ _ _
   | exact LeO.none _
   | refine LeO.ite ?_ ?_
   | refine LeO.bind ?_ (fun _ => ?_)
  ·intro y0 y1 y2 y3 y4 y5 y6 y7 y8 y9 y10 y11
   unfold torchonref06_Leading.j2
   repeat' first
   | (with_reducible exact ih0 _ _ _ _ _ _ _ _ _ _)
   | (with_reducible exact ih1 _ _ _ _ _ _ _ _ _ _ _)
   | (with_reducible exact ih2 _ _ _ _ _ _ _ _ _ _ _ _)
   | (with_reducible exact ih3 _ _ _ _ _ _ _ _ _ _ _ _ _ _ _ _)
   | (with_reducible exact torchonref06_Steps.mono _ _ _ _ _)
   | (with_reducible exact LeO.refl _)
   | (with_reducible exact LeO.none _)
   | (with_reducible refine LeO.ite ?_ ?_)
   | (with_reducible refine LeO.bind ?_ (fun _ => ?_))
   | exact ih0 _ _ _ _ _ _ _ _ _ _
   | exact ih1 _ _ _ _ _ _ _ _ _ _ _
   | exact ih2 _ _ _ _ _ _ _ _ _ _ _ _
   | exact ih3 _ _ _ _ _ _ _ _ _ _ _ _ _ _ _ _
   | exact torchonref06_Steps.mono _ _ _ _ _
   | exact LeO.none _
   | refine LeO.ite ?_ ?_
   | refine LeO.bind ?_ (fun _ => ?_)
  ·intro y0 y1 y2 y3 y4 y5 y6 y7 y8 y9 y10 y11 y12 y13 y14 y15
   unfold torchonref06_Leading.l2
   repeat' first
   | (with_reducible exact ih0 _ _ _ _ _ _ _ _ _ _)
   | (with_reducible exact ih1 _ _ _ _ _ _ _ _ _ _ _)
   | (with_reducible exact ih2 _ _ _ _ _ _ _ _ _ _ _ _)
   | (with_reducible exact ih3 _ _ _ _ _ _ _ _ _ _ _ _ _ _ _ _)
   | (with_reducible exact torchonref06_Steps.mono _ _ _ _ _)
   | (with_reducible exact LeO.refl _)
   | (with_reducible exact LeO.none _)
   | (with_reducible refine LeO.ite ?_ ?_)
   | (with_reducible refine LeO.bind ?_ (fun _ => ?_))
   | exact ih0 _ _ _ _ _ _ _ _ _ _
   | exact ih1 _ _ _ _ _ _ _ _ _ _ _
   | exact ih2 _ _ _ _ _ _ _ _ _ _ _ _
   | exact ih3 _ _ _ _ _ _ _ _ _ _ _ _ _ _ _ _
   | exact torchonref06_Steps.mono _ _ _ _ _
   | exact LeO.none _
   | refine LeO.ite ?_ ?_
   | refine LeO.bind ?_ (fun _ => ?_)
theorem torchonref06_Leading.mono : ∀ a0 a1 a2 a3 a4 a5 k, LeO (torchonref06_Leading.f k a0 a1 a2 a3 a4 a5) (torchonref06_Leading.f (k + 1) a0 a1 a2 a3 a4 a5) := by
 intro a0 a1 a2 a3 a4 a5 k
 obtain ⟨ih0, ih1, ih2, ih3⟩ := torchonref06_Leading.mono_l k
 unfold torchonref06_Leading.f
 repeat' first
   | (with_reducible exact ih0 _ _ _ _ _ _ _ _ _ _)
   | (with_reducible exact ih1 _ _ _ _ _ _ _ _ _ _ _)
   | (with_reducible exact ih2 _ _ _ _ _ _ _ _ _ _ _ _)
   | (with_reducible exact ih3 _ _ _ _ _ _ _ _ _ _ _ _ _ _ _ _)
   | (with_reducible exact torchonref06_Steps.mono _ _ _ _ _)
   | (with_reducible exact LeO.refl _)
   | (with_reducible exact LeO.none _)
   | (with_reducible refine LeO.ite ?_ ?_)
   | (with_reducible refine LeO.bind ?_ (fun _ => ?_))
   | exact ih0 _ _ _ _ _ _ _ _ _ _
   | exact ih1 _ _ _ _ _ _ _ _ _ _ _
   | exact ih2 _ _ _ _ _ _ _ _ _ _ _ _
   | exact ih3 _ _ _ _ _ _ _ _ _ _ _ _ _ _ _ _
   | exact torchonref06_Steps.mono _ _ _ _ _
   | exact LeO.none _
   | refine LeO.ite ?_ ?_
   | refine LeO.bind ?_ (fun _ => ?_)
def torchonref06_Leading.T1 : Bool × List (List Nat × List Nat) := (true, [([], []), ([], []), ([1], [1]), ([0, 2], [0, 2]), ([], []), ([], []), ([5], [5]), ([4, 6, 3], [4, 6]), ([3, 7, 0, 1, 2, 3], [3]), ([7, 8, 0, 1, 2, 3, 4, 5, 6, 7, 8], [7])])
def torchonref06_Leading.B1 : List Nat := [0, 0, 2, 7, 0, 0, 32, 127, 255, 511]
theorem torchonref06_Leading.tab1 : rtab .any (opsOf Try.f45 1) = torchonref06_Leading.T1 := by kernel_rfl
theorem torchonref06_Leading.bits1 : waitsOk torchonref06_Leading.T1.2 torchonref06_Leading.B1 = true := by kernel_rfl
def torchonref06_Leading.T9 : Bool × List (List Nat × List Nat) := (true, [([], []), ([], []), ([0, 1], [0, 1]), ([2], [2]), ([], []), ([], []), ([4, 5], [4, 5]), ([6], [6]), ([3, 7], [3, 7]), ([8, 8, 0, 1, 2, 3, 4, 5, 6, 7, 8], [8])])
def torchonref06_Leading.B9 : List Nat := [0, 0, 3, 7, 0, 0, 48, 112, 255, 511]
theorem torchonref06_Leading.tab9 : rtab .any (opsOf Try.f45 9) = torchonref06_Leading.T9 := by kernel_rfl
theorem torchonref06_Leading.bits9 : waitsOk torchonref06_Leading.T9.2 torchonref06_Leading.B9 = true := by kernel_rfl
def torchonref06_Leading.T10 : Bool × List (List Nat × List Nat) := (true, [([], []), ([], []), ([], []), ([1, 2], [1, 2]), ([3], [3]), ([], []), ([], []), ([5, 6], [5, 6]), ([7], [7]), ([0, 4, 8], [0, 4, 8]), ([], []), ([10], [10]), ([9, 11], [9, 11]), ([12, 9], [12]), ([13], [13]), ([14, 13], [13, 14]), ([15, 13, 13], [13, 15]), ([16], [16]), ([17, 16], [16, 17]), ([16, 18, 13], [13, 16, 18]), ([13, 19], [13, 19])])
def torchonref06_Leading.B10 : List Nat := [0, 0, 0, 6, 14, 0, 0, 96, 224, 511, 0, 1024, 4095, 8191, 16383, 32767, 65535, 131071, 262143, 524287, 1048575]
theorem torchonref06_Leading.tab10 : rtab .any (opsOf Try.f45 10) = torchonref06_Leading.T10 := by kernel_rfl
theorem torchonref06_Leading.bits10 : waitsOk torchonref06_Leading.T10.2 torchonref06_Leading.B10 = true := by kernel_rfl
def torchonref06_Leading.T11 : Bool × List (List Nat × List Nat) := (true, [([], []), ([], []), ([0, 1], [0, 1]), ([2], [2]), ([3], [3]), ([], []), ([], []), ([5, 6], [5, 6]), ([7], [7]), ([8], [8]), ([], []), ([], []), ([10, 11], [10, 11]), ([12], [12]), ([13], [13]), ([], []), ([], []), ([15, 16], [15, 16]), ([17], [17]), ([18], [18]), ([4, 9, 14, 19], [4, 9, 14, 19]), ([], []), ([21, 20, 0, 1, 2, 3, 4, 5, 6, 7, 8, 9, 10, 11, 12, 13, 14, 15, 16, 17, 18, 19, 20, 21], [20, 21])])
def torchonref06_Leading.B11 : List Nat := [0, 0, 3, 7, 15, 0, 0, 96, 224, 480, 0, 0, 3072, 7168, 15360, 0, 0, 98304, 229376, 491520, 1048575, 0, 4194303]
theorem torchonref06_Leading.tab11 : rtab .any (opsOf Try.f45 11) = torchonref06_Leading.T11 := by kernel_rfl
theorem torchonref06_Leading.bits11 : waitsOk torchonref06_Leading.T11.2 torchonref06_Leading.B11 = true := by kernel_rfl
def torchonref06_Leading.T13 : Bool × List (List Nat × List Nat) := (true, [([], []), ([], []), ([1], [1]), ([0, 2], [0, 2]), ([3], [3]), ([4], [4]), ([4], [4]), ([5, 6, 4], [4, 5, 6]), ([7, 4], [4, 7]), ([4], [4]), ([8, 9, 4, 4], [4, 8, 9]), ([4, 10], [4, 10])])
def torchonref06_Leading.B13 : List Nat := [0, 0, 2, 7, 15, 31, 31, 127, 255, 31, 1023, 2047]
theorem torchonref06_Leading.tab13 : rtab .any (opsOf Try.f45 13) = torchonref06_Leading.T13 := by kernel_rfl
theorem torchonref06_Leading.bits13 : waitsOk torchonref06_Leading.T13.2 torchonref06_Leading.B13 = true := by kernel_rfl
set_option maxHeartbeats 8000000 in
set_option maxRecDepth 100000 in
theorem torchonref06_Leading.calls (k : Nat) (a0_0 : Int) (a0_1 : Int) (a0_2 : Int) (a1_0 : Int) (a1_1 : Int) (a1_2 : Int) (r : List (S25)) (w : World) (h : torchonref06_Leading.f k a0_0 a0_1 a0_2 a1_0 a1_1 a1_2 = some r) :
  Calls Try.prog 45 #[.agg #[.int .i64 a0_0, .int .i64 a0_1, .int .i64 a0_2], .agg #[.int .i64 a1_0, .int .i64 a1_1, .int .i64 a1_2]] w fun e w' => ∃ v0_ : Value, e = .returned (v0_) ∧ Kd.R k25 25 w' w.heap.size (fun _ => True) v0_ r ∧ Below w.heap.size w w' := by
 have hu23 := Try.underlying23
 have hu37 := Try.underlying37
 have hu25 := Try.underlying25
 have HB := Aside0.mk (Below.refl w.heap.size w)
 have H : ((torchonref06_Steps.f k a0_0 a0_1 a0_2 a1_0).bind fun q1 => ((torchonref06_Steps.f k a0_0 a0_1 a0_2 a1_2).bind fun q2 => (torchonref06_Leading.l0 k q1 q2 ([] : List (S25)) 0 a0_0 a0_1 a0_2 a1_0 a1_1 a1_2))) = some r := h
 clear h
 obtain ⟨q1, A3, H⟩ := ob H
 obtain ⟨q2, A4, H⟩ := ob H
 have H' := Aside0.mk H
 clear H
 go_enter Try.func45, Try.ntmps45
 try go_wp2_with (first | ((with_reducible refine gate_dst (N := 2) rfl ?_); refine bx 2 #[.int .i64 a0_0, .int .i64 a0_1, .int .i64 a0_2] 23 fun qc hg w5 q4 hb => ?_; have gv := gw hg HB; have jW := gw hg HB; replace HB := bst HB hb; clear hb hg) | ((with_reducible refine gate_dst (N := 3) rfl ?_); refine bx 3 #[.int .i64 a1_0, .int .i64 a1_1, .int .i64 a1_2] 23 fun qd hg w6 q5 hb => ?_; have gx := gw hg HB; have jX := gw hg HB; have gD := nlt hg q4; have gE := ngt hg q4; replace q4 := bb q4 hb; replace HB := bst HB hb; clear hb hg))
 replace q4 := bd q4
 replace q5 := bd q5
 replace HB := bdn HB
 refine start_ (n := 10) (S := fun w' => w'.cell? ⟨qc, 0, none⟩ = some (.int .i64 a0_0) ∧ w'.cell? ⟨qc, 1, none⟩ = some (.int .i64 a0_1) ∧ w'.cell? ⟨qc, 2, none⟩ = some (.int .i64 a0_2) ∧ w'.cell? ⟨qd, 0, none⟩ = some (.int .i64 a1_0) ∧ w'.cell? ⟨qd, 1, none⟩ = some (.int .i64 a1_1) ∧ w'.cell? ⟨qd, 2, none⟩ = some (.int .i64 a1_2)) (ds := []) #[false, false, false, false, false, false, false, false, false, false] (by kernel_rfl) rfl rfl ⟨(blk_cell q4.out 0).trans rfl, (blk_cell q4.out 1).trans rfl, (blk_cell q4.out 2).trans rfl, (blk_cell q5.out 0).trans rfl, (blk_cell q5.out 1).trans rfl, (blk_cell q5.out 2).trans rfl⟩ (fun hHeld => ?_); refine with_tabW torchonref06_Leading.tab1 torchonref06_Leading.bits1 (fun HT_ HW_ => ?_)
 generalize w6.drew = w7 at q4 q5 HB hHeld ⊢
 refine pz 1 15 HT_ ?_
 refine pz 5 19 HT_ ?_
 refine tz 0 14 HT_ HW_ hHeld ?_
 refine tz 2 16 HT_ HW_ hHeld ?_
 refine tz 4 18 HT_ HW_ hHeld ?_
 refine tz 6 20 HT_ HW_ hHeld ?_
 refine one_ (i := 3) (N := some 17) #[true, true, true, true, true, true, true, false, false, false] rfl rfl (one_of HT_.out (by kernel_rfl)) (by decide) (fun K hK => ?_)
 refine gs _ Try.func73 (torchonref06_Steps.calls k a0_0 a0_1 a0_2 a1_0 q1 _ A3.out) ?_
 rintro e w8 ⟨v318, rfl, ho0, hb⟩
 refine ⟨_, rfl, ?_⟩
 have qX := Aside0.mk (Kd.R_lower ho0 (below_size (bnow HB)))
 replace q4 := bb q4 hb
 replace q5 := bb q5 hb
 replace HB := bst HB hb
 (try clear hb)
 (try clear hb2)
 (try clear hk)
 (try clear hi)
 (try clear ho0)
 refine hK.out _ _ ⟨(blk_cell q4.out 0).trans rfl, (blk_cell q4.out 1).trans rfl, (blk_cell q4.out 2).trans rfl, (blk_cell q5.out 0).trans rfl, (blk_cell q5.out 1).trans rfl, (blk_cell q5.out 2).trans rfl⟩ (fun hHeld => ?_)
 clear hK K
 refine norm_ (a' := ?_) ?_ ?_
 rotate_left
 ·show Act.put _ (some 17) _ = _
  simp only [Act.put, List.setIfInBounds_toArray, List.set_cons_zero, List.set_cons_succ, i64_w, i32_w]
  rfl
 refine one_ (i := 7) (N := some 21) #[true, true, true, true, true, true, true, true, false, false] rfl rfl (one_of HT_.out (by kernel_rfl)) (by decide) (fun K hK => ?_)
 refine gs _ Try.func73 (torchonref06_Steps.calls k a0_0 a0_1 a0_2 a1_2 q2 _ A4.out) ?_
 rintro e w9 ⟨v321, rfl, ho0, hb⟩
 refine ⟨_, rfl, ?_⟩
 have n0_ := Aside0.mk (Kd.R_elder' (by (with_reducible repeat (first | apply Kd.R_alloc | apply Kd.R_drewN | apply Kd.R_drew)); exact qX.out) (Kd.R_base ho0) hb)
 have n1_ := Aside0.mk (Kd.R_lower (Kd.R_new' ho0 (Kd.R_lt (by (with_reducible repeat (first | apply Kd.R_alloc | apply Kd.R_drewN | apply Kd.R_drew)); exact qX.out))) (below_size (bnow HB)))
 have n2_ := bb q4 hb
 have n3_ := bb q5 hb
 have n4_ := bst HB hb
 clear qX
 clear q4
 clear q5
 clear HB
 have qX := n0_
 have jY := n1_
 have q4 := n2_
 have q5 := n3_
 have HB := n4_
 clear n0_ n1_ n2_ n3_ n4_
 (try clear hb)
 (try clear hb2)
 (try clear hk)
 (try clear hi)
 (try clear ho0)
 refine hK.out _ _ ⟨(blk_cell q4.out 0).trans rfl, (blk_cell q4.out 1).trans rfl, (blk_cell q4.out 2).trans rfl, (blk_cell q5.out 0).trans rfl, (blk_cell q5.out 1).trans rfl, (blk_cell q5.out 2).trans rfl⟩ (fun hHeld => ?_)
 clear hK K
 refine norm_ (a' := ?_) ?_ ?_
 rotate_left
 ·show Act.put _ (some 21) _ = _
  simp only [Act.put, List.setIfInBounds_toArray, List.set_cons_zero, List.set_cons_succ, i64_w, i32_w]
  rfl
 refine pz 8 5 HT_ ?_
 refine pz 9 6 HT_ ?_
 refine done_ (done_of HT_.out (by kernel_rfl)) ?_
 try go_wp2
 go_loopg [7, 8] k (fun kq v7 v8 w' => ∃ (x7_1 : List (S25)) (x8_1 : Int), v8 = .int .i64 x8_1 ∧ Aside0 (torchonref06_Leading.l0 kq q1 q2 x7_1 x8_1 a0_0 a0_1 a0_2 a1_0 a1_1 a1_2 = some r) ∧ Aside0 (kq ≤ k) ∧ Aside0 (Kd.R k37 37 w' w.heap.size (fun k_ => some k_ ≠ (v321 : Value).ownBlock) v318 q1) ∧ Aside0 (Kd.R k37 37 w' w.heap.size (fun k_ => some k_ ≠ (v318 : Value).ownBlock) v321 q2) ∧ Aside0 (Kd.R k25 25 w' w.heap.size (fun _ => True) v7 x7_1) ∧ Aside0 (w'.heap[qc]? = some (.cells #[.int .i64 a0_0, .int .i64 a0_1, .int .i64 a0_2] 23 (0, 0))) ∧ Aside0 (w'.heap[qd]? = some (.cells #[.int .i64 a1_0, .int .i64 a1_1, .int .i64 a1_2] 23 (0, 0))) ∧ Aside0 (Below w.heap.size w w'))
 case atStart => exact ⟨(([] : List (S25))), (0), (by first | rfl | (simp; done) | (simp [*]; done)), H', ⟨Nat.le_refl _⟩, ⟨by (with_reducible repeat (first | apply Kd.R_alloc | apply Kd.R_drewN | apply Kd.R_drew)); exact Kd.R_mono qX.out (fun _ hk => hk.2)⟩, ⟨by (with_reducible repeat (first | apply Kd.R_alloc | apply Kd.R_drewN | apply Kd.R_drew)); exact Kd.R_mono jY.out (fun _ hk => hk.2)⟩, ⟨by first | exact Kd.R_nil _ _ _ _ _ | exact Kd.N_nil _ _ _ _ _ | exact Kd.V_nil _ _ _ _ _ | exact Kd.Q_nil _ _ _ _ _ | exact Kd.S_nil _ _ _ _ _⟩, ⟨pk q4⟩, ⟨pk q5⟩, ⟨bnow HB⟩⟩
 case round =>
  clear H'
  try clear p2; try clear c4; try clear c7
  obtain ⟨x7_1, x8_1, rfl, HA, HK1, HO_5, HO_6, HO_7, q4, q5, HB⟩ := hrel
  cases gk with
  | zero => exact absurd HA.out (by simp [torchonref06_Leading.l0])
  | succ k1 =>
   have H := HA.out
   clear HA
   simp only [torchonref06_Leading.l0] at H
   by_cases c10 : x8_1 < (q1.length : Int)
   ·rw [if_pos c10] at H
    have jJ : decide (x8_1 < (q1.length : Int)) = true := decide_eq_true c10
    clear c10
    have H' := Aside0.mk H
    clear H
    obtain ⟨jI, qS, gh⟩ := Kd.R_slice HO_5.out
    subst gh
    go_wp2
    go_loopg [7, 9] k1 (fun kq v7 v9 w' => ∃ (x7_2 : List (S25)) (x9_2 : Int), v9 = .int .i64 x9_2 ∧ Aside0 (torchonref06_Leading.l1 kq q1 q2 x7_2 x8_1 x9_2 a0_0 a0_1 a0_2 a1_0 a1_1 a1_2 = some r) ∧ Aside0 (kq ≤ k1) ∧ Aside0 (Kd.R k37 37 w' w.heap.size (fun k_ => some k_ ≠ (v321 : Value).ownBlock) (.slice jI q1.length qS) q1) ∧ Aside0 (Kd.R k37 37 w' w.heap.size (fun k_ => some k_ ≠ ((.slice jI q1.length qS) : Value).ownBlock) v321 q2) ∧ Aside0 (Kd.R k25 25 w' w.heap.size (fun _ => True) v7 x7_2) ∧ Aside0 (w'.heap[qc]? = some (.cells #[.int .i64 a0_0, .int .i64 a0_1, .int .i64 a0_2] 23 (0, 0))) ∧ Aside0 (w'.heap[qd]? = some (.cells #[.int .i64 a1_0, .int .i64 a1_1, .int .i64 a1_2] 23 (0, 0))) ∧ Aside0 (Below w.heap.size w w'))
    case atStart => exact ⟨(x7_1), (0), (by first | rfl | (simp; done) | (simp [*]; done)), H', ⟨Nat.le_refl _⟩, ⟨by (with_reducible repeat (first | apply Kd.R_alloc | apply Kd.R_drewN | apply Kd.R_drew)); exact HO_5.out⟩, ⟨by (with_reducible repeat (first | apply Kd.R_alloc | apply Kd.R_drewN | apply Kd.R_drew)); exact HO_6.out⟩, ⟨by (with_reducible repeat (first | apply Kd.R_alloc | apply Kd.R_drewN | apply Kd.R_drew)); exact HO_7.out⟩, ⟨pk q4⟩, ⟨pk q5⟩, ⟨bnow HB⟩⟩
    case round =>
     clear H'
     try clear c1; try clear p2; try clear c4; try clear c7; try clear c10; try clear jJ; try clear p2
     obtain ⟨x7_2, x9_2, rfl, HA, HK2, HO_5, HO_6, HO_7, q4, q5, HB⟩ := hrel
     cases gk with
     | zero => exact absurd HA.out (by simp [torchonref06_Leading.l1])
     | succ k2 =>
      have H := HA.out
      clear HA
      simp only [torchonref06_Leading.l1] at H
      by_cases c12 : x9_2 < (q2.length : Int)
      ·rw [if_pos c12] at H
       have g5 : decide (x9_2 < (q2.length : Int)) = true := decide_eq_true c12
       clear c12
       by_cases c13 : 0 ≤ x8_1
       ·rw [if_pos c13] at H
        have gF : decide (0 ≤ x8_1) = true := decide_eq_true c13
        clear c13
        by_cases c14 : x8_1 < (q1.length : Int)
        ·rw [if_pos c14] at H
         have gG : decide (x8_1 < (q1.length : Int)) = true := decide_eq_true c14
         clear c14
         by_cases c15 : 0 ≤ x9_2
         ·rw [if_pos c15] at H
          have gH : decide (0 ≤ x9_2) = true := decide_eq_true c15
          clear c15
          obtain ⟨qC, A16, H⟩ := ob H
          have jm := Aside0.mk H
          clear H
          obtain ⟨go, jc, gi⟩ := Kd.R_slice HO_6.out
          subst gi
          try go_wp2
          replace HO_5 := Aside0.mk (Kd.R_drew HO_5.out)
          replace HO_6 := Aside0.mk (Kd.R_drew HO_6.out)
          replace HO_7 := Aside0.mk (Kd.R_drew HO_7.out)
          replace q4 := bd q4
          replace q5 := bd q5
          replace HB := bdn HB
          have jD : 0 ≤ (x8_1 : Int) := of_decide_eq_true (by first | (with_reducible assumption) | assumption)
          have jF : x8_1 < (q1.length : Int) := of_decide_eq_true (by first | (with_reducible assumption) | assumption)
          obtain ⟨q8, gb, jN, jO⟩ := at_T37 (Kd.R_reads' HO_5.out).2.2 x8_1 jD jF
          cases gb
          replace jD := eq_true jD
          replace jF := eq_true jF
          have jE : 0 ≤ (x9_2 : Int) := of_decide_eq_true (by first | (with_reducible assumption) | assumption)
          have jG : x9_2 < (q2.length : Int) := of_decide_eq_true (by first | (with_reducible assumption) | assumption)
          obtain ⟨q9, gc, jP, jQ⟩ := at_T37 (Kd.R_reads' HO_6.out).2.2 x9_2 jE jG
          cases gc
          replace jE := eq_true jE
          replace jG := eq_true jG
          refine start_ (n := 10) (S := fun w' => w'.cell? (q8.add ((x8_1).toNat * 2)) = some (.int .i64 ((rd_T37 q1 x8_1).f0)) ∧ w'.cell? ⟨(q8.add ((x8_1).toNat * 2)).block, (q8.add ((x8_1).toNat * 2)).off + 1, none⟩ = some (.int .i64 ((rd_T37 q1 x8_1).f1)) ∧ w'.cell? (q9.add ((x9_2).toNat * 2)) = some (.int .i64 ((rd_T37 q2 x9_2).f0)) ∧ w'.cell? ⟨(q9.add ((x9_2).toNat * 2)).block, (q9.add ((x9_2).toNat * 2)).off + 1, none⟩ = some (.int .i64 ((rd_T37 q2 x9_2).f1))) (ds := []) #[false, false, false, false, false, false, false, false, false, false] (by kernel_rfl) rfl rfl ⟨jN, jO, jP, jQ⟩ (fun hHeld => ?_); refine with_tabW torchonref06_Leading.tab9 torchonref06_Leading.bits9 (fun HT_ HW_ => ?_)
          generalize wr.drew = w19 at HO_5 HO_6 HO_7 q4 q5 HB jN jO jP jQ hHeld ⊢
          refine pz 0 34 HT_ ?_
          refine pz 1 35 HT_ ?_
          refine pz 2 36 HT_ ?_
          refine pz 4 38 HT_ ?_
          refine pz 5 39 HT_ ?_
          refine pz 6 40 HT_ ?_
          refine tz 3 37 HT_ HW_ hHeld ?_
          refine tz 7 41 HT_ HW_ hHeld ?_
          refine one_ (i := 8) (N := some 42) #[true, true, true, true, true, true, true, true, true, false] rfl rfl (one_of HT_.out (by kernel_rfl)) (by decide) (fun K hK => ?_)
          refine gs _ Try.func74 (torchonref06_cross.calls ((rd_T37 q1 x8_1).f0) ((rd_T37 q1 x8_1).f1) ((rd_T37 q2 x9_2).f0) ((rd_T37 q2 x9_2).f1) qC _ A16.out) ?_
          rintro e w20 ⟨rfl, hb⟩
          have jn := (hb.cell (World.block_lt_of_cell? _ _ (hHeld.1))).trans (hHeld.1)
          have jo := (hb.cell (World.block_lt_of_cell? _ _ (hHeld.2.1))).trans (hHeld.2.1)
          have jp := (hb.cell (World.block_lt_of_cell? _ _ (hHeld.2.2.1))).trans (hHeld.2.2.1)
          have jq := (hb.cell (World.block_lt_of_cell? _ _ (hHeld.2.2.2))).trans (hHeld.2.2.2)
          refine ⟨_, rfl, ?_⟩
          have n0_ := Aside0.mk (Kd.R_below (by (with_reducible repeat (first | apply Kd.R_alloc | apply Kd.R_drewN | apply Kd.R_drew)); exact HO_5.out) hb)
          have n1_ := Aside0.mk (Kd.R_below (by (with_reducible repeat (first | apply Kd.R_alloc | apply Kd.R_drewN | apply Kd.R_drew)); exact HO_6.out) hb)
          have n2_ := Aside0.mk (Kd.R_below (by (with_reducible repeat (first | apply Kd.R_alloc | apply Kd.R_drewN | apply Kd.R_drew)); exact HO_7.out) hb)
          have n3_ := bb q4 hb
          have n4_ := bb q5 hb
          have n5_ := bst HB hb
          clear HO_5
          clear HO_6
          clear HO_7
          clear q4
          clear q5
          clear HB
          have HO_5 := n0_
          have HO_6 := n1_
          have HO_7 := n2_
          have q4 := n3_
          have q5 := n4_
          have HB := n5_
          clear n0_ n1_ n2_ n3_ n4_ n5_
          (try clear hb)
          (try clear hb2)
          (try clear hk)
          (try clear hi)
          refine hK.out _ _ ⟨jn, jo, jp, jq⟩ (fun hHeld => ?_)
          clear hK K
          refine norm_ (a' := ?_) ?_ ?_
          rotate_left
          ·show Act.put _ (some 42) _ = _
           simp only [Act.put, List.setIfInBounds_toArray, List.set_cons_zero, List.set_cons_succ, i64_w, i32_w]
           rfl
          refine pz 9 10 HT_ ?_
          refine done_ (done_of HT_.out (by kernel_rfl)) ?_
          go_upto_region 10 with (fail)
          go_cut [63] (fun v63 wc => ∃ (kq : Nat) (x63_16 : Bool), v63 = .bool x63_16 ∧ Aside0 (torchonref06_Leading.j2 kq q1 q2 x7_2 x8_1 x9_2 x63_16 a0_0 a0_1 a0_2 a1_0 a1_1 a1_2 = some r) ∧ Aside0 (kq ≤ k2) ∧ Aside0 (Kd.R k37 37 wc w.heap.size (fun k_ => some k_ ≠ ((.slice (some q9) q2.length jc) : Value).ownBlock) (.slice (some q8) q1.length qS) q1) ∧ Aside0 (Kd.R k37 37 wc w.heap.size (fun k_ => some k_ ≠ ((.slice (some q8) q1.length qS) : Value).ownBlock) (.slice (some q9) q2.length jc) q2) ∧ Aside0 (Kd.R k25 25 wc w.heap.size (fun _ => True) u7 x7_2) ∧ Aside0 (wc.heap[qc]? = some (.cells #[.int .i64 a0_0, .int .i64 a0_1, .int .i64 a0_2] 23 (0, 0))) ∧ Aside0 (wc.heap[qd]? = some (.cells #[.int .i64 a1_0, .int .i64 a1_1, .int .i64 a1_2] 23 (0, 0))) ∧ Aside0 (Below w.heap.size w wc))
          case first =>
           have H := jm.out
           clear jm
           obtain ⟨qD, A21, H⟩ := ob H
           by_cases c22 : qD = a1_1
           ·rw [if_pos c22] at H
            have qN : (qD == a1_1) = true := beq_iff_eq.mpr c22
            have jr : (qD != a1_1) = false := bne_eq_false_iff_eq.mpr c22
            clear c22
            (first | rw [qN] | (simp only [i64_w, i32_w]; rw [qN]) | skip)
            by_cases c23 : qC = 1
            ·rw [if_pos c23] at H
             have js : (qC == 1) = true := beq_iff_eq.mpr c23
             have jt : (qC != 1) = false := bne_eq_false_iff_eq.mpr c23
             clear c23
             have H' := Aside0.mk H
             clear H
             try go_wp2
             replace HO_5 := Aside0.mk (Kd.R_drew HO_5.out)
             replace HO_6 := Aside0.mk (Kd.R_drew HO_6.out)
             replace HO_7 := Aside0.mk (Kd.R_drew HO_7.out)
             replace q4 := bd q4
             replace q5 := bd q5
             replace HB := bdn HB
             have qm : 0 ≤ (x8_1 : Int) := of_decide_eq_true (by first | (with_reducible assumption) | assumption)
             have qo : x8_1 < (q1.length : Int) := of_decide_eq_true (by first | (with_reducible assumption) | assumption)
             obtain ⟨j2, j4, qy, qz⟩ := at_T37 (Kd.R_reads' HO_5.out).2.2 x8_1 qm qo
             obtain rfl : q8 = j2 := (by injection j4)
             replace qm := eq_true qm
             replace qo := eq_true qo
             have qn : 0 ≤ (x9_2 : Int) := of_decide_eq_true (by first | (with_reducible assumption) | assumption)
             have qp : x9_2 < (q2.length : Int) := of_decide_eq_true (by first | (with_reducible assumption) | assumption)
             obtain ⟨j3, j5, qA, qB⟩ := at_T37 (Kd.R_reads' HO_6.out).2.2 x9_2 qn qp
             obtain rfl : q9 = j3 := (by injection j5)
             replace qn := eq_true qn
             replace qp := eq_true qp
             refine start_ (n := 21) (S := fun w' => w'.cell? ⟨qc, 0, none⟩ = some (.int .i64 a0_0) ∧ w'.cell? ⟨qc, 1, none⟩ = some (.int .i64 a0_1) ∧ w'.cell? ⟨qc, 2, none⟩ = some (.int .i64 a0_2) ∧ w'.cell? ⟨qd, 0, none⟩ = some (.int .i64 a1_0) ∧ w'.cell? ⟨qd, 1, none⟩ = some (.int .i64 a1_1) ∧ w'.cell? ⟨qd, 2, none⟩ = some (.int .i64 a1_2) ∧ w'.cell? (q8.add ((x8_1).toNat * 2)) = some (.int .i64 ((rd_T37 q1 x8_1).f0)) ∧ w'.cell? ⟨(q8.add ((x8_1).toNat * 2)).block, (q8.add ((x8_1).toNat * 2)).off + 1, none⟩ = some (.int .i64 ((rd_T37 q1 x8_1).f1)) ∧ w'.cell? (q9.add ((x9_2).toNat * 2)) = some (.int .i64 ((rd_T37 q2 x9_2).f0)) ∧ w'.cell? ⟨(q9.add ((x9_2).toNat * 2)).block, (q9.add ((x9_2).toNat * 2)).off + 1, none⟩ = some (.int .i64 ((rd_T37 q2 x9_2).f1))) (ds := []) #[false, false, false, false, false, false, false, false, false, false, false, false, false, false, false, false, false, false, false, false, false] (by kernel_rfl) rfl rfl ⟨(blk_cell q4.out 0).trans rfl, (blk_cell q4.out 1).trans rfl, (blk_cell q4.out 2).trans rfl, (blk_cell q5.out 0).trans rfl, (blk_cell q5.out 1).trans rfl, (blk_cell q5.out 2).trans rfl, qy, qz, qA, qB⟩ (fun hHeld => ?_); refine with_tabW torchonref06_Leading.tab10 torchonref06_Leading.bits10 (fun HT_ HW_ => ?_)
             generalize w20.drew = w24 at HO_5 HO_6 HO_7 q4 q5 HB qy qz qA qB hHeld ⊢
             refine pz 1 44 HT_ ?_
             refine pz 2 45 HT_ ?_
             refine pz 3 46 HT_ ?_
             refine pz 5 48 HT_ ?_
             refine pz 6 49 HT_ ?_
             refine pz 7 50 HT_ ?_
             refine pz 10 53 HT_ ?_
             refine tz 0 43 HT_ HW_ hHeld ?_
             refine tz 4 47 HT_ HW_ hHeld ?_
             refine tz 8 51 HT_ HW_ hHeld ?_
             refine tz 11 54 HT_ HW_ hHeld ?_
             refine one_ (i := 9) (N := some 52) #[true, true, true, true, true, true, true, true, true, true, true, true, false, false, false, false, false, false, false, false, false] rfl rfl (one_of HT_.out (by kernel_rfl)) (by decide) (fun K hK => ?_)
             refine gs _ Try.func48 (torchonref06_Product.calls a0_0 a0_1 a0_2 ((rd_T37 q1 x8_1).f0) ((rd_T37 q1 x8_1).f1) ((rd_T37 q2 x9_2).f0) ((rd_T37 q2 x9_2).f1) qD _ A21.out) ?_
             rintro e w25 ⟨rfl, hb⟩
             have qu := (hb.cell (World.block_lt_of_cell? _ _ (hHeld.2.2.2.2.2.2.1))).trans (hHeld.2.2.2.2.2.2.1)
             have qv := (hb.cell (World.block_lt_of_cell? _ _ (hHeld.2.2.2.2.2.2.2.1))).trans (hHeld.2.2.2.2.2.2.2.1)
             have j0 := (hb.cell (World.block_lt_of_cell? _ _ (hHeld.2.2.2.2.2.2.2.2.1))).trans (hHeld.2.2.2.2.2.2.2.2.1)
             have j1 := (hb.cell (World.block_lt_of_cell? _ _ (hHeld.2.2.2.2.2.2.2.2.2))).trans (hHeld.2.2.2.2.2.2.2.2.2)
             refine ⟨_, rfl, ?_⟩
             have n0_ := Aside0.mk (Kd.R_below (by (with_reducible repeat (first | apply Kd.R_alloc | apply Kd.R_drewN | apply Kd.R_drew)); exact HO_5.out) hb)
             have n1_ := Aside0.mk (Kd.R_below (by (with_reducible repeat (first | apply Kd.R_alloc | apply Kd.R_drewN | apply Kd.R_drew)); exact HO_6.out) hb)
             have n2_ := Aside0.mk (Kd.R_below (by (with_reducible repeat (first | apply Kd.R_alloc | apply Kd.R_drewN | apply Kd.R_drew)); exact HO_7.out) hb)
             have n3_ := bb q4 hb
             have n4_ := bb q5 hb
             have n5_ := bst HB hb
             clear HO_5
             clear HO_6
             clear HO_7
             clear q4
             clear q5
             clear HB
             have HO_5 := n0_
             have HO_6 := n1_
             have HO_7 := n2_
             have q4 := n3_
             have q5 := n4_
             have HB := n5_
             clear n0_ n1_ n2_ n3_ n4_ n5_
             (try clear hb)
             (try clear hb2)
             (try clear hk)
             (try clear hi)
             refine hK.out _ _ ⟨(blk_cell q4.out 0).trans rfl, (blk_cell q4.out 1).trans rfl, (blk_cell q4.out 2).trans rfl, (blk_cell q5.out 0).trans rfl, (blk_cell q5.out 1).trans rfl, (blk_cell q5.out 2).trans rfl, qu, qv, j0, j1⟩ (fun hHeld => ?_)
             clear hK K
             refine norm_ (a' := ?_) ?_ ?_
             rotate_left
             ·show Act.put _ (some 52) _ = _
              simp only [Act.put, List.setIfInBounds_toArray, List.set_cons_zero, List.set_cons_succ, i64_w, i32_w]
              rfl
             refine pz 12 55 HT_ ?_
             refine pz 13 56 HT_ ?_
             refine pz 14 57 HT_ ?_
             refine pz 15 58 HT_ ?_
             refine pz 16 59 HT_ ?_
             refine pu 17 60 HT_ ?_
             refine pu 18 61 HT_ ?_
             refine pz 19 62 HT_ ?_
             refine pz 20 63 HT_ ?_
             refine done_ (done_of HT_.out (by kernel_rfl)) ?_
             try go_wp2
             go_meet
             case rel => exact ⟨_, (false), (by first | rfl | (simp; done) | (simp [*]; done)), H', ⟨by have := HK1.out; have := HK2.out; first | omega | exact Nat.le_refl _⟩, ⟨by (with_reducible repeat (first | apply Kd.R_alloc | apply Kd.R_drewN | apply Kd.R_drew)); exact HO_5.out⟩, ⟨by (with_reducible repeat (first | apply Kd.R_alloc | apply Kd.R_drewN | apply Kd.R_drew)); exact HO_6.out⟩, ⟨by (with_reducible repeat (first | apply Kd.R_alloc | apply Kd.R_drewN | apply Kd.R_drew)); exact HO_7.out⟩, ⟨pk q4⟩, ⟨pk q5⟩, ⟨bnow HB⟩⟩
            ·rw [if_neg c23] at H
             have js : (qC == 1) = false := beq_eq_false_iff_ne.mpr c23
             have jt : (qC != 1) = true := bne_iff_ne.mpr c23
             have H' := Aside0.mk H
             clear H
             try go_wp2
             replace HO_5 := Aside0.mk (Kd.R_drew HO_5.out)
             replace HO_6 := Aside0.mk (Kd.R_drew HO_6.out)
             replace HO_7 := Aside0.mk (Kd.R_drew HO_7.out)
             replace q4 := bd q4
             replace q5 := bd q5
             replace HB := bdn HB
             have qm : 0 ≤ (x8_1 : Int) := of_decide_eq_true (by first | (with_reducible assumption) | assumption)
             have qo : x8_1 < (q1.length : Int) := of_decide_eq_true (by first | (with_reducible assumption) | assumption)
             obtain ⟨j2, j4, qy, qz⟩ := at_T37 (Kd.R_reads' HO_5.out).2.2 x8_1 qm qo
             obtain rfl : q8 = j2 := (by injection j4)
             replace qm := eq_true qm
             replace qo := eq_true qo
             have qn : 0 ≤ (x9_2 : Int) := of_decide_eq_true (by first | (with_reducible assumption) | assumption)
             have qp : x9_2 < (q2.length : Int) := of_decide_eq_true (by first | (with_reducible assumption) | assumption)
             obtain ⟨j3, j5, qA, qB⟩ := at_T37 (Kd.R_reads' HO_6.out).2.2 x9_2 qn qp
             obtain rfl : q9 = j3 := (by injection j5)
             replace qn := eq_true qn
             replace qp := eq_true qp
             refine start_ (n := 21) (S := fun w' => w'.cell? ⟨qc, 0, none⟩ = some (.int .i64 a0_0) ∧ w'.cell? ⟨qc, 1, none⟩ = some (.int .i64 a0_1) ∧ w'.cell? ⟨qc, 2, none⟩ = some (.int .i64 a0_2) ∧ w'.cell? ⟨qd, 0, none⟩ = some (.int .i64 a1_0) ∧ w'.cell? ⟨qd, 1, none⟩ = some (.int .i64 a1_1) ∧ w'.cell? ⟨qd, 2, none⟩ = some (.int .i64 a1_2) ∧ w'.cell? (q8.add ((x8_1).toNat * 2)) = some (.int .i64 ((rd_T37 q1 x8_1).f0)) ∧ w'.cell? ⟨(q8.add ((x8_1).toNat * 2)).block, (q8.add ((x8_1).toNat * 2)).off + 1, none⟩ = some (.int .i64 ((rd_T37 q1 x8_1).f1)) ∧ w'.cell? (q9.add ((x9_2).toNat * 2)) = some (.int .i64 ((rd_T37 q2 x9_2).f0)) ∧ w'.cell? ⟨(q9.add ((x9_2).toNat * 2)).block, (q9.add ((x9_2).toNat * 2)).off + 1, none⟩ = some (.int .i64 ((rd_T37 q2 x9_2).f1))) (ds := []) #[false, false, false, false, false, false, false, false, false, false, false, false, false, false, false, false, false, false, false, false, false] (by kernel_rfl) rfl rfl ⟨(blk_cell q4.out 0).trans rfl, (blk_cell q4.out 1).trans rfl, (blk_cell q4.out 2).trans rfl, (blk_cell q5.out 0).trans rfl, (blk_cell q5.out 1).trans rfl, (blk_cell q5.out 2).trans rfl, qy, qz, qA, qB⟩ (fun hHeld => ?_); refine with_tabW torchonref06_Leading.tab10 torchonref06_Leading.bits10 (fun HT_ HW_ => ?_)
             generalize w20.drew = w26 at HO_5 HO_6 HO_7 q4 q5 HB qy qz qA qB hHeld ⊢
             refine pz 1 44 HT_ ?_
             refine pz 2 45 HT_ ?_
             refine pz 3 46 HT_ ?_
             refine pz 5 48 HT_ ?_
             refine pz 6 49 HT_ ?_
             refine pz 7 50 HT_ ?_
             refine pz 10 53 HT_ ?_
             refine tz 0 43 HT_ HW_ hHeld ?_
             refine tz 4 47 HT_ HW_ hHeld ?_
             refine tz 8 51 HT_ HW_ hHeld ?_
             refine tz 11 54 HT_ HW_ hHeld ?_
             refine one_ (i := 9) (N := some 52) #[true, true, true, true, true, true, true, true, true, true, true, true, false, false, false, false, false, false, false, false, false] rfl rfl (one_of HT_.out (by kernel_rfl)) (by decide) (fun K hK => ?_)
             refine gs _ Try.func48 (torchonref06_Product.calls a0_0 a0_1 a0_2 ((rd_T37 q1 x8_1).f0) ((rd_T37 q1 x8_1).f1) ((rd_T37 q2 x9_2).f0) ((rd_T37 q2 x9_2).f1) qD _ A21.out) ?_
             rintro e w27 ⟨rfl, hb⟩
             have qu := (hb.cell (World.block_lt_of_cell? _ _ (hHeld.2.2.2.2.2.2.1))).trans (hHeld.2.2.2.2.2.2.1)
             have qv := (hb.cell (World.block_lt_of_cell? _ _ (hHeld.2.2.2.2.2.2.2.1))).trans (hHeld.2.2.2.2.2.2.2.1)
             have j0 := (hb.cell (World.block_lt_of_cell? _ _ (hHeld.2.2.2.2.2.2.2.2.1))).trans (hHeld.2.2.2.2.2.2.2.2.1)
             have j1 := (hb.cell (World.block_lt_of_cell? _ _ (hHeld.2.2.2.2.2.2.2.2.2))).trans (hHeld.2.2.2.2.2.2.2.2.2)
             refine ⟨_, rfl, ?_⟩
             have n0_ := Aside0.mk (Kd.R_below (by (with_reducible repeat (first | apply Kd.R_alloc | apply Kd.R_drewN | apply Kd.R_drew)); exact HO_5.out) hb)
             have n1_ := Aside0.mk (Kd.R_below (by (with_reducible repeat (first | apply Kd.R_alloc | apply Kd.R_drewN | apply Kd.R_drew)); exact HO_6.out) hb)
             have n2_ := Aside0.mk (Kd.R_below (by (with_reducible repeat (first | apply Kd.R_alloc | apply Kd.R_drewN | apply Kd.R_drew)); exact HO_7.out) hb)
             have n3_ := bb q4 hb
             have n4_ := bb q5 hb
             have n5_ := bst HB hb
             clear HO_5
             clear HO_6
             clear HO_7
             clear q4
             clear q5
             clear HB
             have HO_5 := n0_
             have HO_6 := n1_
             have HO_7 := n2_
             have q4 := n3_
             have q5 := n4_
             have HB := n5_
             clear n0_ n1_ n2_ n3_ n4_ n5_
             (try clear hb)
             (try clear hb2)
             (try clear hk)
             (try clear hi)
             refine hK.out _ _ ⟨(blk_cell q4.out 0).trans rfl, (blk_cell q4.out 1).trans rfl, (blk_cell q4.out 2).trans rfl, (blk_cell q5.out 0).trans rfl, (blk_cell q5.out 1).trans rfl, (blk_cell q5.out 2).trans rfl, qu, qv, j0, j1⟩ (fun hHeld => ?_)
             clear hK K
             refine norm_ (a' := ?_) ?_ ?_
             rotate_left
             ·show Act.put _ (some 52) _ = _
              simp only [Act.put, List.setIfInBounds_toArray, List.set_cons_zero, List.set_cons_succ, i64_w, i32_w]
              rfl
             refine pz 12 55 HT_ ?_
             refine pz 13 56 HT_ ?_
             refine pz 14 57 HT_ ?_
             refine pz 15 58 HT_ ?_
             refine pz 16 59 HT_ ?_
             refine pz 17 60 HT_ ?_
             refine pz 18 61 HT_ ?_
             refine pz 19 62 HT_ ?_
             refine pz 20 63 HT_ ?_
             refine done_ (done_of HT_.out (by kernel_rfl)) ?_
             try go_wp2
             go_meet
             case rel => exact ⟨_, ((qC != (-1))), (by first | rfl | (simp; done) | (simp [*]; done)), H', ⟨by have := HK1.out; have := HK2.out; first | omega | exact Nat.le_refl _⟩, ⟨by (with_reducible repeat (first | apply Kd.R_alloc | apply Kd.R_drewN | apply Kd.R_drew)); exact HO_5.out⟩, ⟨by (with_reducible repeat (first | apply Kd.R_alloc | apply Kd.R_drewN | apply Kd.R_drew)); exact HO_6.out⟩, ⟨by (with_reducible repeat (first | apply Kd.R_alloc | apply Kd.R_drewN | apply Kd.R_drew)); exact HO_7.out⟩, ⟨pk q4⟩, ⟨pk q5⟩, ⟨bnow HB⟩⟩
           ·rw [if_neg c22] at H
            have qN : (qD == a1_1) = false := beq_eq_false_iff_ne.mpr c22
            have jr : (qD != a1_1) = true := bne_iff_ne.mpr c22
            (first | rw [qN] | (simp only [i64_w, i32_w]; rw [qN]) | skip)
            have H' := Aside0.mk H
            clear H
            try go_wp2
            replace HO_5 := Aside0.mk (Kd.R_drew HO_5.out)
            replace HO_6 := Aside0.mk (Kd.R_drew HO_6.out)
            replace HO_7 := Aside0.mk (Kd.R_drew HO_7.out)
            replace q4 := bd q4
            replace q5 := bd q5
            replace HB := bdn HB
            have qm : 0 ≤ (x8_1 : Int) := of_decide_eq_true (by first | (with_reducible assumption) | assumption)
            have qo : x8_1 < (q1.length : Int) := of_decide_eq_true (by first | (with_reducible assumption) | assumption)
            obtain ⟨j2, j4, qy, qz⟩ := at_T37 (Kd.R_reads' HO_5.out).2.2 x8_1 qm qo
            obtain rfl : q8 = j2 := (by injection j4)
            replace qm := eq_true qm
            replace qo := eq_true qo
            have qn : 0 ≤ (x9_2 : Int) := of_decide_eq_true (by first | (with_reducible assumption) | assumption)
            have qp : x9_2 < (q2.length : Int) := of_decide_eq_true (by first | (with_reducible assumption) | assumption)
            obtain ⟨j3, j5, qA, qB⟩ := at_T37 (Kd.R_reads' HO_6.out).2.2 x9_2 qn qp
            obtain rfl : q9 = j3 := (by injection j5)
            replace qn := eq_true qn
            replace qp := eq_true qp
            refine start_ (n := 21) (S := fun w' => w'.cell? ⟨qc, 0, none⟩ = some (.int .i64 a0_0) ∧ w'.cell? ⟨qc, 1, none⟩ = some (.int .i64 a0_1) ∧ w'.cell? ⟨qc, 2, none⟩ = some (.int .i64 a0_2) ∧ w'.cell? ⟨qd, 0, none⟩ = some (.int .i64 a1_0) ∧ w'.cell? ⟨qd, 1, none⟩ = some (.int .i64 a1_1) ∧ w'.cell? ⟨qd, 2, none⟩ = some (.int .i64 a1_2) ∧ w'.cell? (q8.add ((x8_1).toNat * 2)) = some (.int .i64 ((rd_T37 q1 x8_1).f0)) ∧ w'.cell? ⟨(q8.add ((x8_1).toNat * 2)).block, (q8.add ((x8_1).toNat * 2)).off + 1, none⟩ = some (.int .i64 ((rd_T37 q1 x8_1).f1)) ∧ w'.cell? (q9.add ((x9_2).toNat * 2)) = some (.int .i64 ((rd_T37 q2 x9_2).f0)) ∧ w'.cell? ⟨(q9.add ((x9_2).toNat * 2)).block, (q9.add ((x9_2).toNat * 2)).off + 1, none⟩ = some (.int .i64 ((rd_T37 q2 x9_2).f1))) (ds := []) #[false, false, false, false, false, false, false, false, false, false, false, false, false, false, false, false, false, false, false, false, false] (by kernel_rfl) rfl rfl ⟨(blk_cell q4.out 0).trans rfl, (blk_cell q4.out 1).trans rfl, (blk_cell q4.out 2).trans rfl, (blk_cell q5.out 0).trans rfl, (blk_cell q5.out 1).trans rfl, (blk_cell q5.out 2).trans rfl, qy, qz, qA, qB⟩ (fun hHeld => ?_); refine with_tabW torchonref06_Leading.tab10 torchonref06_Leading.bits10 (fun HT_ HW_ => ?_)
            generalize w20.drew = w28 at HO_5 HO_6 HO_7 q4 q5 HB qy qz qA qB hHeld ⊢
            refine pz 1 44 HT_ ?_
            refine pz 2 45 HT_ ?_
            refine pz 3 46 HT_ ?_
            refine pz 5 48 HT_ ?_
            refine pz 6 49 HT_ ?_
            refine pz 7 50 HT_ ?_
            refine pz 10 53 HT_ ?_
            refine tz 0 43 HT_ HW_ hHeld ?_
            refine tz 4 47 HT_ HW_ hHeld ?_
            refine tz 8 51 HT_ HW_ hHeld ?_
            refine tz 11 54 HT_ HW_ hHeld ?_
            refine one_ (i := 9) (N := some 52) #[true, true, true, true, true, true, true, true, true, true, true, true, false, false, false, false, false, false, false, false, false] rfl rfl (one_of HT_.out (by kernel_rfl)) (by decide) (fun K hK => ?_)
            refine gs _ Try.func48 (torchonref06_Product.calls a0_0 a0_1 a0_2 ((rd_T37 q1 x8_1).f0) ((rd_T37 q1 x8_1).f1) ((rd_T37 q2 x9_2).f0) ((rd_T37 q2 x9_2).f1) qD _ A21.out) ?_
            rintro e w29 ⟨rfl, hb⟩
            have qu := (hb.cell (World.block_lt_of_cell? _ _ (hHeld.2.2.2.2.2.2.1))).trans (hHeld.2.2.2.2.2.2.1)
            have qv := (hb.cell (World.block_lt_of_cell? _ _ (hHeld.2.2.2.2.2.2.2.1))).trans (hHeld.2.2.2.2.2.2.2.1)
            have j0 := (hb.cell (World.block_lt_of_cell? _ _ (hHeld.2.2.2.2.2.2.2.2.1))).trans (hHeld.2.2.2.2.2.2.2.2.1)
            have j1 := (hb.cell (World.block_lt_of_cell? _ _ (hHeld.2.2.2.2.2.2.2.2.2))).trans (hHeld.2.2.2.2.2.2.2.2.2)
            refine ⟨_, rfl, ?_⟩
            have n0_ := Aside0.mk (Kd.R_below (by (with_reducible repeat (first | apply Kd.R_alloc | apply Kd.R_drewN | apply Kd.R_drew)); exact HO_5.out) hb)
            have n1_ := Aside0.mk (Kd.R_below (by (with_reducible repeat (first | apply Kd.R_alloc | apply Kd.R_drewN | apply Kd.R_drew)); exact HO_6.out) hb)
            have n2_ := Aside0.mk (Kd.R_below (by (with_reducible repeat (first | apply Kd.R_alloc | apply Kd.R_drewN | apply Kd.R_drew)); exact HO_7.out) hb)
            have n3_ := bb q4 hb
            have n4_ := bb q5 hb
            have n5_ := bst HB hb
            clear HO_5
            clear HO_6
            clear HO_7
            clear q4
            clear q5
            clear HB
            have HO_5 := n0_
            have HO_6 := n1_
            have HO_7 := n2_
            have q4 := n3_
            have q5 := n4_
            have HB := n5_
            clear n0_ n1_ n2_ n3_ n4_ n5_
            (try clear hb)
            (try clear hb2)
            (try clear hk)
            (try clear hi)
            refine hK.out _ _ ⟨(blk_cell q4.out 0).trans rfl, (blk_cell q4.out 1).trans rfl, (blk_cell q4.out 2).trans rfl, (blk_cell q5.out 0).trans rfl, (blk_cell q5.out 1).trans rfl, (blk_cell q5.out 2).trans rfl, qu, qv, j0, j1⟩ (fun hHeld => ?_)
            clear hK K
            refine norm_ (a' := ?_) ?_ ?_
            rotate_left
            ·show Act.put _ (some 52) _ = _
             simp only [Act.put, List.setIfInBounds_toArray, List.set_cons_zero, List.set_cons_succ, i64_w, i32_w]
             rfl
            refine pz 12 55 HT_ ?_
            refine pz 13 56 HT_ ?_
            refine pu 14 57 HT_ ?_
            refine pu 15 58 HT_ ?_
            refine pu 16 59 HT_ ?_
            refine pu 17 60 HT_ ?_
            refine pu 18 61 HT_ ?_
            refine pu 19 62 HT_ ?_
            refine pz 20 63 HT_ ?_
            refine done_ (done_of HT_.out (by kernel_rfl)) ?_
            try go_wp2
            go_meet
            case rel => exact ⟨_, (true), (by first | rfl | (simp; done) | (simp [*]; done)), H', ⟨by have := HK1.out; have := HK2.out; first | omega | exact Nat.le_refl _⟩, ⟨by (with_reducible repeat (first | apply Kd.R_alloc | apply Kd.R_drewN | apply Kd.R_drew)); exact HO_5.out⟩, ⟨by (with_reducible repeat (first | apply Kd.R_alloc | apply Kd.R_drewN | apply Kd.R_drew)); exact HO_6.out⟩, ⟨by (with_reducible repeat (first | apply Kd.R_alloc | apply Kd.R_drewN | apply Kd.R_drew)); exact HO_7.out⟩, ⟨pk q4⟩, ⟨pk q5⟩, ⟨bnow HB⟩⟩
          case rest =>
           clear jm
           try clear c2; try clear p2; try clear p3; try clear q3; try clear hx3; try clear c4; try clear c22; try clear qN; try clear jr; try clear c23; try clear js; try clear jt; try clear qy; try clear qz; try clear qA; try clear qB; try clear qm; try clear qn; try clear qo; try clear qp
           obtain ⟨kq, x63_16, rfl, HA, HJ16, HO_5, HO_6, HO_7, q4, q5, HB⟩ := hcut
           cases kq with
           | zero => exact absurd HA.out (by simp [torchonref06_Leading.j2])
           | succ kj16 =>
            have H := HA.out
            clear HA
            simp only [torchonref06_Leading.j2] at H
            by_cases c30 : x63_16 = true
            ·subst c30
             have H1 : ((some (wrap64 (x9_2 + 1))).bind fun qV => (torchonref06_Leading.l1 kj16 q1 q2 x7_2 x8_1 qV a0_0 a0_1 a0_2 a1_0 a1_1 a1_2)) = some r := by rw [if_pos rfl] at H; exact H
             clear H
             have H := H1
             clear H1
             obtain ⟨qV, E310, H⟩ := oc H
             have E31w : (IntKind.i64.wrap (x9_2 + 1)) = qV := (i64_w _).trans E310
             have H' := Aside0.mk H
             clear H
             go_wp2
             go_roundg kj16
             case measure => have := HK1.out; have := HK2.out; have := HJ16.out; omega
             case rel => exact ⟨(x7_2), (qV), (by first | rfl | (simp; done) | (simp [*]; done)), H', ⟨by have := HK1.out; have := HK2.out; have := HJ16.out; omega⟩, ⟨by (with_reducible repeat (first | apply Kd.R_alloc | apply Kd.R_drewN | apply Kd.R_drew)); exact HO_5.out⟩, ⟨by (with_reducible repeat (first | apply Kd.R_alloc | apply Kd.R_drewN | apply Kd.R_drew)); exact HO_6.out⟩, ⟨by (with_reducible repeat (first | apply Kd.R_alloc | apply Kd.R_drewN | apply Kd.R_drew)); exact HO_7.out⟩, ⟨pk q4⟩, ⟨pk q5⟩, ⟨bnow HB⟩⟩
            ·replace c30 := Bool.eq_false_iff.mpr c30
             subst c30
             have H1 : (if 0 ≤ x8_1 then (if x8_1 < (q1.length : Int) then (if 0 ≤ x9_2 then (if x9_2 < (q2.length : Int) then (torchonref06_Leading.l2 kj16 q1 q2 x7_2 x8_1 x9_2 0 a0_0 a0_1 a0_2 a1_0 a1_1 a1_2 ((rd_T37 q1 x8_1).f0) ((rd_T37 q2 x9_2).f0) ((rd_T37 q1 x8_1).f1) ((rd_T37 q2 x9_2).f1)) else (none)) else (none)) else (none)) else (none)) = some r := by rw [if_neg (show ¬ (false = true) by decide)] at H; exact H
             clear H
             have H := H1
             clear H1
             by_cases c32 : 0 ≤ x8_1
             ·rw [if_pos c32] at H
              have g6 : decide (0 ≤ x8_1) = true := decide_eq_true c32
              clear c32
              by_cases c33 : x8_1 < (q1.length : Int)
              ·rw [if_pos c33] at H
               have g7 : decide (x8_1 < (q1.length : Int)) = true := decide_eq_true c33
               clear c33
               by_cases c34 : 0 ≤ x9_2
               ·rw [if_pos c34] at H
                have g8 : decide (0 ≤ x9_2) = true := decide_eq_true c34
                clear c34
                by_cases c35 : x9_2 < (q2.length : Int)
                ·rw [if_pos c35] at H
                 have g9 : decide (x9_2 < (q2.length : Int)) = true := decide_eq_true c35
                 clear c35
                 have H' := Aside0.mk H
                 clear H
                 try go_wp2
                 replace HO_5 := Aside0.mk (Kd.R_drew HO_5.out)
                 replace HO_6 := Aside0.mk (Kd.R_drew HO_6.out)
                 replace HO_7 := Aside0.mk (Kd.R_drew HO_7.out)
                 replace q4 := bd q4
                 replace q5 := bd q5
                 replace HB := bdn HB
                 have jd : 0 ≤ (x8_1 : Int) := of_decide_eq_true (by first | (with_reducible assumption) | assumption)
                 have jh : x8_1 < (q1.length : Int) := of_decide_eq_true (by first | (with_reducible assumption) | assumption)
                 obtain ⟨g1, gd, jv, jw⟩ := at_T37 (Kd.R_reads' HO_5.out).2.2 x8_1 jd jh
                 obtain rfl : q8 = g1 := (by injection gd)
                 replace jd := eq_true jd
                 replace jh := eq_true jh
                 have je : 0 ≤ (x9_2 : Int) := of_decide_eq_true (by first | (with_reducible assumption) | assumption)
                 have ji : x9_2 < (q2.length : Int) := of_decide_eq_true (by first | (with_reducible assumption) | assumption)
                 obtain ⟨g2, ge, jx, jy⟩ := at_T37 (Kd.R_reads' HO_6.out).2.2 x9_2 je ji
                 obtain rfl : q9 = g2 := (by injection ge)
                 replace je := eq_true je
                 replace ji := eq_true ji
                 have jf : 0 ≤ (x8_1 : Int) := of_decide_eq_true (by first | (with_reducible assumption) | assumption)
                 have jj : x8_1 < (q1.length : Int) := of_decide_eq_true (by first | (with_reducible assumption) | assumption)
                 obtain ⟨g3, gf, jz, jA⟩ := at_T37 (Kd.R_reads' HO_5.out).2.2 x8_1 jf jj
                 obtain rfl : q8 = g3 := (by injection gf)
                 replace jf := eq_true jf
                 replace jj := eq_true jj
                 have jg : 0 ≤ (x9_2 : Int) := of_decide_eq_true (by first | (with_reducible assumption) | assumption)
                 have jk : x9_2 < (q2.length : Int) := of_decide_eq_true (by first | (with_reducible assumption) | assumption)
                 obtain ⟨g4, gg, jB, jC⟩ := at_T37 (Kd.R_reads' HO_6.out).2.2 x9_2 jg jk
                 obtain rfl : q9 = g4 := (by injection gg)
                 replace jg := eq_true jg
                 replace jk := eq_true jk
                 refine start_ (n := 23) (S := fun w' => w'.cell? (q8.add ((x8_1).toNat * 2)) = some (.int .i64 ((rd_T37 q1 x8_1).f0)) ∧ w'.cell? ⟨(q8.add ((x8_1).toNat * 2)).block, (q8.add ((x8_1).toNat * 2)).off + 1, none⟩ = some (.int .i64 ((rd_T37 q1 x8_1).f1)) ∧ w'.cell? (q9.add ((x9_2).toNat * 2)) = some (.int .i64 ((rd_T37 q2 x9_2).f0)) ∧ w'.cell? ⟨(q9.add ((x9_2).toNat * 2)).block, (q9.add ((x9_2).toNat * 2)).off + 1, none⟩ = some (.int .i64 ((rd_T37 q2 x9_2).f1)) ∧ w'.cell? (q8.add ((x8_1).toNat * 2)) = some (.int .i64 ((rd_T37 q1 x8_1).f0)) ∧ w'.cell? ⟨(q8.add ((x8_1).toNat * 2)).block, (q8.add ((x8_1).toNat * 2)).off + 1, none⟩ = some (.int .i64 ((rd_T37 q1 x8_1).f1)) ∧ w'.cell? (q9.add ((x9_2).toNat * 2)) = some (.int .i64 ((rd_T37 q2 x9_2).f0)) ∧ w'.cell? ⟨(q9.add ((x9_2).toNat * 2)).block, (q9.add ((x9_2).toNat * 2)).off + 1, none⟩ = some (.int .i64 ((rd_T37 q2 x9_2).f1))) (ds := []) #[false, false, false, false, false, false, false, false, false, false, false, false, false, false, false, false, false, false, false, false, false, false, false] (by kernel_rfl) rfl rfl ⟨jv, jw, jx, jy, jz, jA, jB, jC⟩ (fun hHeld => ?_); refine with_tabW torchonref06_Leading.tab11 torchonref06_Leading.bits11 (fun HT_ HW_ => ?_)
                 generalize wc.drew = w36 at HO_5 HO_6 HO_7 q4 q5 HB jv jw jx jy jz jA jB jC hHeld ⊢
                 refine pz 0 64 HT_ ?_
                 refine pz 1 65 HT_ ?_
                 refine pz 2 66 HT_ ?_
                 refine pz 3 67 HT_ ?_
                 refine pz 5 69 HT_ ?_
                 refine pz 6 70 HT_ ?_
                 refine pz 7 71 HT_ ?_
                 refine pz 8 72 HT_ ?_
                 refine pz 10 74 HT_ ?_
                 refine pz 11 75 HT_ ?_
                 refine pz 12 76 HT_ ?_
                 refine pz 13 77 HT_ ?_
                 refine pz 15 79 HT_ ?_
                 refine pz 16 80 HT_ ?_
                 refine pz 17 81 HT_ ?_
                 refine pz 18 82 HT_ ?_
                 refine tz 4 68 HT_ HW_ hHeld ?_
                 refine tz 9 73 HT_ HW_ hHeld ?_
                 refine tz 14 78 HT_ HW_ hHeld ?_
                 refine tz 19 83 HT_ HW_ hHeld ?_
                 refine pz 20 84 HT_ ?_
                 refine one_ (i := 21) (N := some 11) #[true, true, true, true, true, true, true, true, true, true, true, true, true, true, true, true, true, true, true, true, true, true, false] rfl rfl (one_of HT_.out (by kernel_rfl)) (by decide) (fun K hK => ?_)
                 refine box_step ?hg (N := 11) ?hd (cs := #[.int .i64 0, .int .i64 0, .int .i64 0, .int .i64 0]) (t := 25) ?hr ?_; (case hd => rfl); (case hg => rfl); (case hr => first | (go_simp; done) | (go_simp; rfl))
                 intro q6 hg w37 hbox hb
                 have jn := (hb.cell (World.block_lt_of_cell? _ _ (hHeld.1))).trans (hHeld.1)
                 have jo := (hb.cell (World.block_lt_of_cell? _ _ (hHeld.2.1))).trans (hHeld.2.1)
                 have jp := (hb.cell (World.block_lt_of_cell? _ _ (hHeld.2.2.1))).trans (hHeld.2.2.1)
                 have jq := (hb.cell (World.block_lt_of_cell? _ _ (hHeld.2.2.2.1))).trans (hHeld.2.2.2.1)
                 have qY := (hb.cell (World.block_lt_of_cell? _ _ (hHeld.2.2.2.2.1))).trans (hHeld.2.2.2.2.1)
                 have qZ := (hb.cell (World.block_lt_of_cell? _ _ (hHeld.2.2.2.2.2.1))).trans (hHeld.2.2.2.2.2.1)
                 have qu := (hb.cell (World.block_lt_of_cell? _ _ (hHeld.2.2.2.2.2.2.1))).trans (hHeld.2.2.2.2.2.2.1)
                 have qv := (hb.cell (World.block_lt_of_cell? _ _ (hHeld.2.2.2.2.2.2.2))).trans (hHeld.2.2.2.2.2.2.2)
                 have n0_ := Aside0.mk (Kd.R_below (by (with_reducible repeat (first | apply Kd.R_alloc | apply Kd.R_drewN | apply Kd.R_drew)); exact HO_5.out) hb)
                 have n1_ := Aside0.mk (Kd.R_below (by (with_reducible repeat (first | apply Kd.R_alloc | apply Kd.R_drewN | apply Kd.R_drew)); exact HO_6.out) hb)
                 have n2_ := Aside0.mk (Kd.R_below (Kd.R_elderB (by (with_reducible repeat (first | apply Kd.R_alloc | apply Kd.R_drewN | apply Kd.R_drew)); exact HO_7.out) q6 (Nat.le_of_eq hg.symm)) hb)
                 have n3_ := bb q4 hb
                 have n4_ := bb q5 hb
                 have n5_ := bst HB hb
                 have n6_ := Aside0.mk (hbox)
                 have n7_ := gw hg HB
                 have n8_ := gw hg HB
                 have n9_ := nlt hg q4
                 have jR := ngt hg q4
                 have jS := nlt hg q5
                 have jT := ngt hg q5
                 clear HO_5
                 clear HO_6
                 clear HO_7
                 clear q4
                 clear q5
                 clear HB
                 have HO_5 := n0_
                 have HO_6 := n1_
                 have HO_7 := n2_
                 have q4 := n3_
                 have q5 := n4_
                 have HB := n5_
                 have q0 := n6_
                 have gy := n7_
                 have gu := n8_
                 have qw := n9_
                 have qQ := jR
                 have qx := jS
                 have qR := jT
                 clear n0_ n1_ n2_ n3_ n4_ n5_ n6_ n7_ n8_ n9_ jR jS jT
                 clear hb hg
                 refine hK.out _ _ ⟨jn, jo, jp, jq, qY, qZ, qu, qv⟩ (fun hHeld => ?_)
                 clear hK K
                 refine norm_ (a' := ?_) ?_ ?_
                 rotate_left
                 ·show Act.put _ (some 11) _ = _
                  simp only [Act.put, List.setIfInBounds_toArray, List.set_cons_zero, List.set_cons_succ, i64_w, i32_w]
                  rfl
                 refine one_ (i := 22) (N := none) #[true, true, true, true, true, true, true, true, true, true, true, true, true, true, true, true, true, true, true, true, true, true, true] rfl rfl (one_of HT_.out (by kernel_rfl)) (by decide) (fun K hK => ?_)
                 have QF : w37.cell? ⟨q6, 0, none⟩ = some (.int .i64 0) := (blk_cell q0.out 0).trans rfl
                 have Q5 := blk_frozen q0.out 0
                 have Qx := qw.out
                 have Qy := qx.out
                 have Qh := qQ.out
                 have Qi := qR.out
                 have QG : w37.cell? ⟨q6, 1, none⟩ = some (.int .i64 0) := (blk_cell q0.out 1).trans rfl
                 have Q6 := blk_frozen q0.out 1
                 have Qz := qw.out
                 have QA := qx.out
                 have Qj := qQ.out
                 have Qk := qR.out
                 have QH : w37.cell? ⟨q6, 2, none⟩ = some (.int .i64 0) := (blk_cell q0.out 2).trans rfl
                 have Q7 := blk_frozen q0.out 2
                 have QB := qw.out
                 have QC := qx.out
                 have Ql := qQ.out
                 have Qm := qR.out
                 have QI : w37.cell? ⟨q6, 3, none⟩ = some (.int .i64 0) := (blk_cell q0.out 3).trans rfl
                 have Q8 := blk_frozen q0.out 3
                 have QD := qw.out
                 have QE := qx.out
                 have Qn := qQ.out
                 have Qo := qR.out
                 refine skip_ (w1 := ?_) (by rfl) rfl ?_ ?_
                 rotate_left
                 ·go_simp
                  rfl
                 refine hK.out _ _ ⟨((cell_far (p := ⟨q6, _, none⟩) (by first | exact Kd.own_blk (Kd.R_ne HO_5.out q0.out (by decide)) | (rw [add_block]; exact Kd.own_blk (Kd.R_ne HO_5.out q0.out (by decide))) | (show (Addr.add _ _).block ≠ _; rw [add_block]; exact Kd.own_blk (Kd.R_ne HO_5.out q0.out (by decide))) | (dsimp only; exact Kd.own_blk (Kd.R_ne HO_5.out q0.out (by decide)))) _).trans (((cell_far (p := ⟨q6, _, none⟩) (by first | exact Kd.own_blk (Kd.R_ne HO_5.out q0.out (by decide)) | (rw [add_block]; exact Kd.own_blk (Kd.R_ne HO_5.out q0.out (by decide))) | (show (Addr.add _ _).block ≠ _; rw [add_block]; exact Kd.own_blk (Kd.R_ne HO_5.out q0.out (by decide))) | (dsimp only; exact Kd.own_blk (Kd.R_ne HO_5.out q0.out (by decide)))) _).trans (((cell_far (p := ⟨q6, _, none⟩) (by first | exact Kd.own_blk (Kd.R_ne HO_5.out q0.out (by decide)) | (rw [add_block]; exact Kd.own_blk (Kd.R_ne HO_5.out q0.out (by decide))) | (show (Addr.add _ _).block ≠ _; rw [add_block]; exact Kd.own_blk (Kd.R_ne HO_5.out q0.out (by decide))) | (dsimp only; exact Kd.own_blk (Kd.R_ne HO_5.out q0.out (by decide)))) _).trans (((cell_far (p := ⟨q6, _, none⟩) (by first | exact Kd.own_blk (Kd.R_ne HO_5.out q0.out (by decide)) | (rw [add_block]; exact Kd.own_blk (Kd.R_ne HO_5.out q0.out (by decide))) | (show (Addr.add _ _).block ≠ _; rw [add_block]; exact Kd.own_blk (Kd.R_ne HO_5.out q0.out (by decide))) | (dsimp only; exact Kd.own_blk (Kd.R_ne HO_5.out q0.out (by decide)))) _).trans (hHeld.1)))))))), ((cell_far (p := ⟨q6, _, none⟩) (by first | exact Kd.own_blk (Kd.R_ne HO_5.out q0.out (by decide)) | (rw [add_block]; exact Kd.own_blk (Kd.R_ne HO_5.out q0.out (by decide))) | (show (Addr.add _ _).block ≠ _; rw [add_block]; exact Kd.own_blk (Kd.R_ne HO_5.out q0.out (by decide))) | (dsimp only; exact Kd.own_blk (Kd.R_ne HO_5.out q0.out (by decide)))) _).trans (((cell_far (p := ⟨q6, _, none⟩) (by first | exact Kd.own_blk (Kd.R_ne HO_5.out q0.out (by decide)) | (rw [add_block]; exact Kd.own_blk (Kd.R_ne HO_5.out q0.out (by decide))) | (show (Addr.add _ _).block ≠ _; rw [add_block]; exact Kd.own_blk (Kd.R_ne HO_5.out q0.out (by decide))) | (dsimp only; exact Kd.own_blk (Kd.R_ne HO_5.out q0.out (by decide)))) _).trans (((cell_far (p := ⟨q6, _, none⟩) (by first | exact Kd.own_blk (Kd.R_ne HO_5.out q0.out (by decide)) | (rw [add_block]; exact Kd.own_blk (Kd.R_ne HO_5.out q0.out (by decide))) | (show (Addr.add _ _).block ≠ _; rw [add_block]; exact Kd.own_blk (Kd.R_ne HO_5.out q0.out (by decide))) | (dsimp only; exact Kd.own_blk (Kd.R_ne HO_5.out q0.out (by decide)))) _).trans (((cell_far (p := ⟨q6, _, none⟩) (by first | exact Kd.own_blk (Kd.R_ne HO_5.out q0.out (by decide)) | (rw [add_block]; exact Kd.own_blk (Kd.R_ne HO_5.out q0.out (by decide))) | (show (Addr.add _ _).block ≠ _; rw [add_block]; exact Kd.own_blk (Kd.R_ne HO_5.out q0.out (by decide))) | (dsimp only; exact Kd.own_blk (Kd.R_ne HO_5.out q0.out (by decide)))) _).trans (hHeld.2.1)))))))), ((cell_far (p := ⟨q6, _, none⟩) (by first | exact Kd.own_blk (Kd.R_ne HO_6.out q0.out (by decide)) | (rw [add_block]; exact Kd.own_blk (Kd.R_ne HO_6.out q0.out (by decide))) | (show (Addr.add _ _).block ≠ _; rw [add_block]; exact Kd.own_blk (Kd.R_ne HO_6.out q0.out (by decide))) | (dsimp only; exact Kd.own_blk (Kd.R_ne HO_6.out q0.out (by decide)))) _).trans (((cell_far (p := ⟨q6, _, none⟩) (by first | exact Kd.own_blk (Kd.R_ne HO_6.out q0.out (by decide)) | (rw [add_block]; exact Kd.own_blk (Kd.R_ne HO_6.out q0.out (by decide))) | (show (Addr.add _ _).block ≠ _; rw [add_block]; exact Kd.own_blk (Kd.R_ne HO_6.out q0.out (by decide))) | (dsimp only; exact Kd.own_blk (Kd.R_ne HO_6.out q0.out (by decide)))) _).trans (((cell_far (p := ⟨q6, _, none⟩) (by first | exact Kd.own_blk (Kd.R_ne HO_6.out q0.out (by decide)) | (rw [add_block]; exact Kd.own_blk (Kd.R_ne HO_6.out q0.out (by decide))) | (show (Addr.add _ _).block ≠ _; rw [add_block]; exact Kd.own_blk (Kd.R_ne HO_6.out q0.out (by decide))) | (dsimp only; exact Kd.own_blk (Kd.R_ne HO_6.out q0.out (by decide)))) _).trans (((cell_far (p := ⟨q6, _, none⟩) (by first | exact Kd.own_blk (Kd.R_ne HO_6.out q0.out (by decide)) | (rw [add_block]; exact Kd.own_blk (Kd.R_ne HO_6.out q0.out (by decide))) | (show (Addr.add _ _).block ≠ _; rw [add_block]; exact Kd.own_blk (Kd.R_ne HO_6.out q0.out (by decide))) | (dsimp only; exact Kd.own_blk (Kd.R_ne HO_6.out q0.out (by decide)))) _).trans (hHeld.2.2.1)))))))), ((cell_far (p := ⟨q6, _, none⟩) (by first | exact Kd.own_blk (Kd.R_ne HO_6.out q0.out (by decide)) | (rw [add_block]; exact Kd.own_blk (Kd.R_ne HO_6.out q0.out (by decide))) | (show (Addr.add _ _).block ≠ _; rw [add_block]; exact Kd.own_blk (Kd.R_ne HO_6.out q0.out (by decide))) | (dsimp only; exact Kd.own_blk (Kd.R_ne HO_6.out q0.out (by decide)))) _).trans (((cell_far (p := ⟨q6, _, none⟩) (by first | exact Kd.own_blk (Kd.R_ne HO_6.out q0.out (by decide)) | (rw [add_block]; exact Kd.own_blk (Kd.R_ne HO_6.out q0.out (by decide))) | (show (Addr.add _ _).block ≠ _; rw [add_block]; exact Kd.own_blk (Kd.R_ne HO_6.out q0.out (by decide))) | (dsimp only; exact Kd.own_blk (Kd.R_ne HO_6.out q0.out (by decide)))) _).trans (((cell_far (p := ⟨q6, _, none⟩) (by first | exact Kd.own_blk (Kd.R_ne HO_6.out q0.out (by decide)) | (rw [add_block]; exact Kd.own_blk (Kd.R_ne HO_6.out q0.out (by decide))) | (show (Addr.add _ _).block ≠ _; rw [add_block]; exact Kd.own_blk (Kd.R_ne HO_6.out q0.out (by decide))) | (dsimp only; exact Kd.own_blk (Kd.R_ne HO_6.out q0.out (by decide)))) _).trans (((cell_far (p := ⟨q6, _, none⟩) (by first | exact Kd.own_blk (Kd.R_ne HO_6.out q0.out (by decide)) | (rw [add_block]; exact Kd.own_blk (Kd.R_ne HO_6.out q0.out (by decide))) | (show (Addr.add _ _).block ≠ _; rw [add_block]; exact Kd.own_blk (Kd.R_ne HO_6.out q0.out (by decide))) | (dsimp only; exact Kd.own_blk (Kd.R_ne HO_6.out q0.out (by decide)))) _).trans (hHeld.2.2.2.1)))))))), ((cell_far (p := ⟨q6, _, none⟩) (by first | exact Kd.own_blk (Kd.R_ne HO_5.out q0.out (by decide)) | (rw [add_block]; exact Kd.own_blk (Kd.R_ne HO_5.out q0.out (by decide))) | (show (Addr.add _ _).block ≠ _; rw [add_block]; exact Kd.own_blk (Kd.R_ne HO_5.out q0.out (by decide))) | (dsimp only; exact Kd.own_blk (Kd.R_ne HO_5.out q0.out (by decide)))) _).trans (((cell_far (p := ⟨q6, _, none⟩) (by first | exact Kd.own_blk (Kd.R_ne HO_5.out q0.out (by decide)) | (rw [add_block]; exact Kd.own_blk (Kd.R_ne HO_5.out q0.out (by decide))) | (show (Addr.add _ _).block ≠ _; rw [add_block]; exact Kd.own_blk (Kd.R_ne HO_5.out q0.out (by decide))) | (dsimp only; exact Kd.own_blk (Kd.R_ne HO_5.out q0.out (by decide)))) _).trans (((cell_far (p := ⟨q6, _, none⟩) (by first | exact Kd.own_blk (Kd.R_ne HO_5.out q0.out (by decide)) | (rw [add_block]; exact Kd.own_blk (Kd.R_ne HO_5.out q0.out (by decide))) | (show (Addr.add _ _).block ≠ _; rw [add_block]; exact Kd.own_blk (Kd.R_ne HO_5.out q0.out (by decide))) | (dsimp only; exact Kd.own_blk (Kd.R_ne HO_5.out q0.out (by decide)))) _).trans (((cell_far (p := ⟨q6, _, none⟩) (by first | exact Kd.own_blk (Kd.R_ne HO_5.out q0.out (by decide)) | (rw [add_block]; exact Kd.own_blk (Kd.R_ne HO_5.out q0.out (by decide))) | (show (Addr.add _ _).block ≠ _; rw [add_block]; exact Kd.own_blk (Kd.R_ne HO_5.out q0.out (by decide))) | (dsimp only; exact Kd.own_blk (Kd.R_ne HO_5.out q0.out (by decide)))) _).trans (hHeld.2.2.2.2.1)))))))), ((cell_far (p := ⟨q6, _, none⟩) (by first | exact Kd.own_blk (Kd.R_ne HO_5.out q0.out (by decide)) | (rw [add_block]; exact Kd.own_blk (Kd.R_ne HO_5.out q0.out (by decide))) | (show (Addr.add _ _).block ≠ _; rw [add_block]; exact Kd.own_blk (Kd.R_ne HO_5.out q0.out (by decide))) | (dsimp only; exact Kd.own_blk (Kd.R_ne HO_5.out q0.out (by decide)))) _).trans (((cell_far (p := ⟨q6, _, none⟩) (by first | exact Kd.own_blk (Kd.R_ne HO_5.out q0.out (by decide)) | (rw [add_block]; exact Kd.own_blk (Kd.R_ne HO_5.out q0.out (by decide))) | (show (Addr.add _ _).block ≠ _; rw [add_block]; exact Kd.own_blk (Kd.R_ne HO_5.out q0.out (by decide))) | (dsimp only; exact Kd.own_blk (Kd.R_ne HO_5.out q0.out (by decide)))) _).trans (((cell_far (p := ⟨q6, _, none⟩) (by first | exact Kd.own_blk (Kd.R_ne HO_5.out q0.out (by decide)) | (rw [add_block]; exact Kd.own_blk (Kd.R_ne HO_5.out q0.out (by decide))) | (show (Addr.add _ _).block ≠ _; rw [add_block]; exact Kd.own_blk (Kd.R_ne HO_5.out q0.out (by decide))) | (dsimp only; exact Kd.own_blk (Kd.R_ne HO_5.out q0.out (by decide)))) _).trans (((cell_far (p := ⟨q6, _, none⟩) (by first | exact Kd.own_blk (Kd.R_ne HO_5.out q0.out (by decide)) | (rw [add_block]; exact Kd.own_blk (Kd.R_ne HO_5.out q0.out (by decide))) | (show (Addr.add _ _).block ≠ _; rw [add_block]; exact Kd.own_blk (Kd.R_ne HO_5.out q0.out (by decide))) | (dsimp only; exact Kd.own_blk (Kd.R_ne HO_5.out q0.out (by decide)))) _).trans (hHeld.2.2.2.2.2.1)))))))), ((cell_far (p := ⟨q6, _, none⟩) (by first | exact Kd.own_blk (Kd.R_ne HO_6.out q0.out (by decide)) | (rw [add_block]; exact Kd.own_blk (Kd.R_ne HO_6.out q0.out (by decide))) | (show (Addr.add _ _).block ≠ _; rw [add_block]; exact Kd.own_blk (Kd.R_ne HO_6.out q0.out (by decide))) | (dsimp only; exact Kd.own_blk (Kd.R_ne HO_6.out q0.out (by decide)))) _).trans (((cell_far (p := ⟨q6, _, none⟩) (by first | exact Kd.own_blk (Kd.R_ne HO_6.out q0.out (by decide)) | (rw [add_block]; exact Kd.own_blk (Kd.R_ne HO_6.out q0.out (by decide))) | (show (Addr.add _ _).block ≠ _; rw [add_block]; exact Kd.own_blk (Kd.R_ne HO_6.out q0.out (by decide))) | (dsimp only; exact Kd.own_blk (Kd.R_ne HO_6.out q0.out (by decide)))) _).trans (((cell_far (p := ⟨q6, _, none⟩) (by first | exact Kd.own_blk (Kd.R_ne HO_6.out q0.out (by decide)) | (rw [add_block]; exact Kd.own_blk (Kd.R_ne HO_6.out q0.out (by decide))) | (show (Addr.add _ _).block ≠ _; rw [add_block]; exact Kd.own_blk (Kd.R_ne HO_6.out q0.out (by decide))) | (dsimp only; exact Kd.own_blk (Kd.R_ne HO_6.out q0.out (by decide)))) _).trans (((cell_far (p := ⟨q6, _, none⟩) (by first | exact Kd.own_blk (Kd.R_ne HO_6.out q0.out (by decide)) | (rw [add_block]; exact Kd.own_blk (Kd.R_ne HO_6.out q0.out (by decide))) | (show (Addr.add _ _).block ≠ _; rw [add_block]; exact Kd.own_blk (Kd.R_ne HO_6.out q0.out (by decide))) | (dsimp only; exact Kd.own_blk (Kd.R_ne HO_6.out q0.out (by decide)))) _).trans (hHeld.2.2.2.2.2.2.1)))))))), ((cell_far (p := ⟨q6, _, none⟩) (by first | exact Kd.own_blk (Kd.R_ne HO_6.out q0.out (by decide)) | (rw [add_block]; exact Kd.own_blk (Kd.R_ne HO_6.out q0.out (by decide))) | (show (Addr.add _ _).block ≠ _; rw [add_block]; exact Kd.own_blk (Kd.R_ne HO_6.out q0.out (by decide))) | (dsimp only; exact Kd.own_blk (Kd.R_ne HO_6.out q0.out (by decide)))) _).trans (((cell_far (p := ⟨q6, _, none⟩) (by first | exact Kd.own_blk (Kd.R_ne HO_6.out q0.out (by decide)) | (rw [add_block]; exact Kd.own_blk (Kd.R_ne HO_6.out q0.out (by decide))) | (show (Addr.add _ _).block ≠ _; rw [add_block]; exact Kd.own_blk (Kd.R_ne HO_6.out q0.out (by decide))) | (dsimp only; exact Kd.own_blk (Kd.R_ne HO_6.out q0.out (by decide)))) _).trans (((cell_far (p := ⟨q6, _, none⟩) (by first | exact Kd.own_blk (Kd.R_ne HO_6.out q0.out (by decide)) | (rw [add_block]; exact Kd.own_blk (Kd.R_ne HO_6.out q0.out (by decide))) | (show (Addr.add _ _).block ≠ _; rw [add_block]; exact Kd.own_blk (Kd.R_ne HO_6.out q0.out (by decide))) | (dsimp only; exact Kd.own_blk (Kd.R_ne HO_6.out q0.out (by decide)))) _).trans (((cell_far (p := ⟨q6, _, none⟩) (by first | exact Kd.own_blk (Kd.R_ne HO_6.out q0.out (by decide)) | (rw [add_block]; exact Kd.own_blk (Kd.R_ne HO_6.out q0.out (by decide))) | (show (Addr.add _ _).block ≠ _; rw [add_block]; exact Kd.own_blk (Kd.R_ne HO_6.out q0.out (by decide))) | (dsimp only; exact Kd.own_blk (Kd.R_ne HO_6.out q0.out (by decide)))) _).trans (hHeld.2.2.2.2.2.2.2))))))))⟩ (fun hHeld => ?_)
                 clear hK K
                 refine done_ (done_of HT_.out (by kernel_rfl)) ?_
                 try go_wp2
                 go_loopg [12] kj16 (fun kq v12 w' => ∃ (x12_4 : Int), v12 = .int .i64 x12_4 ∧ Aside0 (torchonref06_Leading.l2 kq q1 q2 x7_2 x8_1 x9_2 x12_4 a0_0 a0_1 a0_2 a1_0 a1_1 a1_2 ((rd_T37 q1 x8_1).f0) ((rd_T37 q2 x9_2).f0) ((rd_T37 q1 x8_1).f1) ((rd_T37 q2 x9_2).f1) = some r) ∧ Aside0 (kq ≤ kj16) ∧ Aside0 (Kd.R k37 37 w' w.heap.size (fun k_ => some k_ ≠ ((.slice (some q9) q2.length jc) : Value).ownBlock) (.slice (some q8) q1.length qS) q1) ∧ Aside0 (Kd.R k37 37 w' w.heap.size (fun k_ => some k_ ≠ ((.slice (some q8) q1.length qS) : Value).ownBlock) (.slice (some q9) q2.length jc) q2) ∧ Aside0 (Kd.R k25 25 w' w.heap.size (fun k_ => k_ ≠ q6) u7 x7_2) ∧ Aside0 (w'.heap[qc]? = some (.cells #[.int .i64 a0_0, .int .i64 a0_1, .int .i64 a0_2] 23 (0, 0))) ∧ Aside0 (w'.heap[qd]? = some (.cells #[.int .i64 a1_0, .int .i64 a1_1, .int .i64 a1_2] 23 (0, 0))) ∧ Aside0 (w'.heap[q6]? = some (.cells #[.int .i64 ((rd_T37 q1 x8_1).f0), .int .i64 ((rd_T37 q2 x9_2).f0), .int .i64 ((rd_T37 q1 x8_1).f1), .int .i64 ((rd_T37 q2 x9_2).f1)] 25 (0, 0))) ∧ Aside0 (Below w.heap.size w w'))
                 case atStart => exact ⟨(0), (by first | rfl | (simp; done) | (simp [*]; done)), H', ⟨Nat.le_refl _⟩, ⟨by (with_reducible repeat (first | apply Kd.R_alloc | apply Kd.R_drewN | apply Kd.R_drew)); exact Kd.R_mono (Kd.R_far (p := ⟨q6, 3, none⟩) (Kd.R_far (p := ⟨q6, 2, none⟩) (Kd.R_far (p := ⟨q6, 1, none⟩) (Kd.R_far (p := ⟨q6, 0, none⟩) (Kd.R_types HO_5.out q0.out (by decide)) (fun _ hk => hk.2) (.int .i64 ((rd_T37 q1 x8_1).f0))) (fun _ hk => hk.2) (.int .i64 ((rd_T37 q2 x9_2).f0))) (fun _ hk => hk.2) (.int .i64 ((rd_T37 q1 x8_1).f1))) (fun _ hk => hk.2) (.int .i64 ((rd_T37 q2 x9_2).f1))) (fun _ hk => hk.1)⟩, ⟨by (with_reducible repeat (first | apply Kd.R_alloc | apply Kd.R_drewN | apply Kd.R_drew)); exact Kd.R_mono (Kd.R_far (p := ⟨q6, 3, none⟩) (Kd.R_far (p := ⟨q6, 2, none⟩) (Kd.R_far (p := ⟨q6, 1, none⟩) (Kd.R_far (p := ⟨q6, 0, none⟩) (Kd.R_types HO_6.out q0.out (by decide)) (fun _ hk => hk.2) (.int .i64 ((rd_T37 q1 x8_1).f0))) (fun _ hk => hk.2) (.int .i64 ((rd_T37 q2 x9_2).f0))) (fun _ hk => hk.2) (.int .i64 ((rd_T37 q1 x8_1).f1))) (fun _ hk => hk.2) (.int .i64 ((rd_T37 q2 x9_2).f1))) (fun _ hk => hk.1)⟩, ⟨by (with_reducible repeat (first | apply Kd.R_alloc | apply Kd.R_drewN | apply Kd.R_drew)); exact Kd.R_mono (Kd.R_far (p := ⟨q6, 3, none⟩) (Kd.R_far (p := ⟨q6, 2, none⟩) (Kd.R_far (p := ⟨q6, 1, none⟩) (Kd.R_far (p := ⟨q6, 0, none⟩) (Kd.R_mono HO_7.out (fun k_ hk => (⟨hk, hk.2⟩ : _ ∧ k_ ≠ q6))) (fun _ hk => hk.2) (.int .i64 ((rd_T37 q1 x8_1).f0))) (fun _ hk => hk.2) (.int .i64 ((rd_T37 q2 x9_2).f0))) (fun _ hk => hk.2) (.int .i64 ((rd_T37 q1 x8_1).f1))) (fun _ hk => hk.2) (.int .i64 ((rd_T37 q2 x9_2).f1))) (fun _ hk => hk.1.2)⟩, ⟨by (with_reducible repeat (first | refine blk_drewN ?_ _ | refine blk_drew ?_ | refine blk_alloc ?_ _)); refine blk_far ?_ qw.out _; (with_reducible repeat (first | refine blk_drewN ?_ _ | refine blk_drew ?_ | refine blk_alloc ?_ _)); refine blk_far ?_ qw.out _; (with_reducible repeat (first | refine blk_drewN ?_ _ | refine blk_drew ?_ | refine blk_alloc ?_ _)); refine blk_far ?_ qw.out _; (with_reducible repeat (first | refine blk_drewN ?_ _ | refine blk_drew ?_ | refine blk_alloc ?_ _)); refine blk_far ?_ qw.out _; (with_reducible repeat (first | refine blk_drewN ?_ _ | refine blk_drew ?_ | refine blk_alloc ?_ _)); exact q4.out⟩, ⟨by (with_reducible repeat (first | refine blk_drewN ?_ _ | refine blk_drew ?_ | refine blk_alloc ?_ _)); refine blk_far ?_ qx.out _; (with_reducible repeat (first | refine blk_drewN ?_ _ | refine blk_drew ?_ | refine blk_alloc ?_ _)); refine blk_far ?_ qx.out _; (with_reducible repeat (first | refine blk_drewN ?_ _ | refine blk_drew ?_ | refine blk_alloc ?_ _)); refine blk_far ?_ qx.out _; (with_reducible repeat (first | refine blk_drewN ?_ _ | refine blk_drew ?_ | refine blk_alloc ?_ _)); refine blk_far ?_ qx.out _; (with_reducible repeat (first | refine blk_drewN ?_ _ | refine blk_drew ?_ | refine blk_alloc ?_ _)); exact q5.out⟩, ⟨by (with_reducible repeat (first | refine blk_drewN ?_ _ | refine blk_drew ?_ | refine blk_alloc ?_ _)); refine blk_put (cs := #[.int .i64 ((rd_T37 q1 x8_1).f0), .int .i64 ((rd_T37 q2 x9_2).f0), .int .i64 ((rd_T37 q1 x8_1).f1), .int .i64 0]) ?_ 3 _ rfl; (with_reducible repeat (first | refine blk_drewN ?_ _ | refine blk_drew ?_ | refine blk_alloc ?_ _)); refine blk_put (cs := #[.int .i64 ((rd_T37 q1 x8_1).f0), .int .i64 ((rd_T37 q2 x9_2).f0), .int .i64 0, .int .i64 0]) ?_ 2 _ rfl; (with_reducible repeat (first | refine blk_drewN ?_ _ | refine blk_drew ?_ | refine blk_alloc ?_ _)); refine blk_put (cs := #[.int .i64 ((rd_T37 q1 x8_1).f0), .int .i64 0, .int .i64 0, .int .i64 0]) ?_ 1 _ rfl; (with_reducible repeat (first | refine blk_drewN ?_ _ | refine blk_drew ?_ | refine blk_alloc ?_ _)); refine blk_put (cs := #[.int .i64 0, .int .i64 0, .int .i64 0, .int .i64 0]) ?_ 0 _ rfl; (with_reducible repeat (first | refine blk_drewN ?_ _ | refine blk_drew ?_ | refine blk_alloc ?_ _)); exact q0.out⟩, ⟨bnow HB⟩⟩
                 case round =>
                  clear H'
                  try clear c2; try clear p2; try clear c3; try clear p3; try clear q3; try clear hx3; try clear c4; try clear p6; try clear c22; try clear qN; try clear jr; try clear c23; try clear js; try clear jt; try clear c30; try clear c32; try clear g6; try clear p32; try clear q32; try clear QJ; try clear c33; try clear g7; try clear p33; try clear q33; try clear QK; try clear c34; try clear g8; try clear c35; try clear g9; try clear qy; try clear qz; try clear qA; try clear qB; try clear jv; try clear jw; try clear jx; try clear jy; try clear jz; try clear jA; try clear jB; try clear jC; try clear p2; try clear p3; try clear qm; try clear qn; try clear jd; try clear je; try clear jf; try clear jg; try clear q3; try clear qo; try clear qp; try clear jh; try clear ji; try clear jj; try clear jk
                  obtain ⟨x12_4, rfl, HA, HK4, HO_5, HO_6, HO_7, q4, q5, q0, HB⟩ := hrel
                  cases gk with
                  | zero => exact absurd HA.out (by simp [torchonref06_Leading.l2])
                  | succ k4 =>
                   have H := HA.out
                   clear HA
                   simp only [torchonref06_Leading.l2] at H
                   by_cases c42 : x12_4 < (x7_2.length : Int)
                   ·rw [if_pos c42] at H
                    have ga : decide (x12_4 < (x7_2.length : Int)) = true := decide_eq_true c42
                    clear c42
                    by_cases c43 : 0 ≤ x12_4
                    ·rw [if_pos c43] at H
                     have gI : decide (0 ≤ x12_4) = true := decide_eq_true c43
                     clear c43
                     obtain ⟨jH, A44, H⟩ := ob H
                     by_cases c45 : jH = true
                     ·subst c45
                      have H1 : ((some (wrap64 (x12_4 + 1))).bind fun qW => (torchonref06_Leading.l2 k4 q1 q2 x7_2 x8_1 x9_2 qW a0_0 a0_1 a0_2 a1_0 a1_1 a1_2 ((rd_T37 q1 x8_1).f0) ((rd_T37 q2 x9_2).f0) ((rd_T37 q1 x8_1).f1) ((rd_T37 q2 x9_2).f1))) = some r := by rw [if_pos rfl] at H; exact H
                      clear H
                      have H := H1
                      clear H1
                      obtain ⟨qW, E460, H⟩ := oc H
                      have E46w : (IntKind.i64.wrap (x12_4 + 1)) = qW := (i64_w _).trans E460
                      have H' := Aside0.mk H
                      clear H
                      try go_wp2
                      replace HO_5 := Aside0.mk (Kd.R_drew HO_5.out)
                      replace HO_6 := Aside0.mk (Kd.R_drew HO_6.out)
                      replace HO_7 := Aside0.mk (Kd.R_drew HO_7.out)
                      replace q4 := bd q4
                      replace q5 := bd q5
                      replace q0 := bd q0
                      replace HB := bdn HB
                      obtain ⟨gp, gU, jK⟩ := Kd.R_slice HO_7.out
                      (first | subst jK | (injection jK with f1_ f2_ f3_; have f4_ := f1_.symm; have f5_ := f3_.symm; clear f1_ f2_ f3_; subst f4_; subst f5_))
                      have qO : 0 ≤ (x12_4 : Int) := of_decide_eq_true (by first | (with_reducible assumption) | assumption)
                      have qP : x12_4 < (x7_2.length : Int) := of_decide_eq_true (by first | (with_reducible assumption) | assumption)
                      obtain ⟨qa, ju, j6, j7, j8, j9⟩ := at_T25 (Kd.R_reads' HO_7.out).2.2 x12_4 qO qP
                      cases ju
                      replace qO := eq_true qO
                      replace qP := eq_true qP
                      refine start_ (n := 12) (S := fun w' => w'.cell? ⟨q6, 0, none⟩ = some (.int .i64 ((rd_T37 q1 x8_1).f0)) ∧ w'.cell? ⟨q6, 1, none⟩ = some (.int .i64 ((rd_T37 q2 x9_2).f0)) ∧ w'.cell? ⟨q6, 2, none⟩ = some (.int .i64 ((rd_T37 q1 x8_1).f1)) ∧ w'.cell? ⟨q6, 3, none⟩ = some (.int .i64 ((rd_T37 q2 x9_2).f1)) ∧ w'.cell? (qa.add ((x12_4).toNat * 4)) = some (.int .i64 ((rd_T25 x7_2 x12_4).f0)) ∧ w'.cell? ⟨(qa.add ((x12_4).toNat * 4)).block, (qa.add ((x12_4).toNat * 4)).off + 1, none⟩ = some (.int .i64 ((rd_T25 x7_2 x12_4).f1)) ∧ w'.cell? ⟨(qa.add ((x12_4).toNat * 4)).block, (qa.add ((x12_4).toNat * 4)).off + 2, none⟩ = some (.int .i64 ((rd_T25 x7_2 x12_4).f2)) ∧ w'.cell? ⟨(qa.add ((x12_4).toNat * 4)).block, (qa.add ((x12_4).toNat * 4)).off + 3, none⟩ = some (.int .i64 ((rd_T25 x7_2 x12_4).f3))) (ds := []) #[false, false, false, false, false, false, false, false, false, false, false, false] (by kernel_rfl) rfl rfl ⟨(blk_cell q0.out 0).trans rfl, (blk_cell q0.out 1).trans rfl, (blk_cell q0.out 2).trans rfl, (blk_cell q0.out 3).trans rfl, j6, j7, j8, j9⟩ (fun hHeld => ?_); refine with_tabW torchonref06_Leading.tab13 torchonref06_Leading.bits13 (fun HT_ HW_ => ?_)
                      generalize wr.drew = w47 at HO_5 HO_6 HO_7 q4 q5 q0 HB j6 j7 j8 j9 hHeld ⊢
                      refine pz 0 85 HT_ ?_
                      refine pz 1 86 HT_ ?_
                      refine pz 2 87 HT_ ?_
                      refine pz 3 88 HT_ ?_
                      refine pz 4 89 HT_ ?_
                      refine pz 5 90 HT_ ?_
                      refine pz 6 91 HT_ ?_
                      refine pz 7 92 HT_ ?_
                      refine tz 8 93 HT_ HW_ hHeld ?_
                      refine tz 9 94 HT_ HW_ hHeld ?_
                      refine one_ (i := 10) (N := some 95) #[true, true, true, true, true, true, true, true, true, true, true, false] rfl rfl (one_of HT_.out (by kernel_rfl)) (by decide) (fun K hK => ?_)
                      refine gs _ Try.func75 (torchonref06_Less.calls ((rd_T25 x7_2 x12_4).f0) ((rd_T25 x7_2 x12_4).f1) ((rd_T25 x7_2 x12_4).f2) ((rd_T25 x7_2 x12_4).f3) ((rd_T37 q1 x8_1).f0) ((rd_T37 q2 x9_2).f0) ((rd_T37 q1 x8_1).f1) ((rd_T37 q2 x9_2).f1) true _ A44.out) ?_
                      rintro e w49 ⟨rfl, hb⟩
                      have qY := (hb.cell (World.block_lt_of_cell? _ _ (hHeld.2.2.2.2.1))).trans (hHeld.2.2.2.2.1)
                      have qZ := (hb.cell (World.block_lt_of_cell? _ _ (hHeld.2.2.2.2.2.1))).trans (hHeld.2.2.2.2.2.1)
                      have qu := (hb.cell (World.block_lt_of_cell? _ _ (hHeld.2.2.2.2.2.2.1))).trans (hHeld.2.2.2.2.2.2.1)
                      have qv := (hb.cell (World.block_lt_of_cell? _ _ (hHeld.2.2.2.2.2.2.2))).trans (hHeld.2.2.2.2.2.2.2)
                      refine ⟨_, rfl, ?_⟩
                      have n0_ := Aside0.mk (Kd.R_below (by (with_reducible repeat (first | apply Kd.R_alloc | apply Kd.R_drewN | apply Kd.R_drew)); exact HO_5.out) hb)
                      have n1_ := Aside0.mk (Kd.R_below (by (with_reducible repeat (first | apply Kd.R_alloc | apply Kd.R_drewN | apply Kd.R_drew)); exact HO_6.out) hb)
                      have n2_ := Aside0.mk (Kd.R_below (by (with_reducible repeat (first | apply Kd.R_alloc | apply Kd.R_drewN | apply Kd.R_drew)); exact HO_7.out) hb)
                      have n3_ := bb q4 hb
                      have n4_ := bb q5 hb
                      have n5_ := bb q0 hb
                      have n6_ := bst HB hb
                      clear HO_5
                      clear HO_6
                      clear HO_7
                      clear q4
                      clear q5
                      clear q0
                      clear HB
                      have HO_5 := n0_
                      have HO_6 := n1_
                      have HO_7 := n2_
                      have q4 := n3_
                      have q5 := n4_
                      have q0 := n5_
                      have HB := n6_
                      clear n0_ n1_ n2_ n3_ n4_ n5_ n6_
                      (try clear hb)
                      (try clear hb2)
                      (try clear hk)
                      (try clear hi)
                      refine hK.out _ _ ⟨(blk_cell q0.out 0).trans rfl, (blk_cell q0.out 1).trans rfl, (blk_cell q0.out 2).trans rfl, (blk_cell q0.out 3).trans rfl, qY, qZ, qu, qv⟩ (fun hHeld => ?_)
                      clear hK K
                      refine norm_ (a' := ?_) ?_ ?_
                      rotate_left
                      ·show Act.put _ (some 95) _ = _
                       simp only [Act.put, List.setIfInBounds_toArray, List.set_cons_zero, List.set_cons_succ, i64_w, i32_w]
                       rfl
                      refine pz 11 96 HT_ ?_
                      refine done_ (done_of HT_.out (by kernel_rfl)) ?_
                      try go_wp2
                      go_roundg k4
                      case measure => have := HK1.out; have := HK2.out; have := HJ16.out; have := HK4.out; omega
                      case rel => exact ⟨(qW), (by first | rfl | (simp; done) | (simp [*]; done)), H', ⟨by have := HK1.out; have := HK2.out; have := HJ16.out; have := HK4.out; omega⟩, ⟨by (with_reducible repeat (first | apply Kd.R_alloc | apply Kd.R_drewN | apply Kd.R_drew)); exact HO_5.out⟩, ⟨by (with_reducible repeat (first | apply Kd.R_alloc | apply Kd.R_drewN | apply Kd.R_drew)); exact HO_6.out⟩, ⟨by (with_reducible repeat (first | apply Kd.R_alloc | apply Kd.R_drewN | apply Kd.R_drew)); exact HO_7.out⟩, ⟨pk q4⟩, ⟨pk q5⟩, ⟨pk q0⟩, ⟨bnow HB⟩⟩
                     ·replace c45 := Bool.eq_false_iff.mpr c45
                      subst c45
                      have H1 : ((some (([] : List (S25)) : List (S25))).bind fun qq => (if x12_4 ≤ (x7_2.length : Int) then ((some (x7_2.take (x12_4 : Int).toNat : List (S25))).bind fun qe => (if qq.length + qe.length < 4398046511104 then ((some (qq ++ qe : List (S25))).bind fun qj => (if qj.length < 4398046511104 then ((some (qj ++ [(⟨((rd_T37 q1 x8_1).f0), ((rd_T37 q2 x9_2).f0), ((rd_T37 q1 x8_1).f1), ((rd_T37 q2 x9_2).f1)⟩ : S25)] : List (S25))).bind fun qf => ((some (x7_2.drop (x12_4 : Int).toNat : List (S25))).bind fun q7 => (if qf.length + q7.length < 4398046511104 then ((some (wrap64 (x9_2 + 1))).bind fun qi => (torchonref06_Leading.l1 k4 q1 q2 (qf ++ q7) x8_1 qi a0_0 a0_1 a0_2 a1_0 a1_1 a1_2)) else (none)))) else (none))) else (none))) else (none))) = some r := by rw [if_neg (show ¬ (false = true) by decide)] at H; exact H
                      clear H
                      have H := H1
                      clear H1
                      obtain ⟨qq, hy339⟩ : ∃ y_ : List (S25), y_ = (([] : List (S25))) := ⟨_, rfl⟩
                      replace H : (if x12_4 ≤ (x7_2.length : Int) then ((some (x7_2.take (x12_4 : Int).toNat : List (S25))).bind fun qe => (if qq.length + qe.length < 4398046511104 then ((some (qq ++ qe : List (S25))).bind fun qj => (if qj.length < 4398046511104 then ((some (qj ++ [(⟨((rd_T37 q1 x8_1).f0), ((rd_T37 q2 x9_2).f0), ((rd_T37 q1 x8_1).f1), ((rd_T37 q2 x9_2).f1)⟩ : S25)] : List (S25))).bind fun qf => ((some (x7_2.drop (x12_4 : Int).toNat : List (S25))).bind fun q7 => (if qf.length + q7.length < 4398046511104 then ((some (wrap64 (x9_2 + 1))).bind fun qi => (torchonref06_Leading.l1 k4 q1 q2 (qf ++ q7) x8_1 qi a0_0 a0_1 a0_2 a1_0 a1_1 a1_2)) else (none)))) else (none))) else (none))) else (none)) = some r := by first | (rw [hy339]; with_reducible exact H) | (have H2_ := (Option.bind_some _ _).symm.trans H; rw [hy339]; with_reducible exact H2_) | (have H2_ := (Option.bind_some _ _).symm.trans H; with_reducible exact H2_) | with_reducible exact H | (rw [hy339]; exact H) | exact H
                      have Ny339 := Aside0.mk hy339
                      clear hy339
                      have gJ := eq_true (of_decide_eq_true (by first | (with_reducible assumption) | assumption) : 0 ≤ x12_4)
                      by_cases c51 : x12_4 ≤ (x7_2.length : Int)
                      ·rw [if_pos c51] at H
                       have gK := eq_true c51
                       have gL : decide (x12_4 ≤ (x7_2.length : Int)) = true := decide_eq_true c51
                       clear c51
                       obtain ⟨qe, hy342⟩ : ∃ y_ : List (S25), y_ = (x7_2.take (x12_4 : Int).toNat) := ⟨_, rfl⟩
                       replace H : (if qq.length + qe.length < 4398046511104 then ((some (qq ++ qe : List (S25))).bind fun qj => (if qj.length < 4398046511104 then ((some (qj ++ [(⟨((rd_T37 q1 x8_1).f0), ((rd_T37 q2 x9_2).f0), ((rd_T37 q1 x8_1).f1), ((rd_T37 q2 x9_2).f1)⟩ : S25)] : List (S25))).bind fun qf => ((some (x7_2.drop (x12_4 : Int).toNat : List (S25))).bind fun q7 => (if qf.length + q7.length < 4398046511104 then ((some (wrap64 (x9_2 + 1))).bind fun qi => (torchonref06_Leading.l1 k4 q1 q2 (qf ++ q7) x8_1 qi a0_0 a0_1 a0_2 a1_0 a1_1 a1_2)) else (none)))) else (none))) else (none)) = some r := by first | (rw [hy342]; with_reducible exact H) | (have H2_ := (Option.bind_some _ _).symm.trans H; rw [hy342]; with_reducible exact H2_) | (have H2_ := (Option.bind_some _ _).symm.trans H; with_reducible exact H2_) | with_reducible exact H | (rw [hy342]; exact H) | exact H
                       have Ny342 := Aside0.mk hy342
                       clear hy342
                       by_cases c52 : qq.length + qe.length < 4398046511104
                       ·rw [if_pos c52] at H
                        have LMc52 := Aside0.mk c52
                        clear c52
                        obtain ⟨qj, hy346⟩ : ∃ y_ : List (S25), y_ = (qq ++ qe) := ⟨_, rfl⟩
                        replace H : (if qj.length < 4398046511104 then ((some (qj ++ [(⟨((rd_T37 q1 x8_1).f0), ((rd_T37 q2 x9_2).f0), ((rd_T37 q1 x8_1).f1), ((rd_T37 q2 x9_2).f1)⟩ : S25)] : List (S25))).bind fun qf => ((some (x7_2.drop (x12_4 : Int).toNat : List (S25))).bind fun q7 => (if qf.length + q7.length < 4398046511104 then ((some (wrap64 (x9_2 + 1))).bind fun qi => (torchonref06_Leading.l1 k4 q1 q2 (qf ++ q7) x8_1 qi a0_0 a0_1 a0_2 a1_0 a1_1 a1_2)) else (none)))) else (none)) = some r := by first | (rw [hy346]; with_reducible exact H) | (have H2_ := (Option.bind_some _ _).symm.trans H; rw [hy346]; with_reducible exact H2_) | (have H2_ := (Option.bind_some _ _).symm.trans H; with_reducible exact H2_) | with_reducible exact H | (rw [hy346]; exact H) | exact H
                        have Ny346 := Aside0.mk hy346
                        clear hy346
                        by_cases c53 : qj.length < 4398046511104
                        ·rw [if_pos c53] at H
                         have LMc53 := Aside0.mk c53
                         clear c53
                         obtain ⟨qf, hy349⟩ : ∃ y_ : List (S25), y_ = (qj ++ [(⟨((rd_T37 q1 x8_1).f0), ((rd_T37 q2 x9_2).f0), ((rd_T37 q1 x8_1).f1), ((rd_T37 q2 x9_2).f1)⟩ : S25)]) := ⟨_, rfl⟩
                         replace H : ((some (x7_2.drop (x12_4 : Int).toNat : List (S25))).bind fun q7 => (if qf.length + q7.length < 4398046511104 then ((some (wrap64 (x9_2 + 1))).bind fun qi => (torchonref06_Leading.l1 k4 q1 q2 (qf ++ q7) x8_1 qi a0_0 a0_1 a0_2 a1_0 a1_1 a1_2)) else (none))) = some r := by first | (rw [hy349]; with_reducible exact H) | (have H2_ := (Option.bind_some _ _).symm.trans H; rw [hy349]; with_reducible exact H2_) | (have H2_ := (Option.bind_some _ _).symm.trans H; with_reducible exact H2_) | with_reducible exact H | (rw [hy349]; exact H) | exact H
                         have Ny349 := Aside0.mk hy349
                         clear hy349
                         have gM := eq_true (of_decide_eq_true (by first | (with_reducible assumption) | assumption) : 0 ≤ x12_4)
                         have gN := eq_true (of_decide_eq_true (by first | (with_reducible assumption) | assumption) : x12_4 ≤ (x7_2.length : Int))
                         obtain ⟨q7, hy352⟩ : ∃ y_ : List (S25), y_ = (x7_2.drop (x12_4 : Int).toNat) := ⟨_, rfl⟩
                         replace H : (if qf.length + q7.length < 4398046511104 then ((some (wrap64 (x9_2 + 1))).bind fun qi => (torchonref06_Leading.l1 k4 q1 q2 (qf ++ q7) x8_1 qi a0_0 a0_1 a0_2 a1_0 a1_1 a1_2)) else (none)) = some r := by first | (rw [hy352]; with_reducible exact H) | (have H2_ := (Option.bind_some _ _).symm.trans H; rw [hy352]; with_reducible exact H2_) | (have H2_ := (Option.bind_some _ _).symm.trans H; with_reducible exact H2_) | with_reducible exact H | (rw [hy352]; exact H) | exact H
                         have Ny352 := Aside0.mk hy352
                         clear hy352
                         by_cases c56 : qf.length + q7.length < 4398046511104
                         ·rw [if_pos c56] at H
                          have LMc56 := Aside0.mk c56
                          clear c56
                          obtain ⟨jU, hy356⟩ : ∃ y_ : List (S25), y_ = (qf ++ q7) := ⟨_, rfl⟩
                          replace H : ((some (wrap64 (x9_2 + 1))).bind fun qi => (torchonref06_Leading.l1 k4 q1 q2 jU x8_1 qi a0_0 a0_1 a0_2 a1_0 a1_1 a1_2)) = some r := by first | (rw [hy356]; with_reducible exact H) | (have H2_ := (Option.bind_some _ _).symm.trans H; rw [hy356]; with_reducible exact H2_) | (have H2_ := (Option.bind_some _ _).symm.trans H; with_reducible exact H2_) | with_reducible exact H | (rw [hy356]; exact H) | exact H
                          have Ny356 := Aside0.mk hy356
                          clear hy356
                          obtain ⟨qi, E570, H⟩ := oc H
                          have E57w : (IntKind.i64.wrap (x9_2 + 1)) = qi := (i64_w _).trans E570
                          have H' := Aside0.mk H
                          clear H
                          try go_wp2
                          replace HO_5 := Aside0.mk (Kd.R_drew HO_5.out)
                          replace HO_6 := Aside0.mk (Kd.R_drew HO_6.out)
                          replace HO_7 := Aside0.mk (Kd.R_drew HO_7.out)
                          replace q4 := bd q4
                          replace q5 := bd q5
                          replace q0 := bd q0
                          replace HB := bdn HB
                          obtain ⟨gq, qs, jL⟩ := Kd.R_slice HO_7.out
                          (first | subst jL | (injection jL with f1_ f2_ f3_; have f4_ := f1_.symm; have f5_ := f3_.symm; clear f1_ f2_ f3_; subst f4_; subst f5_))
                          have qO : 0 ≤ (x12_4 : Int) := of_decide_eq_true (by first | (with_reducible assumption) | assumption)
                          have qP : x12_4 < (x7_2.length : Int) := of_decide_eq_true (by first | (with_reducible assumption) | assumption)
                          obtain ⟨qa, ju, j6, j7, j8, j9⟩ := at_T25 (Kd.R_reads' HO_7.out).2.2 x12_4 qO qP
                          cases ju
                          replace qO := eq_true qO
                          replace qP := eq_true qP
                          refine start_ (n := 12) (S := fun w' => w'.cell? ⟨q6, 0, none⟩ = some (.int .i64 ((rd_T37 q1 x8_1).f0)) ∧ w'.cell? ⟨q6, 1, none⟩ = some (.int .i64 ((rd_T37 q2 x9_2).f0)) ∧ w'.cell? ⟨q6, 2, none⟩ = some (.int .i64 ((rd_T37 q1 x8_1).f1)) ∧ w'.cell? ⟨q6, 3, none⟩ = some (.int .i64 ((rd_T37 q2 x9_2).f1)) ∧ w'.cell? (qa.add ((x12_4).toNat * 4)) = some (.int .i64 ((rd_T25 x7_2 x12_4).f0)) ∧ w'.cell? ⟨(qa.add ((x12_4).toNat * 4)).block, (qa.add ((x12_4).toNat * 4)).off + 1, none⟩ = some (.int .i64 ((rd_T25 x7_2 x12_4).f1)) ∧ w'.cell? ⟨(qa.add ((x12_4).toNat * 4)).block, (qa.add ((x12_4).toNat * 4)).off + 2, none⟩ = some (.int .i64 ((rd_T25 x7_2 x12_4).f2)) ∧ w'.cell? ⟨(qa.add ((x12_4).toNat * 4)).block, (qa.add ((x12_4).toNat * 4)).off + 3, none⟩ = some (.int .i64 ((rd_T25 x7_2 x12_4).f3))) (ds := []) #[false, false, false, false, false, false, false, false, false, false, false, false] (by kernel_rfl) rfl rfl ⟨(blk_cell q0.out 0).trans rfl, (blk_cell q0.out 1).trans rfl, (blk_cell q0.out 2).trans rfl, (blk_cell q0.out 3).trans rfl, j6, j7, j8, j9⟩ (fun hHeld => ?_); refine with_tabW torchonref06_Leading.tab13 torchonref06_Leading.bits13 (fun HT_ HW_ => ?_)
                          generalize wr.drew = w58 at HO_5 HO_6 HO_7 q4 q5 q0 HB j6 j7 j8 j9 hHeld ⊢
                          refine pz 0 85 HT_ ?_
                          refine pz 1 86 HT_ ?_
                          refine pz 2 87 HT_ ?_
                          refine pz 3 88 HT_ ?_
                          refine pz 4 89 HT_ ?_
                          refine pz 5 90 HT_ ?_
                          refine pz 6 91 HT_ ?_
                          refine pz 7 92 HT_ ?_
                          refine tz 8 93 HT_ HW_ hHeld ?_
                          refine tz 9 94 HT_ HW_ hHeld ?_
                          refine one_ (i := 10) (N := some 95) #[true, true, true, true, true, true, true, true, true, true, true, false] rfl rfl (one_of HT_.out (by kernel_rfl)) (by decide) (fun K hK => ?_)
                          refine gs _ Try.func75 (torchonref06_Less.calls ((rd_T25 x7_2 x12_4).f0) ((rd_T25 x7_2 x12_4).f1) ((rd_T25 x7_2 x12_4).f2) ((rd_T25 x7_2 x12_4).f3) ((rd_T37 q1 x8_1).f0) ((rd_T37 q2 x9_2).f0) ((rd_T37 q1 x8_1).f1) ((rd_T37 q2 x9_2).f1) false _ A44.out) ?_
                          rintro e w60 ⟨rfl, hb⟩
                          have qY := (hb.cell (World.block_lt_of_cell? _ _ (hHeld.2.2.2.2.1))).trans (hHeld.2.2.2.2.1)
                          have qZ := (hb.cell (World.block_lt_of_cell? _ _ (hHeld.2.2.2.2.2.1))).trans (hHeld.2.2.2.2.2.1)
                          have qu := (hb.cell (World.block_lt_of_cell? _ _ (hHeld.2.2.2.2.2.2.1))).trans (hHeld.2.2.2.2.2.2.1)
                          have qv := (hb.cell (World.block_lt_of_cell? _ _ (hHeld.2.2.2.2.2.2.2))).trans (hHeld.2.2.2.2.2.2.2)
                          refine ⟨_, rfl, ?_⟩
                          have n0_ := Aside0.mk (Kd.R_below (by (with_reducible repeat (first | apply Kd.R_alloc | apply Kd.R_drewN | apply Kd.R_drew)); exact HO_5.out) hb)
                          have n1_ := Aside0.mk (Kd.R_below (by (with_reducible repeat (first | apply Kd.R_alloc | apply Kd.R_drewN | apply Kd.R_drew)); exact HO_6.out) hb)
                          have n2_ := Aside0.mk (Kd.R_below (by (with_reducible repeat (first | apply Kd.R_alloc | apply Kd.R_drewN | apply Kd.R_drew)); exact HO_7.out) hb)
                          have n3_ := bb q4 hb
                          have n4_ := bb q5 hb
                          have n5_ := bb q0 hb
                          have n6_ := bst HB hb
                          clear HO_5
                          clear HO_6
                          clear HO_7
                          clear q4
                          clear q5
                          clear q0
                          clear HB
                          have HO_5 := n0_
                          have HO_6 := n1_
                          have HO_7 := n2_
                          have q4 := n3_
                          have q5 := n4_
                          have q0 := n5_
                          have HB := n6_
                          clear n0_ n1_ n2_ n3_ n4_ n5_ n6_
                          (try clear hb)
                          (try clear hb2)
                          (try clear hk)
                          (try clear hi)
                          refine hK.out _ _ ⟨(blk_cell q0.out 0).trans rfl, (blk_cell q0.out 1).trans rfl, (blk_cell q0.out 2).trans rfl, (blk_cell q0.out 3).trans rfl, qY, qZ, qu, qv⟩ (fun hHeld => ?_)
                          clear hK K
                          refine norm_ (a' := ?_) ?_ ?_
                          rotate_left
                          ·show Act.put _ (some 95) _ = _
                           simp only [Act.put, List.setIfInBounds_toArray, List.set_cons_zero, List.set_cons_succ, i64_w, i32_w]
                           rfl
                          refine pz 11 96 HT_ ?_
                          refine done_ (done_of HT_.out (by kernel_rfl)) ?_
                          try go_wp2_with (first | ((with_reducible refine gate_dst (N := 99) rfl ?_); refine Kd.R_lit k25 _ 25 ?hg (N := 99) ?hd (xs := ([] : List (S25))) (inner := []) (ok := fun _ => True) (okp := fun _ => True) ?hr ?hp (fun _ hk => hk) trivial (Below.refl _ _) (Nat.le_refl _) (by simp) ?_; (case hd => rfl); (case hg => rfl); (case hr => first | (go_simp; done) | (go_simp; rfl)); (case hp => exact (Reps.none _ _)); intro v340 w61 qT hb hg_ hnew_; clear hg_ hnew_; (first | rw [← Ny339.out] at qT | (simp only [Int.reduceToNat] at qT; rw [← Ny339.out] at qT)); have qH := Aside0.mk (Kd.R_lower (Kd.R_newB (Kd.R_new' qT (Kd.R_lt (by (with_reducible repeat (first | apply Kd.R_alloc | apply Kd.R_drewN | apply Kd.R_drew)); exact HO_7.out))) (g := q6) (o := .cells #[.int .i64 ((rd_T37 q1 x8_1).f0), .int .i64 ((rd_T37 q2 x9_2).f0), .int .i64 ((rd_T37 q1 x8_1).f1), .int .i64 ((rd_T37 q2 x9_2).f1)] 25 (0, 0)) (pk q0)) (below_size (bnow HB))); replace HO_5 := Aside0.mk (Kd.R_below (by (with_reducible repeat (first | apply Kd.R_alloc | apply Kd.R_drewN | apply Kd.R_drew)); exact HO_5.out) hb); replace HO_6 := Aside0.mk (Kd.R_below (by (with_reducible repeat (first | apply Kd.R_alloc | apply Kd.R_drewN | apply Kd.R_drew)); exact HO_6.out) hb); replace HO_7 := Aside0.mk (Kd.R_elder' (by (with_reducible repeat (first | apply Kd.R_alloc | apply Kd.R_drewN | apply Kd.R_drew)); exact HO_7.out) (Kd.R_base qT) hb); replace q4 := bb q4 hb; replace q5 := bb q5 hb; replace q0 := bb q0 hb; replace HB := bst HB hb; clear hb qT; have q63 : (x12_4 : Int) ≤ ((x7_2.length : Int) : Int) := of_decide_eq_true (by first | (with_reducible assumption) | assumption); obtain ⟨i063, hi063, _, hsz63, _⟩ := info_parts info25; have hroom63 : x7_2.length ≤ qs := (Kd.R_reads' HO_7.out).2.1; have hC63 : Kd.C k25 _ (some qa) x7_2.length x7_2 := (Kd.R_reads' HO_7.out).2.2; have hcut63 := cut_to (P := Try.prog) 48 25 .i64 Try.underlying48 hi063 (some qa) x7_2.length qs x12_4 (of_decide_eq_true (by first | (with_reducible assumption) | assumption)) q63 hroom63; have hr63 := Kd.C_take (m := (x12_4 : Int).toNat) hC63 (by omega); have hy63 : qe.length = (x12_4 : Int).toNat := (by rw [Ny342.out, List.length_take]; omega); rw [← Ny342.out] at hr63; rw [← hy63] at hcut63; have qF := Aside0.mk hr63; have gz := Aside0.mk (show qe.length ≤ qs from by omega); clear hr63 hC63 hroom63 hi063 hsz63; have KY63 := Aside0.mk hy63; clear hy63; have KL63 := Aside0.mk (show (x12_4 : Int).toNat ≤ x7_2.length from by omega); replace q63 := eq_true q63) | ((with_reducible refine gate_builtin (b := .append) (xs := #[.tmp 99, .tmp 102]) rfl ?_); at_builtin; refine Kd.R_append_rows k25 (w0 := w) w.heap.size rfl (.tmp 99) (.tmp 102) 48 25 (.agg #[(.int .i64 0), (.int .i64 0), (.int .i64 0), (.int .i64 0)]) 32 rfl Try.underlying48 info25 rfl (by decide) (by omega) v340 qq qe _ _ _ (fun k_ => some k_ ≠ (.slice (some qa) x7_2.length qs : Value).ownBlock ∧ k_ ≠ q6) (fun _ => False) rfl rfl ?aO ?aR (fun _ _ h => h) (fun _ h => h.elim) ?aF ?aB ?aS ?aL ?_; (case aR => repeat (first | exact (by repeat (first | (with_reducible exact qF.out) | (with_reducible refine Kd.C_alloc ?_ _) | (with_reducible refine Kd.C_drewN ?_ _) | (with_reducible refine Kd.C_drew ?_) | exact qF.out)) | (with_reducible refine Kd.C_alloc ?_ _) | (with_reducible refine Kd.C_drewN ?_ _) | (with_reducible refine Kd.C_drew ?_))); (case aB => exact (bnow HB)); (case aF => exact (fun k_ hk => ⟨Kd.fresh' (Kd.R_lt (by (with_reducible repeat (first | apply Kd.R_alloc | apply Kd.R_drewN | apply Kd.R_drew)); exact HO_7.out)) k_ hk, Kd.freshB (g := q6) (o := .cells #[.int .i64 ((rd_T37 q1 x8_1).f0), .int .i64 ((rd_T37 q2 x9_2).f0), .int .i64 ((rd_T37 q1 x8_1).f1), .int .i64 ((rd_T37 q2 x9_2).f1)] 25 (0, 0)) (pk q0) k_ hk⟩)); (case aO => exact (by (with_reducible repeat (first | apply Kd.R_alloc | apply Kd.R_drewN | apply Kd.R_drew)); exact Kd.R_mono qH.out (fun _ hk => ⟨hk.1.2, hk.2⟩))); (case aS => exact (below_size (bnow HB))); (case aL => have := LMc52.out; omega); intro v347 w64 ho hb hg hat; rw [← Ny346.out] at ho; have n0_ := Aside0.mk (Kd.R_over' (by (with_reducible repeat (first | apply Kd.R_alloc | apply Kd.R_drewN | apply Kd.R_drew)); exact HO_5.out) (Kd.R_typed (by (with_reducible repeat (first | apply Kd.R_alloc | apply Kd.R_drewN | apply Kd.R_drew)); exact qH.out)) (by decide) hg); have n1_ := Aside0.mk (Kd.R_over' (by (with_reducible repeat (first | apply Kd.R_alloc | apply Kd.R_drewN | apply Kd.R_drew)); exact HO_6.out) (Kd.R_typed (by (with_reducible repeat (first | apply Kd.R_alloc | apply Kd.R_drewN | apply Kd.R_drew)); exact qH.out)) (by decide) hg); have n2_ := Aside0.mk (Kd.R_after (ok := (fun k_ => k_ ≠ q6)) (by (with_reducible repeat (first | apply Kd.R_alloc | apply Kd.R_drewN | apply Kd.R_drew)); exact HO_7.out) hg hat); have n3_ := Aside0.mk (blk_grown (g := qc) (o := .cells #[.int .i64 a0_0, .int .i64 a0_1, .int .i64 a0_2] 23 (0, 0)) (pk q4) hg (Kd.R_ne qH.out q4.out (by decide))); have n4_ := Aside0.mk (blk_grown (g := qd) (o := .cells #[.int .i64 a1_0, .int .i64 a1_1, .int .i64 a1_2] 23 (0, 0)) (pk q5) hg (Kd.R_ne qH.out q5.out (by decide))); have n5_ := Aside0.mk (blk_grown (g := q6) (o := .cells #[.int .i64 ((rd_T37 q1 x8_1).f0), .int .i64 ((rd_T37 q2 x9_2).f0), .int .i64 ((rd_T37 q1 x8_1).f1), .int .i64 ((rd_T37 q2 x9_2).f1)] 25 (0, 0)) (pk q0) hg (Kd.R_away qH.out (fun _ hk => hk.2))); have n6_ := Aside0.mk (hb); have n7_ := Aside0.mk ((show Kd.C k25 w64 (some qa) qe.length qe from by rw [Ny342.out]; exact Kd.C_take (m := (x12_4 : Int).toNat) ((Kd.R_reads' (Kd.R_after (ok := (fun k_ => k_ ≠ q6)) (by (with_reducible repeat (first | apply Kd.R_alloc | apply Kd.R_drewN | apply Kd.R_drew)); exact HO_7.out) hg hat)).2.2) KL63.out)); have n8_ := Aside0.mk (ho); clear HO_5; clear HO_6; clear HO_7; clear q4; clear q5; clear q0; clear HB; clear qF; clear qH; have HO_5 := n0_; have HO_6 := n1_; have HO_7 := n2_; have q4 := n3_; have q5 := n4_; have q0 := n5_; have HB := n6_; have qF := n7_; have qI := n8_; clear n0_ n1_ n2_ n3_ n4_ n5_ n6_ n7_ n8_; clear ho hb hg hat; have Qp := qQ.out; have Qt := qw.out; have Qq := qR.out; have Qu := qx.out; have ⟨gX, gY, gZ, Q0, Q9, Qa, Qb, Qc⟩ := cf4 q0) | ((with_reducible refine gate_builtin (b := .append) (xs := #[.tmp 104, .tmp 106]) rfl ?_); at_builtin; refine Kd.R_append k25 (w0 := w) w.heap.size rfl (.tmp 104) (.tmp 106) 48 25 (.agg #[(.int .i64 0), (.int .i64 0), (.int .i64 0), (.int .i64 0)]) 32 rfl Try.underlying48 info25 rfl (by decide) (by omega) v347 qj (⟨((rd_T37 q1 x8_1).f0), ((rd_T37 q2 x9_2).f0), ((rd_T37 q1 x8_1).f1), ((rd_T37 q2 x9_2).f1)⟩ : S25) [.int .i64 ((rd_T37 q1 x8_1).f0), .int .i64 ((rd_T37 q2 x9_2).f0), .int .i64 ((rd_T37 q1 x8_1).f1), .int .i64 ((rd_T37 q2 x9_2).f1)] (fun k_ => some k_ ≠ (.slice (some qa) x7_2.length qs : Value).ownBlock ∧ k_ ≠ q6) (fun _ => False) rfl rfl ?aP (fun _ hk => hk.elim) ?aF ?aO ?aB ?aS ?aL ?_; (case aP => exact k25_mkM _ _ _ (⟨((rd_T37 q1 x8_1).f0), ((rd_T37 q2 x9_2).f0), ((rd_T37 q1 x8_1).f1), ((rd_T37 q2 x9_2).f1)⟩ : S25)); (case aB => exact (bnow HB)); (case aF => exact (fun k_ hk => ⟨Kd.fresh' (Kd.R_lt (by (with_reducible repeat (first | apply Kd.R_alloc | apply Kd.R_drewN | apply Kd.R_drew)); exact HO_7.out)) k_ hk, Kd.freshB (g := q6) (o := .cells #[.int .i64 ((rd_T37 q1 x8_1).f0), .int .i64 ((rd_T37 q2 x9_2).f0), .int .i64 ((rd_T37 q1 x8_1).f1), .int .i64 ((rd_T37 q2 x9_2).f1)] 25 (0, 0)) (pk q0) k_ hk⟩)); (case aO => exact (by (with_reducible repeat (first | apply Kd.R_alloc | apply Kd.R_drewN | apply Kd.R_drew)); exact qI.out)); (case aS => exact (below_size (bnow HB))); (case aL => have := LMc53.out; omega); intro v350 w68 ho hb hg hat; rw [← Ny349.out] at ho; have n0_ := Aside0.mk (Kd.R_over' (by (with_reducible repeat (first | apply Kd.R_alloc | apply Kd.R_drewN | apply Kd.R_drew)); exact HO_5.out) (Kd.R_typed (by (with_reducible repeat (first | apply Kd.R_alloc | apply Kd.R_drewN | apply Kd.R_drew)); exact qI.out)) (by decide) hg); have n1_ := Aside0.mk (Kd.R_over' (by (with_reducible repeat (first | apply Kd.R_alloc | apply Kd.R_drewN | apply Kd.R_drew)); exact HO_6.out) (Kd.R_typed (by (with_reducible repeat (first | apply Kd.R_alloc | apply Kd.R_drewN | apply Kd.R_drew)); exact qI.out)) (by decide) hg); have n2_ := Aside0.mk (Kd.R_after (ok := (fun k_ => k_ ≠ q6)) (by (with_reducible repeat (first | apply Kd.R_alloc | apply Kd.R_drewN | apply Kd.R_drew)); exact HO_7.out) hg hat); have n3_ := Aside0.mk (blk_grown (g := qc) (o := .cells #[.int .i64 a0_0, .int .i64 a0_1, .int .i64 a0_2] 23 (0, 0)) (pk q4) hg (Kd.R_ne qI.out q4.out (by decide))); have n4_ := Aside0.mk (blk_grown (g := qd) (o := .cells #[.int .i64 a1_0, .int .i64 a1_1, .int .i64 a1_2] 23 (0, 0)) (pk q5) hg (Kd.R_ne qI.out q5.out (by decide))); have n5_ := Aside0.mk (blk_grown (g := q6) (o := .cells #[.int .i64 ((rd_T37 q1 x8_1).f0), .int .i64 ((rd_T37 q2 x9_2).f0), .int .i64 ((rd_T37 q1 x8_1).f1), .int .i64 ((rd_T37 q2 x9_2).f1)] 25 (0, 0)) (pk q0) hg (Kd.R_away qI.out (fun _ hk => hk.2))); have n6_ := Aside0.mk (hb); have n7_ := Aside0.mk ((show Kd.C k25 w68 (some qa) qe.length qe from by rw [Ny342.out]; exact Kd.C_take (m := (x12_4 : Int).toNat) ((Kd.R_reads' (Kd.R_after (ok := (fun k_ => k_ ≠ q6)) (by (with_reducible repeat (first | apply Kd.R_alloc | apply Kd.R_drewN | apply Kd.R_drew)); exact HO_7.out) hg hat)).2.2) KL63.out)); have n8_ := Aside0.mk (ho); clear HO_5; clear HO_6; clear HO_7; clear q4; clear q5; clear q0; clear HB; clear qF; clear qI; have HO_5 := n0_; have HO_6 := n1_; have HO_7 := n2_; have q4 := n3_; have q5 := n4_; have q0 := n5_; have HB := n6_; have qF := n7_; have qJ := n8_; clear n0_ n1_ n2_ n3_ n4_ n5_ n6_ n7_ n8_; clear ho hb hg hat; have q69 : (x12_4 : Int) ≤ ((x7_2.length : Int) : Int) := of_decide_eq_true (by first | (with_reducible assumption) | assumption); obtain ⟨i069, hi069, _, hsz69, _⟩ := info_parts info25; have hroom69 : x7_2.length ≤ qs := (Kd.R_reads' HO_7.out).2.1; have hC69 : Kd.C k25 _ (some qa) x7_2.length x7_2 := (Kd.R_reads' HO_7.out).2.2; have gm : (0 : Int) ≤ (x12_4 : Int) := of_decide_eq_true (by first | (with_reducible assumption) | assumption); have hcut69 := cut_from (P := Try.prog) 48 25 .i64 Try.underlying48 hi069 4 hsz69 (some qa) x7_2.length qs x12_4 gm q69; have hr69 := Kd.C_drop (m := (x12_4 : Int).toNat) (c := qs) hC69 (by omega) hroom69; obtain ⟨A69, hA69⟩ : ∃ A1, A1 = (if qs = (x12_4 : Int).toNat then (some qa) else ((some qa) : Option Addr).map (·.add ((x12_4 : Int).toNat * 4))) := ⟨_, rfl⟩; obtain ⟨c69, hc69⟩ : ∃ c1, c1 = qs - (x12_4 : Int).toNat := ⟨_, rfl⟩; have hy69 : q7.length = x7_2.length - (x12_4 : Int).toNat := (by rw [Ny352.out, List.length_drop] <;> omega); rw [show (x7_2).drop (x12_4 : Int).toNat = q7 from Ny352.out.symm] at hr69; replace hr69 : Kd.C k25 _ A69 q7.length q7 := (by rw [hA69]; exact hr69); rw [← hy69, ← hA69, ← hc69] at hcut69; have ja := Aside0.mk hr69; have gA := Aside0.mk (show q7.length ≤ c69 from by rw [hy69, hc69]; exact Nat.sub_le_sub_right hroom69 _); clear hr69 hC69 hroom69 hi069 hsz69 hc69; have KY69 := Aside0.mk hy69; have KA69 := Aside0.mk hA69; clear hy69 hA69; have KL69 := Aside0.mk (show (x12_4 : Int).toNat ≤ x7_2.length from by omega); replace q69 := eq_true q69) | ((with_reducible refine gate_builtin (b := .append) (xs := #[.tmp 108, .tmp 111]) rfl ?_); at_builtin; refine Kd.R_append_rows k25 (w0 := w) w.heap.size rfl (.tmp 108) (.tmp 111) 48 25 (.agg #[(.int .i64 0), (.int .i64 0), (.int .i64 0), (.int .i64 0)]) 32 rfl Try.underlying48 info25 rfl (by decide) (by omega) v350 qf q7 _ _ _ (fun k_ => some k_ ≠ (.slice (some qa) x7_2.length qs : Value).ownBlock ∧ k_ ≠ q6) (fun _ => False) rfl rfl ?aO ?aR (fun _ _ h => h) (fun _ h => h.elim) ?aF ?aB ?aS ?aL ?_; (case aR => repeat (first | exact (by repeat (first | (with_reducible exact ja.out) | (with_reducible refine Kd.C_alloc ?_ _) | (with_reducible refine Kd.C_drewN ?_ _) | (with_reducible refine Kd.C_drew ?_) | exact ja.out)) | (with_reducible refine Kd.C_alloc ?_ _) | (with_reducible refine Kd.C_drewN ?_ _) | (with_reducible refine Kd.C_drew ?_))); (case aB => exact (bnow HB)); (case aF => exact (fun k_ hk => ⟨Kd.fresh' (Kd.R_lt (by (with_reducible repeat (first | apply Kd.R_alloc | apply Kd.R_drewN | apply Kd.R_drew)); exact HO_7.out)) k_ hk, Kd.freshB (g := q6) (o := .cells #[.int .i64 ((rd_T37 q1 x8_1).f0), .int .i64 ((rd_T37 q2 x9_2).f0), .int .i64 ((rd_T37 q1 x8_1).f1), .int .i64 ((rd_T37 q2 x9_2).f1)] 25 (0, 0)) (pk q0) k_ hk⟩)); (case aO => exact (by (with_reducible repeat (first | apply Kd.R_alloc | apply Kd.R_drewN | apply Kd.R_drew)); exact qJ.out)); (case aS => exact (below_size (bnow HB))); (case aL => have := LMc56.out; omega); intro v357 w70 ho hb hg hat; rw [← Ny356.out] at ho; have n0_ := Aside0.mk (Kd.R_over' (by (with_reducible repeat (first | apply Kd.R_alloc | apply Kd.R_drewN | apply Kd.R_drew)); exact HO_5.out) (Kd.R_typed (by (with_reducible repeat (first | apply Kd.R_alloc | apply Kd.R_drewN | apply Kd.R_drew)); exact qJ.out)) (by decide) hg); have n1_ := Aside0.mk (Kd.R_over' (by (with_reducible repeat (first | apply Kd.R_alloc | apply Kd.R_drewN | apply Kd.R_drew)); exact HO_6.out) (Kd.R_typed (by (with_reducible repeat (first | apply Kd.R_alloc | apply Kd.R_drewN | apply Kd.R_drew)); exact qJ.out)) (by decide) hg); have n2_ := Aside0.mk (Kd.R_after (ok := (fun k_ => k_ ≠ q6)) (by (with_reducible repeat (first | apply Kd.R_alloc | apply Kd.R_drewN | apply Kd.R_drew)); exact HO_7.out) hg hat); have n3_ := Aside0.mk (blk_grown (g := qc) (o := .cells #[.int .i64 a0_0, .int .i64 a0_1, .int .i64 a0_2] 23 (0, 0)) (pk q4) hg (Kd.R_ne qJ.out q4.out (by decide))); have n4_ := Aside0.mk (blk_grown (g := qd) (o := .cells #[.int .i64 a1_0, .int .i64 a1_1, .int .i64 a1_2] 23 (0, 0)) (pk q5) hg (Kd.R_ne qJ.out q5.out (by decide))); have n5_ := Aside0.mk (blk_grown (g := q6) (o := .cells #[.int .i64 ((rd_T37 q1 x8_1).f0), .int .i64 ((rd_T37 q2 x9_2).f0), .int .i64 ((rd_T37 q1 x8_1).f1), .int .i64 ((rd_T37 q2 x9_2).f1)] 25 (0, 0)) (pk q0) hg (Kd.R_away qJ.out (fun _ hk => hk.2))); have n6_ := Aside0.mk (hb); have n7_ := Aside0.mk ((show Kd.C k25 w70 (some qa) qe.length qe from by rw [Ny342.out]; exact Kd.C_take (m := (x12_4 : Int).toNat) ((Kd.R_reads' (Kd.R_after (ok := (fun k_ => k_ ≠ q6)) (by (with_reducible repeat (first | apply Kd.R_alloc | apply Kd.R_drewN | apply Kd.R_drew)); exact HO_7.out) hg hat)).2.2) KL63.out)); have n8_ := Aside0.mk ((show Kd.C k25 w70 A69 q7.length q7 from by rw [Ny352.out, KA69.out]; exact Kd.C_drop (m := (x12_4 : Int).toNat) (c := qs) ((Kd.R_reads' (Kd.R_after (ok := (fun k_ => k_ ≠ q6)) (by (with_reducible repeat (first | apply Kd.R_alloc | apply Kd.R_drewN | apply Kd.R_drew)); exact HO_7.out) hg hat)).2.2) KL69.out ((Kd.R_reads' (Kd.R_after (ok := (fun k_ => k_ ≠ q6)) (by (with_reducible repeat (first | apply Kd.R_alloc | apply Kd.R_drewN | apply Kd.R_drew)); exact HO_7.out) hg hat)).2.1))); have n9_ := Aside0.mk (ho); clear HO_5; clear HO_6; clear HO_7; clear q4; clear q5; clear q0; clear HB; clear qF; clear ja; clear qJ; have HO_5 := n0_; have HO_6 := n1_; have HO_7 := n2_; have q4 := n3_; have q5 := n4_; have q0 := n5_; have HB := n6_; have qF := n7_; have ja := n8_; have jZ := n9_; clear n0_ n1_ n2_ n3_ n4_ n5_ n6_ n7_ n8_ n9_; clear ho hb hg hat))
                          go_roundg k4
                          case measure => have := HK1.out; have := HK2.out; have := HJ16.out; have := HK4.out; omega
                          case rel => exact ⟨(jU), (qi), (by first | rfl | (simp; done) | (simp [*]; done)), H', ⟨by have := HK1.out; have := HK2.out; have := HJ16.out; have := HK4.out; omega⟩, ⟨by (with_reducible repeat (first | apply Kd.R_alloc | apply Kd.R_drewN | apply Kd.R_drew)); exact HO_5.out⟩, ⟨by (with_reducible repeat (first | apply Kd.R_alloc | apply Kd.R_drewN | apply Kd.R_drew)); exact HO_6.out⟩, ⟨by (with_reducible repeat (first | apply Kd.R_alloc | apply Kd.R_drewN | apply Kd.R_drew)); exact Kd.R_mono jZ.out (fun _ hk => trivial)⟩, ⟨pk q4⟩, ⟨pk q5⟩, ⟨bnow HB⟩⟩
                         ·rw [if_neg c56] at H
                          exact absurd H (by simp)
                        ·rw [if_neg c53] at H
                         exact absurd H (by simp)
                       ·rw [if_neg c52] at H
                        exact absurd H (by simp)
                      ·rw [if_neg c51] at H
                       exact absurd H (by simp)
                    ·rw [if_neg c43] at H
                     exact absurd H (by simp)
                   ·rw [if_neg c42] at H
                    have ga : decide (x12_4 < (x7_2.length : Int)) = false := decide_eq_false c42
                    clear c42
                    obtain ⟨qE, hy360⟩ : ∃ y_ : List (S25), y_ = (([] : List (S25))) := ⟨_, rfl⟩
                    replace H : (if 0 ≤ x12_4 then (if x12_4 ≤ (x7_2.length : Int) then ((some (x7_2.take (x12_4 : Int).toNat : List (S25))).bind fun qg => (if qE.length + qg.length < 4398046511104 then ((some (qE ++ qg : List (S25))).bind fun ql => (if ql.length < 4398046511104 then ((some (ql ++ [(⟨((rd_T37 q1 x8_1).f0), ((rd_T37 q2 x9_2).f0), ((rd_T37 q1 x8_1).f1), ((rd_T37 q2 x9_2).f1)⟩ : S25)] : List (S25))).bind fun qh => ((some (x7_2.drop (x12_4 : Int).toNat : List (S25))).bind fun qb => (if qh.length + qb.length < 4398046511104 then ((some (wrap64 (x9_2 + 1))).bind fun qk => (torchonref06_Leading.l1 k4 q1 q2 (qh ++ qb) x8_1 qk a0_0 a0_1 a0_2 a1_0 a1_1 a1_2)) else (none)))) else (none))) else (none))) else (none)) else (none)) = some r := by first | (rw [hy360]; with_reducible exact H) | (have H2_ := (Option.bind_some _ _).symm.trans H; rw [hy360]; with_reducible exact H2_) | (have H2_ := (Option.bind_some _ _).symm.trans H; with_reducible exact H2_) | with_reducible exact H | (rw [hy360]; exact H) | exact H
                    have Ny360 := Aside0.mk hy360
                    clear hy360
                    by_cases c71 : 0 ≤ x12_4
                    ·rw [if_pos c71] at H
                     have gO := eq_true c71
                     have gP : decide (0 ≤ x12_4) = true := decide_eq_true c71
                     clear c71
                     by_cases c72 : x12_4 ≤ (x7_2.length : Int)
                     ·rw [if_pos c72] at H
                      have gQ := eq_true c72
                      have gR : decide (x12_4 ≤ (x7_2.length : Int)) = true := decide_eq_true c72
                      clear c72
                      obtain ⟨qg, hy363⟩ : ∃ y_ : List (S25), y_ = (x7_2.take (x12_4 : Int).toNat) := ⟨_, rfl⟩
                      replace H : (if qE.length + qg.length < 4398046511104 then ((some (qE ++ qg : List (S25))).bind fun ql => (if ql.length < 4398046511104 then ((some (ql ++ [(⟨((rd_T37 q1 x8_1).f0), ((rd_T37 q2 x9_2).f0), ((rd_T37 q1 x8_1).f1), ((rd_T37 q2 x9_2).f1)⟩ : S25)] : List (S25))).bind fun qh => ((some (x7_2.drop (x12_4 : Int).toNat : List (S25))).bind fun qb => (if qh.length + qb.length < 4398046511104 then ((some (wrap64 (x9_2 + 1))).bind fun qk => (torchonref06_Leading.l1 k4 q1 q2 (qh ++ qb) x8_1 qk a0_0 a0_1 a0_2 a1_0 a1_1 a1_2)) else (none)))) else (none))) else (none)) = some r := by first | (rw [hy363]; with_reducible exact H) | (have H2_ := (Option.bind_some _ _).symm.trans H; rw [hy363]; with_reducible exact H2_) | (have H2_ := (Option.bind_some _ _).symm.trans H; with_reducible exact H2_) | with_reducible exact H | (rw [hy363]; exact H) | exact H
                      have Ny363 := Aside0.mk hy363
                      clear hy363
                      by_cases c73 : qE.length + qg.length < 4398046511104
                      ·rw [if_pos c73] at H
                       have LMc73 := Aside0.mk c73
                       clear c73
                       obtain ⟨ql, hy367⟩ : ∃ y_ : List (S25), y_ = (qE ++ qg) := ⟨_, rfl⟩
                       replace H : (if ql.length < 4398046511104 then ((some (ql ++ [(⟨((rd_T37 q1 x8_1).f0), ((rd_T37 q2 x9_2).f0), ((rd_T37 q1 x8_1).f1), ((rd_T37 q2 x9_2).f1)⟩ : S25)] : List (S25))).bind fun qh => ((some (x7_2.drop (x12_4 : Int).toNat : List (S25))).bind fun qb => (if qh.length + qb.length < 4398046511104 then ((some (wrap64 (x9_2 + 1))).bind fun qk => (torchonref06_Leading.l1 k4 q1 q2 (qh ++ qb) x8_1 qk a0_0 a0_1 a0_2 a1_0 a1_1 a1_2)) else (none)))) else (none)) = some r := by first | (rw [hy367]; with_reducible exact H) | (have H2_ := (Option.bind_some _ _).symm.trans H; rw [hy367]; with_reducible exact H2_) | (have H2_ := (Option.bind_some _ _).symm.trans H; with_reducible exact H2_) | with_reducible exact H | (rw [hy367]; exact H) | exact H
                       have Ny367 := Aside0.mk hy367
                       clear hy367
                       by_cases c74 : ql.length < 4398046511104
                       ·rw [if_pos c74] at H
                        have LMc74 := Aside0.mk c74
                        clear c74
                        obtain ⟨qh, hy370⟩ : ∃ y_ : List (S25), y_ = (ql ++ [(⟨((rd_T37 q1 x8_1).f0), ((rd_T37 q2 x9_2).f0), ((rd_T37 q1 x8_1).f1), ((rd_T37 q2 x9_2).f1)⟩ : S25)]) := ⟨_, rfl⟩
                        replace H : ((some (x7_2.drop (x12_4 : Int).toNat : List (S25))).bind fun qb => (if qh.length + qb.length < 4398046511104 then ((some (wrap64 (x9_2 + 1))).bind fun qk => (torchonref06_Leading.l1 k4 q1 q2 (qh ++ qb) x8_1 qk a0_0 a0_1 a0_2 a1_0 a1_1 a1_2)) else (none))) = some r := by first | (rw [hy370]; with_reducible exact H) | (have H2_ := (Option.bind_some _ _).symm.trans H; rw [hy370]; with_reducible exact H2_) | (have H2_ := (Option.bind_some _ _).symm.trans H; with_reducible exact H2_) | with_reducible exact H | (rw [hy370]; exact H) | exact H
                        have Ny370 := Aside0.mk hy370
                        clear hy370
                        have gS := eq_true (of_decide_eq_true (by first | (with_reducible assumption) | assumption) : 0 ≤ x12_4)
                        have gT := eq_true (of_decide_eq_true (by first | (with_reducible assumption) | assumption) : x12_4 ≤ (x7_2.length : Int))
                        obtain ⟨qb, hy373⟩ : ∃ y_ : List (S25), y_ = (x7_2.drop (x12_4 : Int).toNat) := ⟨_, rfl⟩
                        replace H : (if qh.length + qb.length < 4398046511104 then ((some (wrap64 (x9_2 + 1))).bind fun qk => (torchonref06_Leading.l1 k4 q1 q2 (qh ++ qb) x8_1 qk a0_0 a0_1 a0_2 a1_0 a1_1 a1_2)) else (none)) = some r := by first | (rw [hy373]; with_reducible exact H) | (have H2_ := (Option.bind_some _ _).symm.trans H; rw [hy373]; with_reducible exact H2_) | (have H2_ := (Option.bind_some _ _).symm.trans H; with_reducible exact H2_) | with_reducible exact H | (rw [hy373]; exact H) | exact H
                        have Ny373 := Aside0.mk hy373
                        clear hy373
                        by_cases c77 : qh.length + qb.length < 4398046511104
                        ·rw [if_pos c77] at H
                         have LMc77 := Aside0.mk c77
                         clear c77
                         obtain ⟨jV, hy377⟩ : ∃ y_ : List (S25), y_ = (qh ++ qb) := ⟨_, rfl⟩
                         replace H : ((some (wrap64 (x9_2 + 1))).bind fun qk => (torchonref06_Leading.l1 k4 q1 q2 jV x8_1 qk a0_0 a0_1 a0_2 a1_0 a1_1 a1_2)) = some r := by first | (rw [hy377]; with_reducible exact H) | (have H2_ := (Option.bind_some _ _).symm.trans H; rw [hy377]; with_reducible exact H2_) | (have H2_ := (Option.bind_some _ _).symm.trans H; with_reducible exact H2_) | with_reducible exact H | (rw [hy377]; exact H) | exact H
                         have Ny377 := Aside0.mk hy377
                         clear hy377
                         obtain ⟨qk, E780, H⟩ := oc H
                         have E78w : (IntKind.i64.wrap (x9_2 + 1)) = qk := (i64_w _).trans E780
                         have H' := Aside0.mk H
                         clear H
                         try go_wp2
                         replace HO_5 := Aside0.mk (Kd.R_drew HO_5.out)
                         replace HO_6 := Aside0.mk (Kd.R_drew HO_6.out)
                         replace HO_7 := Aside0.mk (Kd.R_drew HO_7.out)
                         replace q4 := bd q4
                         replace q5 := bd q5
                         replace q0 := bd q0
                         replace HB := bdn HB
                         obtain ⟨qr, qt, jM⟩ := Kd.R_slice HO_7.out
                         (first | subst jM | (injection jM with f1_ f2_ f3_; have f4_ := f1_.symm; have f5_ := f3_.symm; clear f1_ f2_ f3_; subst f4_; subst f5_))
                         refine start_ (n := 12) (S := fun w' => True) (ds := []) #[false, false, false, false, false, false, false, false, false, false, false, false] (by kernel_rfl) rfl rfl trivial (fun hHeld => ?_); refine with_tabW torchonref06_Leading.tab13 torchonref06_Leading.bits13 (fun HT_ HW_ => ?_)
                         generalize wr.drew = w79 at HO_5 HO_6 HO_7 q4 q5 q0 HB hHeld ⊢
                         refine pz 0 85 HT_ ?_
                         refine pz 1 86 HT_ ?_
                         refine pz 2 87 HT_ ?_
                         refine pz 3 88 HT_ ?_
                         refine pz 4 89 HT_ ?_
                         refine pu 5 90 HT_ ?_
                         refine pu 6 91 HT_ ?_
                         refine pu 7 92 HT_ ?_
                         refine pu 8 93 HT_ ?_
                         refine pu 9 94 HT_ ?_
                         refine pu 10 95 HT_ ?_
                         refine pz 11 96 HT_ ?_
                         refine done_ (done_of HT_.out (by kernel_rfl)) ?_
                         try go_wp2_with (first | ((with_reducible refine gate_dst (N := 99) rfl ?_); refine Kd.R_lit k25 _ 25 ?hg (N := 99) ?hd (xs := ([] : List (S25))) (inner := []) (ok := fun _ => True) (okp := fun _ => True) ?hr ?hp (fun _ hk => hk) trivial (Below.refl _ _) (Nat.le_refl _) (by simp) ?_; (case hd => rfl); (case hg => rfl); (case hr => first | (go_simp; done) | (go_simp; rfl)); (case hp => exact (Reps.none _ _)); intro v361 w81 qU hb hg_ hnew_; clear hg_ hnew_; (first | rw [← Ny360.out] at qU | (simp only [Int.reduceToNat] at qU; rw [← Ny360.out] at qU)); have qK := Aside0.mk (Kd.R_lower (Kd.R_newB (Kd.R_new' qU (Kd.R_lt (by (with_reducible repeat (first | apply Kd.R_alloc | apply Kd.R_drewN | apply Kd.R_drew)); exact HO_7.out))) (g := q6) (o := .cells #[.int .i64 ((rd_T37 q1 x8_1).f0), .int .i64 ((rd_T37 q2 x9_2).f0), .int .i64 ((rd_T37 q1 x8_1).f1), .int .i64 ((rd_T37 q2 x9_2).f1)] 25 (0, 0)) (pk q0)) (below_size (bnow HB))); replace HO_5 := Aside0.mk (Kd.R_below (by (with_reducible repeat (first | apply Kd.R_alloc | apply Kd.R_drewN | apply Kd.R_drew)); exact HO_5.out) hb); replace HO_6 := Aside0.mk (Kd.R_below (by (with_reducible repeat (first | apply Kd.R_alloc | apply Kd.R_drewN | apply Kd.R_drew)); exact HO_6.out) hb); replace HO_7 := Aside0.mk (Kd.R_elder' (by (with_reducible repeat (first | apply Kd.R_alloc | apply Kd.R_drewN | apply Kd.R_drew)); exact HO_7.out) (Kd.R_base qU) hb); replace q4 := bb q4 hb; replace q5 := bb q5 hb; replace q0 := bb q0 hb; replace HB := bst HB hb; clear hb qU; have q83 : (x12_4 : Int) ≤ ((x7_2.length : Int) : Int) := of_decide_eq_true (by first | (with_reducible assumption) | assumption); obtain ⟨i083, hi083, _, hsz83, _⟩ := info_parts info25; have hroom83 : x7_2.length ≤ qt := (Kd.R_reads' HO_7.out).2.1; have hC83 : Kd.C k25 _ qr x7_2.length x7_2 := (Kd.R_reads' HO_7.out).2.2; have hcut83 := cut_to (P := Try.prog) 48 25 .i64 Try.underlying48 hi083 qr x7_2.length qt x12_4 (of_decide_eq_true (by first | (with_reducible assumption) | assumption)) q83 hroom83; have hr83 := Kd.C_take (m := (x12_4 : Int).toNat) hC83 (by omega); have hy83 : qg.length = (x12_4 : Int).toNat := (by rw [Ny363.out, List.length_take]; omega); rw [← Ny363.out] at hr83; rw [← hy83] at hcut83; have qG := Aside0.mk hr83; have gB := Aside0.mk (show qg.length ≤ qt from by omega); clear hr83 hC83 hroom83 hi083 hsz83; have KY83 := Aside0.mk hy83; clear hy83; have KL83 := Aside0.mk (show (x12_4 : Int).toNat ≤ x7_2.length from by omega); replace q83 := eq_true q83) | ((with_reducible refine gate_builtin (b := .append) (xs := #[.tmp 99, .tmp 102]) rfl ?_); at_builtin; refine Kd.R_append_rows k25 (w0 := w) w.heap.size rfl (.tmp 99) (.tmp 102) 48 25 (.agg #[(.int .i64 0), (.int .i64 0), (.int .i64 0), (.int .i64 0)]) 32 rfl Try.underlying48 info25 rfl (by decide) (by omega) v361 qE qg _ _ _ (fun k_ => some k_ ≠ (.slice qr x7_2.length qt : Value).ownBlock ∧ k_ ≠ q6) (fun _ => False) rfl rfl ?aO ?aR (fun _ _ h => h) (fun _ h => h.elim) ?aF ?aB ?aS ?aL ?_; (case aR => repeat (first | exact (by repeat (first | (with_reducible exact qG.out) | (with_reducible refine Kd.C_alloc ?_ _) | (with_reducible refine Kd.C_drewN ?_ _) | (with_reducible refine Kd.C_drew ?_) | exact qG.out)) | (with_reducible refine Kd.C_alloc ?_ _) | (with_reducible refine Kd.C_drewN ?_ _) | (with_reducible refine Kd.C_drew ?_))); (case aB => exact (bnow HB)); (case aF => exact (fun k_ hk => ⟨Kd.fresh' (Kd.R_lt (by (with_reducible repeat (first | apply Kd.R_alloc | apply Kd.R_drewN | apply Kd.R_drew)); exact HO_7.out)) k_ hk, Kd.freshB (g := q6) (o := .cells #[.int .i64 ((rd_T37 q1 x8_1).f0), .int .i64 ((rd_T37 q2 x9_2).f0), .int .i64 ((rd_T37 q1 x8_1).f1), .int .i64 ((rd_T37 q2 x9_2).f1)] 25 (0, 0)) (pk q0) k_ hk⟩)); (case aO => exact (by (with_reducible repeat (first | apply Kd.R_alloc | apply Kd.R_drewN | apply Kd.R_drew)); exact Kd.R_mono qK.out (fun _ hk => ⟨hk.1.2, hk.2⟩))); (case aS => exact (below_size (bnow HB))); (case aL => have := LMc73.out; omega); intro v368 w84 ho hb hg hat; rw [← Ny367.out] at ho; have n0_ := Aside0.mk (Kd.R_over' (by (with_reducible repeat (first | apply Kd.R_alloc | apply Kd.R_drewN | apply Kd.R_drew)); exact HO_5.out) (Kd.R_typed (by (with_reducible repeat (first | apply Kd.R_alloc | apply Kd.R_drewN | apply Kd.R_drew)); exact qK.out)) (by decide) hg); have n1_ := Aside0.mk (Kd.R_over' (by (with_reducible repeat (first | apply Kd.R_alloc | apply Kd.R_drewN | apply Kd.R_drew)); exact HO_6.out) (Kd.R_typed (by (with_reducible repeat (first | apply Kd.R_alloc | apply Kd.R_drewN | apply Kd.R_drew)); exact qK.out)) (by decide) hg); have n2_ := Aside0.mk (Kd.R_after (ok := (fun k_ => k_ ≠ q6)) (by (with_reducible repeat (first | apply Kd.R_alloc | apply Kd.R_drewN | apply Kd.R_drew)); exact HO_7.out) hg hat); have n3_ := Aside0.mk (blk_grown (g := qc) (o := .cells #[.int .i64 a0_0, .int .i64 a0_1, .int .i64 a0_2] 23 (0, 0)) (pk q4) hg (Kd.R_ne qK.out q4.out (by decide))); have n4_ := Aside0.mk (blk_grown (g := qd) (o := .cells #[.int .i64 a1_0, .int .i64 a1_1, .int .i64 a1_2] 23 (0, 0)) (pk q5) hg (Kd.R_ne qK.out q5.out (by decide))); have n5_ := Aside0.mk (blk_grown (g := q6) (o := .cells #[.int .i64 ((rd_T37 q1 x8_1).f0), .int .i64 ((rd_T37 q2 x9_2).f0), .int .i64 ((rd_T37 q1 x8_1).f1), .int .i64 ((rd_T37 q2 x9_2).f1)] 25 (0, 0)) (pk q0) hg (Kd.R_away qK.out (fun _ hk => hk.2))); have n6_ := Aside0.mk (hb); have n7_ := Aside0.mk ((show Kd.C k25 w84 qr qg.length qg from by rw [Ny363.out]; exact Kd.C_take (m := (x12_4 : Int).toNat) ((Kd.R_reads' (Kd.R_after (ok := (fun k_ => k_ ≠ q6)) (by (with_reducible repeat (first | apply Kd.R_alloc | apply Kd.R_drewN | apply Kd.R_drew)); exact HO_7.out) hg hat)).2.2) KL83.out)); have n8_ := Aside0.mk (ho); clear HO_5; clear HO_6; clear HO_7; clear q4; clear q5; clear q0; clear HB; clear qG; clear qK; have HO_5 := n0_; have HO_6 := n1_; have HO_7 := n2_; have q4 := n3_; have q5 := n4_; have q0 := n5_; have HB := n6_; have qG := n7_; have qL := n8_; clear n0_ n1_ n2_ n3_ n4_ n5_ n6_ n7_ n8_; clear ho hb hg hat; have Qr := qQ.out; have Qv := qw.out; have Qs := qR.out; have Qw := qx.out; have ⟨Q1, Q2, Q3, Q4, Qd, Qe, Qf, Qg⟩ := cf4 q0) | ((with_reducible refine gate_builtin (b := .append) (xs := #[.tmp 104, .tmp 106]) rfl ?_); at_builtin; refine Kd.R_append k25 (w0 := w) w.heap.size rfl (.tmp 104) (.tmp 106) 48 25 (.agg #[(.int .i64 0), (.int .i64 0), (.int .i64 0), (.int .i64 0)]) 32 rfl Try.underlying48 info25 rfl (by decide) (by omega) v368 ql (⟨((rd_T37 q1 x8_1).f0), ((rd_T37 q2 x9_2).f0), ((rd_T37 q1 x8_1).f1), ((rd_T37 q2 x9_2).f1)⟩ : S25) [.int .i64 ((rd_T37 q1 x8_1).f0), .int .i64 ((rd_T37 q2 x9_2).f0), .int .i64 ((rd_T37 q1 x8_1).f1), .int .i64 ((rd_T37 q2 x9_2).f1)] (fun k_ => some k_ ≠ (.slice qr x7_2.length qt : Value).ownBlock ∧ k_ ≠ q6) (fun _ => False) rfl rfl ?aP (fun _ hk => hk.elim) ?aF ?aO ?aB ?aS ?aL ?_; (case aP => exact k25_mkM _ _ _ (⟨((rd_T37 q1 x8_1).f0), ((rd_T37 q2 x9_2).f0), ((rd_T37 q1 x8_1).f1), ((rd_T37 q2 x9_2).f1)⟩ : S25)); (case aB => exact (bnow HB)); (case aF => exact (fun k_ hk => ⟨Kd.fresh' (Kd.R_lt (by (with_reducible repeat (first | apply Kd.R_alloc | apply Kd.R_drewN | apply Kd.R_drew)); exact HO_7.out)) k_ hk, Kd.freshB (g := q6) (o := .cells #[.int .i64 ((rd_T37 q1 x8_1).f0), .int .i64 ((rd_T37 q2 x9_2).f0), .int .i64 ((rd_T37 q1 x8_1).f1), .int .i64 ((rd_T37 q2 x9_2).f1)] 25 (0, 0)) (pk q0) k_ hk⟩)); (case aO => exact (by (with_reducible repeat (first | apply Kd.R_alloc | apply Kd.R_drewN | apply Kd.R_drew)); exact qL.out)); (case aS => exact (below_size (bnow HB))); (case aL => have := LMc74.out; omega); intro v371 w88 ho hb hg hat; rw [← Ny370.out] at ho; have n0_ := Aside0.mk (Kd.R_over' (by (with_reducible repeat (first | apply Kd.R_alloc | apply Kd.R_drewN | apply Kd.R_drew)); exact HO_5.out) (Kd.R_typed (by (with_reducible repeat (first | apply Kd.R_alloc | apply Kd.R_drewN | apply Kd.R_drew)); exact qL.out)) (by decide) hg); have n1_ := Aside0.mk (Kd.R_over' (by (with_reducible repeat (first | apply Kd.R_alloc | apply Kd.R_drewN | apply Kd.R_drew)); exact HO_6.out) (Kd.R_typed (by (with_reducible repeat (first | apply Kd.R_alloc | apply Kd.R_drewN | apply Kd.R_drew)); exact qL.out)) (by decide) hg); have n2_ := Aside0.mk (Kd.R_after (ok := (fun k_ => k_ ≠ q6)) (by (with_reducible repeat (first | apply Kd.R_alloc | apply Kd.R_drewN | apply Kd.R_drew)); exact HO_7.out) hg hat); have n3_ := Aside0.mk (blk_grown (g := qc) (o := .cells #[.int .i64 a0_0, .int .i64 a0_1, .int .i64 a0_2] 23 (0, 0)) (pk q4) hg (Kd.R_ne qL.out q4.out (by decide))); have n4_ := Aside0.mk (blk_grown (g := qd) (o := .cells #[.int .i64 a1_0, .int .i64 a1_1, .int .i64 a1_2] 23 (0, 0)) (pk q5) hg (Kd.R_ne qL.out q5.out (by decide))); have n5_ := Aside0.mk (blk_grown (g := q6) (o := .cells #[.int .i64 ((rd_T37 q1 x8_1).f0), .int .i64 ((rd_T37 q2 x9_2).f0), .int .i64 ((rd_T37 q1 x8_1).f1), .int .i64 ((rd_T37 q2 x9_2).f1)] 25 (0, 0)) (pk q0) hg (Kd.R_away qL.out (fun _ hk => hk.2))); have n6_ := Aside0.mk (hb); have n7_ := Aside0.mk ((show Kd.C k25 w88 qr qg.length qg from by rw [Ny363.out]; exact Kd.C_take (m := (x12_4 : Int).toNat) ((Kd.R_reads' (Kd.R_after (ok := (fun k_ => k_ ≠ q6)) (by (with_reducible repeat (first | apply Kd.R_alloc | apply Kd.R_drewN | apply Kd.R_drew)); exact HO_7.out) hg hat)).2.2) KL83.out)); have n8_ := Aside0.mk (ho); clear HO_5; clear HO_6; clear HO_7; clear q4; clear q5; clear q0; clear HB; clear qG; clear qL; have HO_5 := n0_; have HO_6 := n1_; have HO_7 := n2_; have q4 := n3_; have q5 := n4_; have q0 := n5_; have HB := n6_; have qG := n7_; have qM := n8_; clear n0_ n1_ n2_ n3_ n4_ n5_ n6_ n7_ n8_; clear ho hb hg hat; have q89 : (x12_4 : Int) ≤ ((x7_2.length : Int) : Int) := of_decide_eq_true (by first | (with_reducible assumption) | assumption); obtain ⟨i089, hi089, _, hsz89, _⟩ := info_parts info25; have hroom89 : x7_2.length ≤ qt := (Kd.R_reads' HO_7.out).2.1; have hC89 : Kd.C k25 _ qr x7_2.length x7_2 := (Kd.R_reads' HO_7.out).2.2; have gn : (0 : Int) ≤ (x12_4 : Int) := of_decide_eq_true (by first | (with_reducible assumption) | assumption); have hcut89 := cut_from (P := Try.prog) 48 25 .i64 Try.underlying48 hi089 4 hsz89 qr x7_2.length qt x12_4 gn q89; have hr89 := Kd.C_drop (m := (x12_4 : Int).toNat) (c := qt) hC89 (by omega) hroom89; obtain ⟨A89, hA89⟩ : ∃ A1, A1 = (if qt = (x12_4 : Int).toNat then qr else (qr : Option Addr).map (·.add ((x12_4 : Int).toNat * 4))) := ⟨_, rfl⟩; obtain ⟨c89, hc89⟩ : ∃ c1, c1 = qt - (x12_4 : Int).toNat := ⟨_, rfl⟩; have hy89 : qb.length = x7_2.length - (x12_4 : Int).toNat := (by rw [Ny373.out, List.length_drop] <;> omega); rw [show (x7_2).drop (x12_4 : Int).toNat = qb from Ny373.out.symm] at hr89; replace hr89 : Kd.C k25 _ A89 qb.length qb := (by rw [hA89]; exact hr89); rw [← hy89, ← hA89, ← hc89] at hcut89; have jb := Aside0.mk hr89; have gC := Aside0.mk (show qb.length ≤ c89 from by rw [hy89, hc89]; exact Nat.sub_le_sub_right hroom89 _); clear hr89 hC89 hroom89 hi089 hsz89 hc89; have KY89 := Aside0.mk hy89; have KA89 := Aside0.mk hA89; clear hy89 hA89; have KL89 := Aside0.mk (show (x12_4 : Int).toNat ≤ x7_2.length from by omega); replace q89 := eq_true q89) | ((with_reducible refine gate_builtin (b := .append) (xs := #[.tmp 108, .tmp 111]) rfl ?_); at_builtin; refine Kd.R_append_rows k25 (w0 := w) w.heap.size rfl (.tmp 108) (.tmp 111) 48 25 (.agg #[(.int .i64 0), (.int .i64 0), (.int .i64 0), (.int .i64 0)]) 32 rfl Try.underlying48 info25 rfl (by decide) (by omega) v371 qh qb _ _ _ (fun k_ => some k_ ≠ (.slice qr x7_2.length qt : Value).ownBlock ∧ k_ ≠ q6) (fun _ => False) rfl rfl ?aO ?aR (fun _ _ h => h) (fun _ h => h.elim) ?aF ?aB ?aS ?aL ?_; (case aR => repeat (first | exact (by repeat (first | (with_reducible exact jb.out) | (with_reducible refine Kd.C_alloc ?_ _) | (with_reducible refine Kd.C_drewN ?_ _) | (with_reducible refine Kd.C_drew ?_) | exact jb.out)) | (with_reducible refine Kd.C_alloc ?_ _) | (with_reducible refine Kd.C_drewN ?_ _) | (with_reducible refine Kd.C_drew ?_))); (case aB => exact (bnow HB)); (case aF => exact (fun k_ hk => ⟨Kd.fresh' (Kd.R_lt (by (with_reducible repeat (first | apply Kd.R_alloc | apply Kd.R_drewN | apply Kd.R_drew)); exact HO_7.out)) k_ hk, Kd.freshB (g := q6) (o := .cells #[.int .i64 ((rd_T37 q1 x8_1).f0), .int .i64 ((rd_T37 q2 x9_2).f0), .int .i64 ((rd_T37 q1 x8_1).f1), .int .i64 ((rd_T37 q2 x9_2).f1)] 25 (0, 0)) (pk q0) k_ hk⟩)); (case aO => exact (by (with_reducible repeat (first | apply Kd.R_alloc | apply Kd.R_drewN | apply Kd.R_drew)); exact qM.out)); (case aS => exact (below_size (bnow HB))); (case aL => have := LMc77.out; omega); intro v378 w90 ho hb hg hat; rw [← Ny377.out] at ho; have n0_ := Aside0.mk (Kd.R_over' (by (with_reducible repeat (first | apply Kd.R_alloc | apply Kd.R_drewN | apply Kd.R_drew)); exact HO_5.out) (Kd.R_typed (by (with_reducible repeat (first | apply Kd.R_alloc | apply Kd.R_drewN | apply Kd.R_drew)); exact qM.out)) (by decide) hg); have n1_ := Aside0.mk (Kd.R_over' (by (with_reducible repeat (first | apply Kd.R_alloc | apply Kd.R_drewN | apply Kd.R_drew)); exact HO_6.out) (Kd.R_typed (by (with_reducible repeat (first | apply Kd.R_alloc | apply Kd.R_drewN | apply Kd.R_drew)); exact qM.out)) (by decide) hg); have n2_ := Aside0.mk (Kd.R_after (ok := (fun k_ => k_ ≠ q6)) (by (with_reducible repeat (first | apply Kd.R_alloc | apply Kd.R_drewN | apply Kd.R_drew)); exact HO_7.out) hg hat); have n3_ := Aside0.mk (blk_grown (g := qc) (o := .cells #[.int .i64 a0_0, .int .i64 a0_1, .int .i64 a0_2] 23 (0, 0)) (pk q4) hg (Kd.R_ne qM.out q4.out (by decide))); have n4_ := Aside0.mk (blk_grown (g := qd) (o := .cells #[.int .i64 a1_0, .int .i64 a1_1, .int .i64 a1_2] 23 (0, 0)) (pk q5) hg (Kd.R_ne qM.out q5.out (by decide))); have n5_ := Aside0.mk (blk_grown (g := q6) (o := .cells #[.int .i64 ((rd_T37 q1 x8_1).f0), .int .i64 ((rd_T37 q2 x9_2).f0), .int .i64 ((rd_T37 q1 x8_1).f1), .int .i64 ((rd_T37 q2 x9_2).f1)] 25 (0, 0)) (pk q0) hg (Kd.R_away qM.out (fun _ hk => hk.2))); have n6_ := Aside0.mk (hb); have n7_ := Aside0.mk ((show Kd.C k25 w90 qr qg.length qg from by rw [Ny363.out]; exact Kd.C_take (m := (x12_4 : Int).toNat) ((Kd.R_reads' (Kd.R_after (ok := (fun k_ => k_ ≠ q6)) (by (with_reducible repeat (first | apply Kd.R_alloc | apply Kd.R_drewN | apply Kd.R_drew)); exact HO_7.out) hg hat)).2.2) KL83.out)); have n8_ := Aside0.mk ((show Kd.C k25 w90 A89 qb.length qb from by rw [Ny373.out, KA89.out]; exact Kd.C_drop (m := (x12_4 : Int).toNat) (c := qt) ((Kd.R_reads' (Kd.R_after (ok := (fun k_ => k_ ≠ q6)) (by (with_reducible repeat (first | apply Kd.R_alloc | apply Kd.R_drewN | apply Kd.R_drew)); exact HO_7.out) hg hat)).2.2) KL89.out ((Kd.R_reads' (Kd.R_after (ok := (fun k_ => k_ ≠ q6)) (by (with_reducible repeat (first | apply Kd.R_alloc | apply Kd.R_drewN | apply Kd.R_drew)); exact HO_7.out) hg hat)).2.1))); have n9_ := Aside0.mk (ho); clear HO_5; clear HO_6; clear HO_7; clear q4; clear q5; clear q0; clear HB; clear qG; clear jb; clear qM; have HO_5 := n0_; have HO_6 := n1_; have HO_7 := n2_; have q4 := n3_; have q5 := n4_; have q0 := n5_; have HB := n6_; have qG := n7_; have jb := n8_; have g0 := n9_; clear n0_ n1_ n2_ n3_ n4_ n5_ n6_ n7_ n8_ n9_; clear ho hb hg hat))
                         go_roundg k4
                         case measure => have := HK1.out; have := HK2.out; have := HJ16.out; have := HK4.out; omega
                         case rel => exact ⟨(jV), (qk), (by first | rfl | (simp; done) | (simp [*]; done)), H', ⟨by have := HK1.out; have := HK2.out; have := HJ16.out; have := HK4.out; omega⟩, ⟨by (with_reducible repeat (first | apply Kd.R_alloc | apply Kd.R_drewN | apply Kd.R_drew)); exact HO_5.out⟩, ⟨by (with_reducible repeat (first | apply Kd.R_alloc | apply Kd.R_drewN | apply Kd.R_drew)); exact HO_6.out⟩, ⟨by (with_reducible repeat (first | apply Kd.R_alloc | apply Kd.R_drewN | apply Kd.R_drew)); exact Kd.R_mono g0.out (fun _ hk => trivial)⟩, ⟨pk q4⟩, ⟨pk q5⟩, ⟨bnow HB⟩⟩
                        ·rw [if_neg c77] at H
                         exact absurd H (by simp)
                       ·rw [if_neg c74] at H
                        exact absurd H (by simp)
                      ·rw [if_neg c73] at H
                       exact absurd H (by simp)
                     ·rw [if_neg c72] at H
                      exact absurd H (by simp)
                    ·rw [if_neg c71] at H
                     exact absurd H (by simp)
                ·rw [if_neg c35] at H
                 exact absurd H (by simp)
               ·rw [if_neg c34] at H
                exact absurd H (by simp)
              ·rw [if_neg c33] at H
               exact absurd H (by simp)
             ·rw [if_neg c32] at H
              exact absurd H (by simp)
         ·rw [if_neg c15] at H
          exact absurd H (by simp)
        ·rw [if_neg c14] at H
         exact absurd H (by simp)
       ·rw [if_neg c13] at H
        exact absurd H (by simp)
      ·rw [if_neg c12] at H
       have g5 : decide (x9_2 < (q2.length : Int)) = false := decide_eq_false c12
       clear c12
       obtain ⟨jl, E910, H⟩ := oc H
       have E91w : (IntKind.i64.wrap (x8_1 + 1)) = jl := (i64_w _).trans E910
       have H' := Aside0.mk H
       clear H
       obtain ⟨gr, gV, gj⟩ := Kd.R_slice HO_6.out
       subst gj
       go_wp2
       go_roundg k2
       case measure => have := HK1.out; have := HK2.out; omega
       case rel => exact ⟨(x7_2), (jl), (by first | rfl | (simp; done) | (simp [*]; done)), H', ⟨by have := HK1.out; have := HK2.out; omega⟩, ⟨by (with_reducible repeat (first | apply Kd.R_alloc | apply Kd.R_drewN | apply Kd.R_drew)); exact HO_5.out⟩, ⟨by (with_reducible repeat (first | apply Kd.R_alloc | apply Kd.R_drewN | apply Kd.R_drew)); exact HO_6.out⟩, ⟨by (with_reducible repeat (first | apply Kd.R_alloc | apply Kd.R_drewN | apply Kd.R_drew)); exact HO_7.out⟩, ⟨pk q4⟩, ⟨pk q5⟩, ⟨bnow HB⟩⟩
   ·rw [if_neg c10] at H
    have jJ : decide (x8_1 < (q1.length : Int)) = false := decide_eq_false c10
    clear c10
    obtain rfl := Option.some.inj H
    obtain ⟨gt, gW, gl⟩ := Kd.R_slice HO_5.out
    subst gl
    go_wp2
    go_ret
    exact ⟨_, by first | rfl | (simp [errW_none, errW_some] <;> rfl) | (simp [*, errW_none, errW_some] <;> rfl), by (with_reducible repeat (first | apply Kd.R_alloc | apply Kd.R_drewN | apply Kd.R_drew)); exact HO_7.out, by repeat (first | (with_reducible first | exact HB.out | apply below_alloc | apply pw_below_drewN | apply below_drew1 | refine below_set ?_ jW.out | refine below_set ?_ jX.out) | exact HB.out)⟩
end
end Go.Proofs.Ytmcajdepoohlhaa.G
