/- Functions of the program as plain Lean functions, and their contracts (printed by a program of this session). No condition beyond what each states. -/
import Derived.Test.YtmcajdepoohlhaaCKeepY
import Derived.Test.YtmcajdepoohlhaaCKeepP0
import Derived.Test.YtmcajdepoohlhaaCKeepP1
namespace Go.Proofs.Ytmcajdepoohlhaa.G
open Go.RowKit Go.Proofs.YtmcajdepoohlhaaW.PrintWords Go.Proofs.YtmcajdepoohlhaaW.PrintLast Go.Proofs.YtmcajdepoohlhaaW.PrintMore
attribute [local go_sem] max2_int min2_int max_two min_two max_three min_three max_four min_four
set_option linter.unusedVariables false
set_option linter.unusedSimpArgs false
section
/-! ### grids_Group: function 22 -/
def grids_Group.l0 : Nat → List (S25) → Int → Int → Int → Int → Int → Int → Option ((List (S25)) × Int)
 | 0, _, _, _, _, _, _, _ => none
 | k + 1, x7, x22, x23, x517000, x517001, x517002, x517003 => if x23 < x22 then (if 0 ≤ x23 then (if x23 < (x7.length : Int) then ((grids_times.f x517000 x517001 x517002 x517003 ((rd_T25 x7 x23).f0) ((rd_T25 x7 x23).f1) ((rd_T25 x7 x23).f2) ((rd_T25 x7 x23).f3)).bind fun qm => ((grids_inverse.f x517000 x517001 x517002 x517003).bind fun qn => ((grids_times.f qm.1 qm.2.1 qm.2.2.1 qm.2.2.2 qn.1 qn.2.1 qn.2.2.1 qn.2.2.2).bind fun qo => ((some (wrap64 (x23 + 1))).bind fun q8 => (grids_Group.l0 k (x7.set (x23 : Int).toNat (⟨qo.1, qo.2.1, qo.2.2.1, qo.2.2.2⟩ : S25)) x22 q8 x517000 x517001 x517002 x517003))))) else (none)) else (none)) else ((api_GrMatrix_58.f k x7).bind fun qF => (some (qF, 0)))
def grids_Group.f (k : Nat) (a0_0 : Int) (a0_1 : Int) (a0_2 : Int) : Option ((List (S25)) × Int) := (grids_Check.f k a0_0 a0_1 a0_2).bind fun q5 => (if q5 = 0 then ((grids_reduce.f k a0_0 a0_1 a0_2).bind fun q3 => ((grids_group.f k q3.1 q3.2.1 q3.2.2.1).bind fun q4 => (grids_Group.l0 k q4 (q4.length : Int) 0 q3.2.2.2.1 q3.2.2.2.2.1 q3.2.2.2.2.2.1 q3.2.2.2.2.2.2))) else (some (([] : List (S25)), q5)))
theorem grids_Group.mono_l : ∀ k, (∀ y0 y1 y2 y3 y4 y5 y6, LeO (grids_Group.l0 k y0 y1 y2 y3 y4 y5 y6) (grids_Group.l0 (k + 1) y0 y1 y2 y3 y4 y5 y6))
 | 0 => fun _ _ _ _ _ _ _ r h => by simp [grids_Group.l0] at h
 | k + 1 => by
  have ih0 := grids_Group.mono_l k
  ·intro y0 y1 y2 y3 y4 y5 y6
   unfold grids_Group.l0
   repeat' first
   | (with_reducible exact ih0 _ _ _ _ _ _ _)
   | (with_reducible exact api_GrMatrix_58.mono _ _)
   | (with_reducible exact grids_Check.mono _ _ _ _)
   | (with_reducible exact grids_group.mono _ _ _ _)
   | (with_reducible exact grids_reduce.mono _ _ _ _)
   | (with_reducible exact LeO.refl _)
   | (with_reducible exact LeO.none _)
   | (with_reducible refine LeO.ite ?_ ?_)
   | (with_reducible refine LeO.bind ?_ (fun _ => ?_))
   | exact ih0 _ _ _ _ _ _ _
   | exact api_GrMatrix_58.mono _ _
   | exact grids_Check.mono _ _ _ _
   | exact grids_group.mono _ _ _ _
   | exact grids_reduce.mono _ _ _ _
   | exact LeO.none _
   | refine LeO.ite ?_ ?_
   | refine LeO.bind ?_ (fun _ => ?_)
theorem grids_Group.mono : ∀ a0 a1 a2 k, LeO (grids_Group.f k a0 a1 a2) (grids_Group.f (k + 1) a0 a1 a2) := by
 intro a0 a1 a2 k
 have ih0 := grids_Group.mono_l k
 unfold grids_Group.f
 repeat' first
   | (with_reducible exact ih0 _ _ _ _ _ _ _)
   | (with_reducible exact api_GrMatrix_58.mono _ _)
   | (with_reducible exact grids_Check.mono _ _ _ _)
   | (with_reducible exact grids_group.mono _ _ _ _)
   | (with_reducible exact grids_reduce.mono _ _ _ _)
   | (with_reducible exact LeO.refl _)
   | (with_reducible exact LeO.none _)
   | (with_reducible refine LeO.ite ?_ ?_)
   | (with_reducible refine LeO.bind ?_ (fun _ => ?_))
   | exact ih0 _ _ _ _ _ _ _
   | exact api_GrMatrix_58.mono _ _
   | exact grids_Check.mono _ _ _ _
   | exact grids_group.mono _ _ _ _
   | exact grids_reduce.mono _ _ _ _
   | exact LeO.none _
   | refine LeO.ite ?_ ?_
   | refine LeO.bind ?_ (fun _ => ?_)
def grids_Group.T9 : Bool × List (List Nat × List Nat) := (true, [([], []), ([], []), ([], []), ([], []), ([], []), ([3, 4], [3, 4]), ([5], [5]), ([2, 6], [2, 6]), ([], []), ([8, 7], [8]), ([7, 9, 9], [7, 9]), ([0, 1, 0, 1, 2, 3, 4, 5, 6, 7, 8, 9, 10], [0, 1]), ([11, 10, 10, 0, 1, 2, 3, 4, 5, 6, 7, 8, 9, 10], [10, 11])])
def grids_Group.B9 : List Nat := [0, 0, 0, 0, 0, 24, 56, 124, 0, 508, 1020, 2047, 4095]
theorem grids_Group.tab9 : rtab .any (opsOf Try.f22 9) = grids_Group.T9 := by kernel_rfl
theorem grids_Group.bits9 : waitsOk grids_Group.T9.2 grids_Group.B9 = true := by kernel_rfl
set_option maxHeartbeats 8000000 in
set_option maxRecDepth 100000 in
theorem grids_Group.calls (k : Nat) (a0_0 : Int) (a0_1 : Int) (a0_2 : Int) (r1 : List (S25)) (r2 : Int) (w : World) (h : grids_Group.f k a0_0 a0_1 a0_2 = some (r1, r2)) :
  Calls Try.prog 22 #[.agg #[.int .i64 a0_0, .int .i64 a0_1, .int .i64 a0_2]] w fun e w' => ∃ v0_ : Value, e = .returned (.tuple #[v0_, .int .i64 r2]) ∧ Kd.R k25 25 w' w.heap.size (fun _ => True) v0_ r1 ∧ Below w.heap.size w w' := by
 have hu23 := Try.underlying23
 have hu25 := Try.underlying25
 have HB := Aside0.mk (Below.refl w.heap.size w)
 have H : ((grids_Check.f k a0_0 a0_1 a0_2).bind fun q5 => (if q5 = 0 then ((grids_reduce.f k a0_0 a0_1 a0_2).bind fun q3 => ((grids_group.f k q3.1 q3.2.1 q3.2.2.1).bind fun q4 => (grids_Group.l0 k q4 (q4.length : Int) 0 q3.2.2.2.1 q3.2.2.2.2.1 q3.2.2.2.2.2.1 q3.2.2.2.2.2.2))) else (some (([] : List (S25)), q5)))) = some (r1, r2) := h
 clear h
 obtain ⟨q5, A2, H⟩ := ob H
 by_cases c3 : q5 = 0
 ·rw [if_pos c3] at H
  have qH : (q5 == 0) = true := beq_iff_eq.mpr c3
  have qI : (q5 != 0) = false := bne_eq_false_iff_eq.mpr c3
  clear c3
  obtain ⟨⟨qe, qf, qg, qr, qs, qt, qu⟩, A4, H⟩ := ob H
  obtain ⟨q4, A5, H⟩ := ob H
  have H' := Aside0.mk H
  clear H
  go_enter Try.func22, Try.ntmps22
  go_wp2_with (first | ((with_reducible refine gate_dst (N := 1) rfl ?_); refine bx 1 #[.int .i64 a0_0, .int .i64 a0_1, .int .i64 a0_2] 23 fun qL hg w6 q0 hb => ?_; have qV := gw hg HB; have q9 := gw hg HB; replace HB := bst HB hb; clear hb hg; have ⟨jg, jh, ji, jw, jx, jy⟩ := cf3 q0) | ((with_reducible refine gate_callee (f := 14) rfl ?_); refine gl 10 Try.func14 (grids_Check.calls k a0_0 a0_1 a0_2 q5 _ A2.out) ?_; rintro e w8 ⟨rfl, hb⟩; refine ⟨_, rfl, ?_⟩; replace q0 := bb q0 hb; replace HB := bst HB hb; clear hb; have ⟨jj, jk, jl, jz, jA, jB⟩ := cf3 q0) | ((with_reducible refine gate_callee (f := 38) rfl ?_); refine gl 16 Try.func38 (grids_reduce.calls k a0_0 a0_1 a0_2 qe qf qg qr qs qt qu _ A4.out) ?_; rintro e w10 ⟨rfl, hb⟩; refine ⟨_, rfl, ?_⟩; replace q0 := bb q0 hb; replace HB := bst HB hb; clear hb) | ((with_reducible refine gate_dst (N := 5) rfl ?_); refine bx 5 #[.int .i64 0, .int .i64 0, .int .i64 0] 23 fun qq hg w11 q2 hb => ?_; have jC := gw hg HB; have qv := gw hg HB; have qW := nlt hg q0; have qY := ngt hg q0; replace q0 := bb q0 hb; replace HB := bst HB hb; clear hb hg) | ((with_reducible refine gate_dst (N := 6) rfl ?_); refine bx 6 #[.int .i64 0, .int .i64 0, .int .i64 0, .int .i64 0] 25 fun q6 hg w12 q1 hb => ?_; have jD := gw hg HB; have qw := gw hg HB; have qX := nlt hg q0; have j0 := ngt hg q0; have qZ := nlt hg q2; have j1 := ngt hg q2; replace q0 := bb q0 hb; replace q2 := bb q2 hb; replace HB := bst HB hb; clear hb hg; have jM := qY.out; have jP := qW.out; have jN := qZ.out; have jQ := j1.out; have ⟨j6, j7, j8, jm, jn, jo⟩ := cf3 q2) | ((with_reducible refine gate_store (t := 23) (p := 5) rfl ?_); refine sx 23 5 ((((w12.setCell ⟨qq, 0, none⟩ (.int .i64 qe)).setCell ⟨qq, 1, none⟩ (.int .i64 qf)).setCell ⟨qq, 2, none⟩ (.int .i64 qg))) fun w16 hw => ?_; replace q0 := fw hw q0; replace q2 := pw3 hw q2; replace q1 := fw hw q1; replace HB := bw hw HB; clear hw; have jO := j0.out; have jR := qX.out; have ⟨j9, ja, jb, jc, jp, jq, jr, js⟩ := cf4 q1) | ((with_reducible refine gate_store (t := 25) (p := 6) rfl ?_); refine sx 25 6 (((((w16.setCell ⟨q6, 0, none⟩ (.int .i64 qr)).setCell ⟨q6, 1, none⟩ (.int .i64 qs)).setCell ⟨q6, 2, none⟩ (.int .i64 qt)).setCell ⟨q6, 3, none⟩ (.int .i64 qu))) fun w19 hw => ?_; replace q0 := fw hw q0; replace q2 := fw hw q2; replace q1 := pw4 hw q1; replace HB := bw hw HB; clear hw; have ⟨jd, je, jf, jt, ju, jv⟩ := cf3 q2) | ((with_reducible refine gate_callee (f := 39) rfl ?_); refine goesL_ (some 20) rfl rfl Try.func39 (by kernel_rfl) rfl #[.agg #[.int .i64 qe, .int .i64 qf, .int .i64 qg]] rfl am ?_; (with_reducible refine (grids_group.calls k qe qf qg q4 _ A5.out).mono ?_); rintro e w21 ⟨v518, rfl, ho0, hb⟩; refine ⟨_, rfl, ?_⟩; have qG := Aside0.mk (Kd.R_lower (Kd.R_newB ho0 (g := q6) (o := .cells #[.int .i64 qr, .int .i64 qs, .int .i64 qt, .int .i64 qu] 25 (0, 0)) (pk q1)) (below_size (bnow HB))); replace q0 := bb q0 hb; replace q2 := bb q2 hb; replace q1 := bb q1 hb; replace HB := bst HB hb; (try clear hb); (try clear hb2); (try clear hk); (try clear hi); (try clear ho0); obtain ⟨ql, qp, j5⟩ := Kd.R_slice qG.out; subst j5))
  (try simp only [Act.put, List.setIfInBounds_toArray, List.set_cons_zero, List.set_cons_succ])
  go_loopg [23] k (fun kq v23 w' => ∃ (x7_1 : List (S25)) (x23_1 : Int) (x517000_1 : Int) (x517001_1 : Int) (x517002_1 : Int) (x517003_1 : Int), v23 = .int .i64 x23_1 ∧ Aside0 (grids_Group.l0 kq x7_1 (q4.length : Int) x23_1 x517000_1 x517001_1 x517002_1 x517003_1 = some (r1, r2)) ∧ Aside0 (kq ≤ k) ∧ Aside0 (Kd.R k25 25 w' w.heap.size (fun k_ => k_ ≠ q6) (.slice ql q4.length qp) x7_1) ∧ Aside0 (w'.heap[qL]? = some (.cells #[.int .i64 a0_0, .int .i64 a0_1, .int .i64 a0_2] 23 (0, 0))) ∧ Aside0 (w'.heap[qq]? = some (.cells #[.int .i64 qe, .int .i64 qf, .int .i64 qg] 23 (0, 0))) ∧ Aside0 (w'.heap[q6]? = some (.cells #[.int .i64 x517000_1, .int .i64 x517001_1, .int .i64 x517002_1, .int .i64 x517003_1] 25 (0, 0))) ∧ Aside0 (Below w.heap.size w w'))
  case atStart => exact ⟨(q4), (0), (qr), (qs), (qt), (qu), (by first | rfl | (simp; done) | (simp [*]; done)), H', ⟨Nat.le_refl _⟩, ⟨by (with_reducible repeat (first | apply Kd.R_alloc | apply Kd.R_drewN | apply Kd.R_drew)); exact Kd.R_mono qG.out (fun _ hk => hk.2)⟩, ⟨pk q0⟩, ⟨pk q2⟩, ⟨pk q1⟩, ⟨bnow HB⟩⟩
  case round =>
   clear H'
   try clear c1; try clear c2; try clear p2; try clear c3; try clear qH; try clear qI; try clear c13; try clear c14; try clear c17; try clear c22; try clear j6; try clear j7; try clear j8; try clear j9; try clear ja; try clear jb; try clear jc; try clear jd; try clear je; try clear jf; try clear jg; try clear jh; try clear ji; try clear jj; try clear jk; try clear jl; try clear jm; try clear jn; try clear jo; try clear jp; try clear jq; try clear jr; try clear js; try clear jt; try clear ju; try clear jv; try clear jw; try clear jx; try clear jy; try clear jz; try clear jA; try clear jB
   obtain ⟨x7_1, x23_1, x517000_1, x517001_1, x517002_1, x517003_1, rfl, HA, HK1, HO_7, q0, q2, q1, HB⟩ := hrel
   have hl7_1 := (Kd.R_reads' HO_7.out).1
   rw [hl7_1] at HO_7
   (try simp only [hl7_1])
   (try simp only [hl7_1] at q0)
   (try simp only [hl7_1] at q2)
   (try simp only [hl7_1] at q1)
   cases gk with
   | zero => exact absurd HA.out (by simp [grids_Group.l0])
   | succ k1 =>
    have H := HA.out
    clear HA
    simp only [grids_Group.l0] at H
    by_cases c23 : x23_1 < (q4.length : Int)
    ·rw [if_pos c23] at H
     have qx : decide (x23_1 < (q4.length : Int)) = true := decide_eq_true c23
     (try (have qy := qx; simp only [hl7_1] at qy))
     clear c23
     by_cases c24 : 0 ≤ x23_1
     ·rw [if_pos c24] at H
      have jE : decide (0 ≤ x23_1) = true := decide_eq_true c24
      clear c24
      by_cases c25 : x23_1 < (x7_1.length : Int)
      ·rw [if_pos c25] at H
       have j2 : decide (x23_1 < (x7_1.length : Int)) = true := decide_eq_true c25
       (try (have j3 := j2; simp only [hl7_1] at j3))
       clear c25
       obtain ⟨⟨qM, qN, qO, qP⟩, A26, H⟩ := ob H
       obtain ⟨⟨qQ, qR, qS, qT⟩, A27, H⟩ := ob H
       obtain ⟨⟨qh, qi, qj, qk⟩, A28, H⟩ := ob H
       obtain ⟨qU, hy533⟩ : ∃ y_ : List (S25), y_ = (x7_1.set (x23_1 : Int).toNat (⟨qh, qi, qj, qk⟩ : S25)) := ⟨_, rfl⟩
       replace H : ((some (wrap64 (x23_1 + 1))).bind fun q8 => (grids_Group.l0 k1 qU (q4.length : Int) q8 x517000_1 x517001_1 x517002_1 x517003_1)) = some (r1, r2) := by first | (rw [hy533]; with_reducible exact H) | (have H2_ := (Option.bind_some _ _).symm.trans H; rw [hy533]; with_reducible exact H2_) | (have H2_ := (Option.bind_some _ _).symm.trans H; with_reducible exact H2_) | with_reducible exact H | (rw [hy533]; exact H) | exact H
       have Ny533 := Aside0.mk hy533
       clear hy533
       obtain ⟨q8, E300, H⟩ := oc H
       have E30w : (IntKind.i64.wrap (x23_1 + 1)) = q8 := (i64_w _).trans E300
       have H' := Aside0.mk H
       clear H
       try go_wp2
       replace HO_7 := Aside0.mk (Kd.R_drew HO_7.out)
       replace q0 := bd q0
       replace q2 := bd q2
       replace q1 := bd q1
       replace HB := bdn HB
       have qD : 0 ≤ (x23_1 : Int) := of_decide_eq_true (by first | (with_reducible assumption) | assumption)
       have qE : x23_1 < (x7_1.length : Int) := of_decide_eq_true (by first | (with_reducible assumption) | assumption)
       obtain ⟨q7, j4, qz, qA, qB, qC⟩ := at_T25 (Kd.R_reads' HO_7.out).2.2 x23_1 qD qE
       cases j4
       replace qD := eq_true qD
       replace qE := eq_true qE
       refine start_ (n := 13) (S := fun w' => w'.cell? ⟨q6, 0, none⟩ = some (.int .i64 x517000_1) ∧ w'.cell? ⟨q6, 1, none⟩ = some (.int .i64 x517001_1) ∧ w'.cell? ⟨q6, 2, none⟩ = some (.int .i64 x517002_1) ∧ w'.cell? ⟨q6, 3, none⟩ = some (.int .i64 x517003_1) ∧ w'.cell? (q7.add ((x23_1).toNat * 4)) = some (.int .i64 ((rd_T25 x7_1 x23_1).f0)) ∧ w'.cell? ⟨(q7.add ((x23_1).toNat * 4)).block, (q7.add ((x23_1).toNat * 4)).off + 1, none⟩ = some (.int .i64 ((rd_T25 x7_1 x23_1).f1)) ∧ w'.cell? ⟨(q7.add ((x23_1).toNat * 4)).block, (q7.add ((x23_1).toNat * 4)).off + 2, none⟩ = some (.int .i64 ((rd_T25 x7_1 x23_1).f2)) ∧ w'.cell? ⟨(q7.add ((x23_1).toNat * 4)).block, (q7.add ((x23_1).toNat * 4)).off + 3, none⟩ = some (.int .i64 ((rd_T25 x7_1 x23_1).f3))) (ds := [12]) #[false, false, false, false, false, false, false, false, false, false, false, false, false] (by kernel_rfl) rfl rfl ⟨(blk_cell q1.out 0).trans rfl, (blk_cell q1.out 1).trans rfl, (blk_cell q1.out 2).trans rfl, (blk_cell q1.out 3).trans rfl, qz, qA, qB, qC⟩ (fun hHeld => ?_); refine with_tabW grids_Group.tab9 grids_Group.bits9 (fun HT_ HW_ => ?_)
       generalize wr.drew = w31 at HO_7 q0 q2 q1 HB qz qA qB qC hHeld ⊢
       refine pz 0 26 HT_ ?_
       refine pz 1 27 HT_ ?_
       refine pz 3 29 HT_ ?_
       refine pz 4 30 HT_ ?_
       refine pz 5 31 HT_ ?_
       refine tz 2 28 HT_ HW_ hHeld ?_
       refine tz 6 32 HT_ HW_ hHeld ?_
       refine tz 8 34 HT_ HW_ hHeld ?_
       refine one_ (i := 7) (N := some 33) #[true, true, true, true, true, true, true, true, true, false, false, false, false] rfl rfl (one_of HT_.out (by kernel_rfl)) (by decide) (fun K hK => ?_)
       refine gs _ Try.func40 (grids_times.calls x517000_1 x517001_1 x517002_1 x517003_1 ((rd_T25 x7_1 x23_1).f0) ((rd_T25 x7_1 x23_1).f1) ((rd_T25 x7_1 x23_1).f2) ((rd_T25 x7_1 x23_1).f3) qM qN qO qP _ A26.out) ?_
       rintro e w32 ⟨rfl, hb⟩
       have qa := (hb.cell (World.block_lt_of_cell? _ _ (hHeld.2.2.2.2.1))).trans (hHeld.2.2.2.2.1)
       have qb := (hb.cell (World.block_lt_of_cell? _ _ (hHeld.2.2.2.2.2.1))).trans (hHeld.2.2.2.2.2.1)
       have qc := (hb.cell (World.block_lt_of_cell? _ _ (hHeld.2.2.2.2.2.2.1))).trans (hHeld.2.2.2.2.2.2.1)
       have qd := (hb.cell (World.block_lt_of_cell? _ _ (hHeld.2.2.2.2.2.2.2))).trans (hHeld.2.2.2.2.2.2.2)
       refine ⟨_, rfl, ?_⟩
       have n0_ := Aside0.mk (Kd.R_below (by (with_reducible repeat (first | apply Kd.R_alloc | apply Kd.R_drewN | apply Kd.R_drew)); exact HO_7.out) hb)
       have n1_ := bb q0 hb
       have n2_ := bb q2 hb
       have n3_ := bb q1 hb
       have n4_ := bst HB hb
       clear HO_7
       clear q0
       clear q2
       clear q1
       clear HB
       have HO_7 := n0_
       have q0 := n1_
       have q2 := n2_
       have q1 := n3_
       have HB := n4_
       clear n0_ n1_ n2_ n3_ n4_
       (try clear hb)
       (try clear hb2)
       (try clear hk)
       (try clear hi)
       refine hK.out _ _ ⟨(blk_cell q1.out 0).trans rfl, (blk_cell q1.out 1).trans rfl, (blk_cell q1.out 2).trans rfl, (blk_cell q1.out 3).trans rfl, qa, qb, qc, qd⟩ (fun hHeld => ?_)
       clear hK K
       refine norm_ (a' := ?_) ?_ ?_
       rotate_left
       ·show Act.put _ (some 33) _ = _
        simp only [Act.put, List.setIfInBounds_toArray, List.set_cons_zero, List.set_cons_succ, i64_w, i32_w]
        rfl
       refine one_ (i := 9) (N := some 35) #[true, true, true, true, true, true, true, true, true, true, false, false, false] rfl rfl (one_of HT_.out (by kernel_rfl)) (by decide) (fun K hK => ?_)
       refine gs _ Try.func57 (grids_inverse.calls x517000_1 x517001_1 x517002_1 x517003_1 qQ qR qS qT _ A27.out) ?_
       rintro e w33 ⟨rfl, hb⟩
       have qa := (hb.cell (World.block_lt_of_cell? _ _ (hHeld.2.2.2.2.1))).trans (hHeld.2.2.2.2.1)
       have qb := (hb.cell (World.block_lt_of_cell? _ _ (hHeld.2.2.2.2.2.1))).trans (hHeld.2.2.2.2.2.1)
       have qc := (hb.cell (World.block_lt_of_cell? _ _ (hHeld.2.2.2.2.2.2.1))).trans (hHeld.2.2.2.2.2.2.1)
       have qd := (hb.cell (World.block_lt_of_cell? _ _ (hHeld.2.2.2.2.2.2.2))).trans (hHeld.2.2.2.2.2.2.2)
       refine ⟨_, rfl, ?_⟩
       have n0_ := Aside0.mk (Kd.R_below (by (with_reducible repeat (first | apply Kd.R_alloc | apply Kd.R_drewN | apply Kd.R_drew)); exact HO_7.out) hb)
       have n1_ := bb q0 hb
       have n2_ := bb q2 hb
       have n3_ := bb q1 hb
       have n4_ := bst HB hb
       clear HO_7
       clear q0
       clear q2
       clear q1
       clear HB
       have HO_7 := n0_
       have q0 := n1_
       have q2 := n2_
       have q1 := n3_
       have HB := n4_
       clear n0_ n1_ n2_ n3_ n4_
       (try clear hb)
       (try clear hb2)
       (try clear hk)
       (try clear hi)
       refine hK.out _ _ ⟨(blk_cell q1.out 0).trans rfl, (blk_cell q1.out 1).trans rfl, (blk_cell q1.out 2).trans rfl, (blk_cell q1.out 3).trans rfl, qa, qb, qc, qd⟩ (fun hHeld => ?_)
       clear hK K
       refine norm_ (a' := ?_) ?_ ?_
       rotate_left
       ·show Act.put _ (some 35) _ = _
        simp only [Act.put, List.setIfInBounds_toArray, List.set_cons_zero, List.set_cons_succ, i64_w, i32_w]
        rfl
       refine one_ (i := 10) (N := some 36) #[true, true, true, true, true, true, true, true, true, true, true, false, false] rfl rfl (one_of HT_.out (by kernel_rfl)) (by decide) (fun K hK => ?_)
       refine gs _ Try.func40 (grids_times.calls qM qN qO qP qQ qR qS qT qh qi qj qk _ A28.out) ?_
       rintro e w34 ⟨rfl, hb⟩
       have qa := (hb.cell (World.block_lt_of_cell? _ _ (hHeld.2.2.2.2.1))).trans (hHeld.2.2.2.2.1)
       have qb := (hb.cell (World.block_lt_of_cell? _ _ (hHeld.2.2.2.2.2.1))).trans (hHeld.2.2.2.2.2.1)
       have qc := (hb.cell (World.block_lt_of_cell? _ _ (hHeld.2.2.2.2.2.2.1))).trans (hHeld.2.2.2.2.2.2.1)
       have qd := (hb.cell (World.block_lt_of_cell? _ _ (hHeld.2.2.2.2.2.2.2))).trans (hHeld.2.2.2.2.2.2.2)
       refine ⟨_, rfl, ?_⟩
       have n0_ := Aside0.mk (Kd.R_below (by (with_reducible repeat (first | apply Kd.R_alloc | apply Kd.R_drewN | apply Kd.R_drew)); exact HO_7.out) hb)
       have n1_ := bb q0 hb
       have n2_ := bb q2 hb
       have n3_ := bb q1 hb
       have n4_ := bst HB hb
       clear HO_7
       clear q0
       clear q2
       clear q1
       clear HB
       have HO_7 := n0_
       have q0 := n1_
       have q2 := n2_
       have q1 := n3_
       have HB := n4_
       clear n0_ n1_ n2_ n3_ n4_
       (try clear hb)
       (try clear hb2)
       (try clear hk)
       (try clear hi)
       have p29 : 0 ≤ (x23_1 : Int) := of_decide_eq_true (by first | (with_reducible assumption) | assumption)
       have q29 : (x23_1 : Int) < ((x7_1.length : Int) : Int) := of_decide_eq_true (by first | (with_reducible assumption) | assumption)
       obtain ⟨go29, jF, qJ, qK, gl29, cl29, HG29⟩ := Kd.R_form HO_7.out (by omega)
       (first | cases qJ | (injection qJ with ea_ en_ ec_; (first | subst ea_ | (injection ea_ with ea_; subst ea_)); subst ec_; clear en_))
       have GB29 := Aside0.mk qK
       have GG29 := Aside0.mk HG29
       clear qK gl29 HG29
       (first | simp only [add_plain] at qz | skip)
       (first | simp only [add_plain] at qA | skip)
       (first | simp only [add_plain] at qB | skip)
       (first | simp only [add_plain] at qC | skip)
       obtain ⟨ce29, hcl29, hM29, hcc29, hfr29⟩ := Kd.R_elem HO_7.out z25 (x23_1 : Int) p29 q29
       obtain rfl := k25_openM hM29
       have jS : World.cell? _ ⟨go29, (x23_1 : Int).toNat * 4, none⟩ = some (.int .i64 ((rd_T25 x7_1 x23_1).f0)) := hcc29 0 _ rfl
       have jT : World.cell? _ ⟨go29, (x23_1 : Int).toNat * 4 + 1, none⟩ = some (.int .i64 ((rd_T25 x7_1 x23_1).f1)) := hcc29 1 _ rfl
       have jU : World.cell? _ ⟨go29, (x23_1 : Int).toNat * 4 + 2, none⟩ = some (.int .i64 ((rd_T25 x7_1 x23_1).f2)) := hcc29 2 _ rfl
       have jV : World.cell? _ ⟨go29, (x23_1 : Int).toNat * 4 + 3, none⟩ = some (.int .i64 ((rd_T25 x7_1 x23_1).f3)) := hcc29 3 _ rfl
       have hf29_0 : World.frozen? _ ⟨go29, (x23_1 : Int).toNat * 4, none⟩ = false := hfr29 0
       have hf29_1 : World.frozen? _ ⟨go29, (x23_1 : Int).toNat * 4 + 1, none⟩ = false := hfr29 1
       have hf29_2 : World.frozen? _ ⟨go29, (x23_1 : Int).toNat * 4 + 2, none⟩ = false := hfr29 2
       have hf29_3 : World.frozen? _ ⟨go29, (x23_1 : Int).toNat * 4 + 3, none⟩ = false := hfr29 3
       (try rw [World.frozen?_setCells] at hf29_0)
       (try rw [World.frozen?_setCells] at hf29_1)
       (try rw [World.frozen?_setCells] at hf29_2)
       (try rw [World.frozen?_setCells] at hf29_3)
       clear hcl29 hcc29 hfr29 hM29
       replace p29 := eq_true p29
       replace q29 := eq_true q29
       obtain ⟨ce35, hcl35, hM35, hcc35, hfr35⟩ := Kd.R_elem HO_7.out z25 (x23_1 : Int) (of_decide_eq_true (by first | (with_reducible assumption) | assumption)) (by have h_ : (x23_1 : Int) < ((x7_1.length : Int) : Int) := of_decide_eq_true (by first | (with_reducible assumption) | assumption); first | exact h_ | (have e_ := (Kd.R_reads' HO_7.out).1; omega) | simpa using h_)
       obtain rfl := k25_openM hM35
       have HP35 := (Kd.R_seg HO_7.out (x23_1 : Int) (of_decide_eq_true (by first | (with_reducible assumption) | assumption)) (by have h_ : (x23_1 : Int) < ((x7_1.length : Int) : Int) := of_decide_eq_true (by first | (with_reducible assumption) | assumption); first | exact h_ | (have e_ := (Kd.R_reads' HO_7.out).1; omega) | simpa using h_) (seg := [.int .i64 qh, .int .i64 qi, .int .i64 qj, .int .i64 qk]) (j := 0) hcl35 hcc35 (show 4 ≤ 4 from by decide) (x' := (⟨qh, qi, qj, qk⟩ : S25)) (k25_mkM _ _ _ (⟨qh, qi, qj, qk⟩ : S25) ) (fun _ hk => hk)).1
       rw [← Ny533.out] at HP35
       have HQ35 := Aside0.mk HP35
       clear hcl35 hcc35 hfr35 hM35 HP35
       refine hK.out _ _ ⟨(blk_cell q1.out 0).trans rfl, (blk_cell q1.out 1).trans rfl, (blk_cell q1.out 2).trans rfl, (blk_cell q1.out 3).trans rfl, qa, qb, qc, qd⟩ (fun hHeld => ?_)
       clear hK K
       refine norm_ (a' := ?_) ?_ ?_
       rotate_left
       ·show Act.put _ (some 36) _ = _
        simp only [Act.put, List.setIfInBounds_toArray, List.set_cons_zero, List.set_cons_succ, i64_w, i32_w]
        rfl
       refine pz 11 37 HT_ ?_
       refine last_ (i := 12) (N := none) #[true, true, true, true, true, true, true, true, true, true, true, true, true] rfl rfl (one_of HT_.out (by kernel_rfl)) (by decide) (fun K hK => ?_)
       refine skip_ (w1 := ?_) (by rfl) rfl ?_ ?_
       rotate_left
       ·go_simp
        rfl
       refine hK.out _ _ ?_
       clear hK K
       refine done_ (done_of HT_.out (by kernel_rfl)) ?_
       try go_wp2
       (try simp only [← hl7_1])
       go_roundg k1
       case measure => have := HK1.out; omega
       case rel => exact ⟨(qU), (q8), (x517000_1), (x517001_1), (x517002_1), (x517003_1), (by first | rfl | (simp; done) | (simp [*]; done)), H', ⟨by have := HK1.out; omega⟩, ⟨by (try simp only [hl7_1]); (with_reducible repeat (first | apply Kd.R_alloc | apply Kd.R_drewN | apply Kd.R_drew)); exact HQ35.out⟩, ⟨by (try simp only [hl7_1]); (with_reducible repeat (first | refine blk_drewN ?_ _ | refine blk_drew ?_ | refine blk_alloc ?_ _)); refine blk_far ?_ (by have h_ := Kd.R_ne HO_7.out q0.out (by decide); intro e_; exact h_ (by rw [e_]; rfl)) _; (with_reducible repeat (first | refine blk_drewN ?_ _ | refine blk_drew ?_ | refine blk_alloc ?_ _)); refine blk_far ?_ (by have h_ := Kd.R_ne HO_7.out q0.out (by decide); intro e_; exact h_ (by rw [e_]; rfl)) _; (with_reducible repeat (first | refine blk_drewN ?_ _ | refine blk_drew ?_ | refine blk_alloc ?_ _)); refine blk_far ?_ (by have h_ := Kd.R_ne HO_7.out q0.out (by decide); intro e_; exact h_ (by rw [e_]; rfl)) _; (with_reducible repeat (first | refine blk_drewN ?_ _ | refine blk_drew ?_ | refine blk_alloc ?_ _)); refine blk_far ?_ (by have h_ := Kd.R_ne HO_7.out q0.out (by decide); intro e_; exact h_ (by rw [e_]; rfl)) _; (with_reducible repeat (first | refine blk_drewN ?_ _ | refine blk_drew ?_ | refine blk_alloc ?_ _)); exact q0.out⟩, ⟨by (try simp only [hl7_1]); (with_reducible repeat (first | refine blk_drewN ?_ _ | refine blk_drew ?_ | refine blk_alloc ?_ _)); refine blk_far ?_ (by have h_ := Kd.R_ne HO_7.out q2.out (by decide); intro e_; exact h_ (by rw [e_]; rfl)) _; (with_reducible repeat (first | refine blk_drewN ?_ _ | refine blk_drew ?_ | refine blk_alloc ?_ _)); refine blk_far ?_ (by have h_ := Kd.R_ne HO_7.out q2.out (by decide); intro e_; exact h_ (by rw [e_]; rfl)) _; (with_reducible repeat (first | refine blk_drewN ?_ _ | refine blk_drew ?_ | refine blk_alloc ?_ _)); refine blk_far ?_ (by have h_ := Kd.R_ne HO_7.out q2.out (by decide); intro e_; exact h_ (by rw [e_]; rfl)) _; (with_reducible repeat (first | refine blk_drewN ?_ _ | refine blk_drew ?_ | refine blk_alloc ?_ _)); refine blk_far ?_ (by have h_ := Kd.R_ne HO_7.out q2.out (by decide); intro e_; exact h_ (by rw [e_]; rfl)) _; (with_reducible repeat (first | refine blk_drewN ?_ _ | refine blk_drew ?_ | refine blk_alloc ?_ _)); exact q2.out⟩, ⟨by (try simp only [hl7_1]); (with_reducible repeat (first | refine blk_drewN ?_ _ | refine blk_drew ?_ | refine blk_alloc ?_ _)); refine blk_far ?_ (by have h_ := Kd.R_away HO_7.out (fun _ hk => hk); intro e_; exact h_ (by rw [e_]; rfl)) _; (with_reducible repeat (first | refine blk_drewN ?_ _ | refine blk_drew ?_ | refine blk_alloc ?_ _)); refine blk_far ?_ (by have h_ := Kd.R_away HO_7.out (fun _ hk => hk); intro e_; exact h_ (by rw [e_]; rfl)) _; (with_reducible repeat (first | refine blk_drewN ?_ _ | refine blk_drew ?_ | refine blk_alloc ?_ _)); refine blk_far ?_ (by have h_ := Kd.R_away HO_7.out (fun _ hk => hk); intro e_; exact h_ (by rw [e_]; rfl)) _; (with_reducible repeat (first | refine blk_drewN ?_ _ | refine blk_drew ?_ | refine blk_alloc ?_ _)); refine blk_far ?_ (by have h_ := Kd.R_away HO_7.out (fun _ hk => hk); intro e_; exact h_ (by rw [e_]; rfl)) _; (with_reducible repeat (first | refine blk_drewN ?_ _ | refine blk_drew ?_ | refine blk_alloc ?_ _)); exact q1.out⟩, ⟨by repeat (first | (with_reducible first | exact HB.out | apply below_alloc | apply pw_below_drewN | apply below_drew1 | refine below_set ?_ GB29.out | refine below_set ?_ GB29.out | refine below_set ?_ GB29.out | refine below_set ?_ GB29.out | refine below_set ?_ q9.out | refine below_set ?_ qv.out | refine below_set ?_ qw.out) | exact HB.out)⟩⟩
      ·rw [if_neg c25] at H
       exact absurd H (by simp)
     ·rw [if_neg c24] at H
      exact absurd H (by simp)
    ·rw [if_neg c23] at H
     have qx : decide (x23_1 < (q4.length : Int)) = false := decide_eq_false c23
     (try (have qy := qx; simp only [hl7_1] at qy))
     clear c23
     obtain ⟨qF, A36, H⟩ := ob H
     simp only [Option.some.injEq, Prod.mk.injEq] at H
     obtain ⟨rfl, rfl⟩ := H
     go_wp2_with (first | ((with_reducible refine gate_callee (f := 58) rfl ?_); refine goesL_ (some 40) rfl rfl Try.func58 (by kernel_rfl) rfl #[.slice ql x7_1.length qp, .func (.func 42) #[] #[]] rfl am ?_; (with_reducible refine (api_GrMatrix_58.calls k1 (fun k_ => some k_ = (.slice ql x7_1.length qp : Value).ownBlock) (.slice ql x7_1.length qp) x7_1  qF w _ ?side1 ?side2 A36.out).mono ?_); (case side1 => repeat (first | (with_reducible first | exact HB.out | apply below_alloc | apply pw_below_drewN | apply below_drew1 | refine below_set ?_ q9.out | refine below_set ?_ qv.out | refine below_set ?_ qw.out) | exact HB.out)); (case side2 => exact Kd.R_tight rfl HO_7.out); rintro e w37 ⟨rfl, hy0, hb, hkp⟩; refine ⟨_, rfl, ?_⟩; have n0_ := Aside0.mk (Kd.R_reok rfl hy0 (fun k_ e_ => HO_7.out.1 k_ e_)); have n1_ := Aside0.mk (blk_kept (pk q0) hkp (fun hs_ => (fun e_ => (Kd.R_ne HO_7.out q0.out (by decide)) e_) hs_)); have n2_ := Aside0.mk (blk_kept (pk q2) hkp (fun hs_ => (fun e_ => (Kd.R_ne HO_7.out q2.out (by decide)) e_) hs_)); have n3_ := Aside0.mk (blk_kept (pk q1) hkp (fun hs_ => (fun e_ => (Kd.R_away HO_7.out (fun _ hk => hk)) e_) hs_)); have n4_ := Aside0.mk (hb); clear HO_7; clear q0; clear q2; clear q1; clear HB; have HO_7 := n0_; have q0 := n1_; have q2 := n2_; have q1 := n3_; have HB := n4_; clear n0_ n1_ n2_ n3_ n4_; (try clear hb); (try clear hkp); (try clear hy0)))
     go_ret2
     exact ⟨_, by first | rfl | (simp [errW_none, errW_some] <;> rfl) | (simp [*, errW_none, errW_some] <;> rfl), by (with_reducible repeat (first | apply Kd.R_alloc | apply Kd.R_drewN | apply Kd.R_drew)); exact Kd.R_mono HO_7.out (fun _ hk => trivial), by repeat (first | (with_reducible first | exact HB.out | apply below_alloc | apply pw_below_drewN | apply below_drew1 | refine below_set ?_ q9.out | refine below_set ?_ qv.out | refine below_set ?_ qw.out) | exact HB.out)⟩
 ·rw [if_neg c3] at H
  have qH : (q5 == 0) = false := beq_eq_false_iff_ne.mpr c3
  have qI : (q5 != 0) = true := bne_iff_ne.mpr c3
  simp only [Option.some.injEq, Prod.mk.injEq] at H
  obtain ⟨rfl, rfl⟩ := H
  go_enter Try.func22, Try.ntmps22
  go_wp2_with (first | ((with_reducible refine gate_dst (N := 1) rfl ?_); refine bx 1 #[.int .i64 a0_0, .int .i64 a0_1, .int .i64 a0_2] 23 fun qL hg w38 q0 hb => ?_; have qV := gw hg HB; have q9 := gw hg HB; replace HB := bst HB hb; clear hb hg; have ⟨jG, jH, jI, jJ, jK, jL⟩ := cf3 q0) | ((with_reducible refine gate_callee (f := 14) rfl ?_); refine gl 10 Try.func14 (grids_Check.calls k a0_0 a0_1 a0_2 q5 _ A2.out) ?_; rintro e w40 ⟨rfl, hb⟩; refine ⟨_, rfl, ?_⟩; replace q0 := bb q0 hb; replace HB := bst HB hb; clear hb))
  go_ret2
  exact ⟨_, by first | rfl | (simp [errW_none, errW_some] <;> rfl) | (simp [*, errW_none, errW_some] <;> rfl), by first | exact Kd.R_nil _ _ _ _ _ | exact Kd.N_nil _ _ _ _ _ | exact Kd.V_nil _ _ _ _ _ | exact Kd.Q_nil _ _ _ _ _ | exact Kd.S_nil _ _ _ _ _, by repeat (first | (with_reducible first | exact HB.out | apply below_alloc | apply pw_below_drewN | apply below_drew1 | refine below_set ?_ q9.out) | exact HB.out)⟩
end
section
/-! ### grids_matrix: function 59 -/
def grids_matrix.f (a0_0 : Int) (a0_1 : Int) (a0_2 : Int) (a0_3 : Int) : Option (Bool) := (grids_outside.f a0_0 10000).bind fun q4 => (if q4 = true then (some false) else ((grids_outside.f a0_1 10000).bind fun q3 => (if q3 = true then (some false) else ((grids_outside.f a0_2 10000).bind fun q1 => (if q1 = true then (some false) else ((grids_outside.f a0_3 10000).bind fun q0 => (some (!q0))))))))
set_option maxHeartbeats 8000000 in
set_option maxRecDepth 100000 in
theorem grids_matrix.calls (a0_0 : Int) (a0_1 : Int) (a0_2 : Int) (a0_3 : Int) (r : Bool) (w : World) (h : grids_matrix.f a0_0 a0_1 a0_2 a0_3 = some r) :
  Calls Try.prog 59 #[.agg #[.int .i64 a0_0, .int .i64 a0_1, .int .i64 a0_2, .int .i64 a0_3]] w fun e w' => e = .returned (.bool r) ∧ Below w.heap.size w w' := by
 have hu25 := Try.underlying25
 have HB := Aside0.mk (Below.refl w.heap.size w)
 have H : ((grids_outside.f a0_0 10000).bind fun q4 => (if q4 = true then (some false) else ((grids_outside.f a0_1 10000).bind fun q3 => (if q3 = true then (some false) else ((grids_outside.f a0_2 10000).bind fun q1 => (if q1 = true then (some false) else ((grids_outside.f a0_3 10000).bind fun q0 => (some (!q0))))))))) = some r := h
 clear h
 obtain ⟨q4, A2, H⟩ := ob H
 by_cases c3 : q4 = true
 ·subst c3
  have H1 : (some false) = some r := by rw [if_pos rfl] at H; exact H
  clear H
  have H := H1
  clear H1
  obtain rfl := Option.some.inj H
  go_enter Try.func59, Try.ntmps59
  go_wp2_with (first | ((with_reducible refine gate_dst (N := 1) rfl ?_); refine bx 1 #[.int .i64 a0_0, .int .i64 a0_1, .int .i64 a0_2, .int .i64 a0_3] 25 fun q7 hg w4 q2 hb => ?_; have q6 := gw hg HB; have q5 := gw hg HB; replace HB := bst HB hb; clear hb hg; have ⟨qg, qh, qi, qj, qw, qx, qy, qz⟩ := cf4 q2) | ((with_reducible refine gate_callee (f := 46) rfl ?_); refine goesL_ (some 5) rfl rfl Try.func46 (by kernel_rfl) rfl #[.int .i64 a0_0, .int .i64 10000] rfl am ?_; (with_reducible refine (grids_outside.calls a0_0 10000 true _ A2.out).mono ?_); rintro e w' ⟨rfl, ⟨nd, rfl⟩⟩; refine ⟨_, rfl, ?_⟩))
  go_ret
  exact rt HB
 ·replace c3 := Bool.eq_false_iff.mpr c3
  subst c3
  have H1 : ((grids_outside.f a0_1 10000).bind fun q3 => (if q3 = true then (some false) else ((grids_outside.f a0_2 10000).bind fun q1 => (if q1 = true then (some false) else ((grids_outside.f a0_3 10000).bind fun q0 => (some (!q0))))))) = some r := by rw [if_neg (show ¬ (false = true) by decide)] at H; exact H
  clear H
  have H := H1
  clear H1
  obtain ⟨q3, A6, H⟩ := ob H
  by_cases c7 : q3 = true
  ·subst c7
   have H1 : (some false) = some r := by rw [if_pos rfl] at H; exact H
   clear H
   have H := H1
   clear H1
   obtain rfl := Option.some.inj H
   go_enter Try.func59, Try.ntmps59
   go_wp2_with (first | ((with_reducible refine gate_dst (N := 1) rfl ?_); refine bx 1 #[.int .i64 a0_0, .int .i64 a0_1, .int .i64 a0_2, .int .i64 a0_3] 25 fun q7 hg w8 q2 hb => ?_; have q6 := gw hg HB; have q5 := gw hg HB; replace HB := bst HB hb; clear hb hg; have ⟨qk, ql, qm, qn, qA, qB, qC, qD⟩ := cf4 q2) | ((with_reducible refine gate_callee (f := 46) rfl ?_); refine goesL_ (some 5) rfl rfl Try.func46 (by kernel_rfl) rfl #[.int .i64 a0_0, .int .i64 10000] rfl am ?_; (with_reducible refine (grids_outside.calls a0_0 10000 false _ A2.out).mono ?_); rintro e w' ⟨rfl, ⟨nd, rfl⟩⟩; refine ⟨_, rfl, ?_⟩) | (go_at_call 46; (with_reducible refine (grids_outside.calls a0_1 10000 true _ A6.out).mono ?_); rintro e w' ⟨rfl, ⟨nd, rfl⟩⟩))
   go_ret
   exact rt HB
  ·replace c7 := Bool.eq_false_iff.mpr c7
   subst c7
   have H1 : ((grids_outside.f a0_2 10000).bind fun q1 => (if q1 = true then (some false) else ((grids_outside.f a0_3 10000).bind fun q0 => (some (!q0))))) = some r := by rw [if_neg (show ¬ (false = true) by decide)] at H; exact H
   clear H
   have H := H1
   clear H1
   obtain ⟨q1, A10, H⟩ := ob H
   by_cases c11 : q1 = true
   ·subst c11
    have H1 : (some false) = some r := by rw [if_pos rfl] at H; exact H
    clear H
    have H := H1
    clear H1
    obtain rfl := Option.some.inj H
    go_enter Try.func59, Try.ntmps59
    go_wp2_with (first | ((with_reducible refine gate_dst (N := 1) rfl ?_); refine bx 1 #[.int .i64 a0_0, .int .i64 a0_1, .int .i64 a0_2, .int .i64 a0_3] 25 fun q7 hg w12 q2 hb => ?_; have q6 := gw hg HB; have q5 := gw hg HB; replace HB := bst HB hb; clear hb hg; have ⟨q8, q9, qa, qb, qo, qp, qq, qr⟩ := cf4 q2) | ((with_reducible refine gate_callee (f := 46) rfl ?_); refine goesL_ (some 5) rfl rfl Try.func46 (by kernel_rfl) rfl #[.int .i64 a0_0, .int .i64 10000] rfl am ?_; (with_reducible refine (grids_outside.calls a0_0 10000 false _ A2.out).mono ?_); rintro e w' ⟨rfl, ⟨nd, rfl⟩⟩; refine ⟨_, rfl, ?_⟩) | (go_at_call 46; (with_reducible refine (grids_outside.calls a0_1 10000 false _ A6.out).mono ?_); rintro e w' ⟨rfl, ⟨nd, rfl⟩⟩) | (go_at_call 46; (with_reducible refine (grids_outside.calls a0_2 10000 true _ A10.out).mono ?_); rintro e w' ⟨rfl, ⟨nd, rfl⟩⟩))
    go_ret
    exact rt HB
   ·replace c11 := Bool.eq_false_iff.mpr c11
    subst c11
    have H1 : ((grids_outside.f a0_3 10000).bind fun q0 => (some (!q0))) = some r := by rw [if_neg (show ¬ (false = true) by decide)] at H; exact H
    clear H
    have H := H1
    clear H1
    obtain ⟨q0, A14, H⟩ := ob H
    obtain rfl := Option.some.inj H
    go_enter Try.func59, Try.ntmps59
    go_wp2_with (first | ((with_reducible refine gate_dst (N := 1) rfl ?_); refine bx 1 #[.int .i64 a0_0, .int .i64 a0_1, .int .i64 a0_2, .int .i64 a0_3] 25 fun q7 hg w15 q2 hb => ?_; have q6 := gw hg HB; have q5 := gw hg HB; replace HB := bst HB hb; clear hb hg; have ⟨qc, qd, qe, qf, qs, qt, qu, qv⟩ := cf4 q2) | ((with_reducible refine gate_callee (f := 46) rfl ?_); refine goesL_ (some 5) rfl rfl Try.func46 (by kernel_rfl) rfl #[.int .i64 a0_0, .int .i64 10000] rfl am ?_; (with_reducible refine (grids_outside.calls a0_0 10000 false _ A2.out).mono ?_); rintro e w' ⟨rfl, ⟨nd, rfl⟩⟩; refine ⟨_, rfl, ?_⟩) | (go_at_call 46; (with_reducible refine (grids_outside.calls a0_1 10000 false _ A6.out).mono ?_); rintro e w' ⟨rfl, ⟨nd, rfl⟩⟩) | (go_at_call 46; (with_reducible refine (grids_outside.calls a0_2 10000 false _ A10.out).mono ?_); rintro e w' ⟨rfl, ⟨nd, rfl⟩⟩) | (go_at_call 46; (with_reducible refine (grids_outside.calls a0_3 10000 q0 _ A14.out).mono ?_); rintro e w' ⟨rfl, ⟨nd, rfl⟩⟩))
    go_ret
    exact rt HB
end
section
/-! ### grids_move: function 62 -/
def grids_move.f (k : Nat) (a0_0 : Int) (a0_1 : Int) (a0_2 : Int) (a0_3 : Int) (a0_4 : Int) (a0_5 : Int) : Option (Bool) := (grids_matrix.f a0_0 a0_1 a0_2 a0_3).bind fun q4 => (if q4 = true then ((grids_point.f k (([(⟨a0_4, a0_5⟩ : S37)] : List (S37)))).bind fun q1 => (some q1)) else (some false))
theorem grids_move.mono : ∀ a0 a1 a2 a3 a4 a5 k, LeO (grids_move.f k a0 a1 a2 a3 a4 a5) (grids_move.f (k + 1) a0 a1 a2 a3 a4 a5) := by
 intro a0 a1 a2 a3 a4 a5 k
 unfold grids_move.f
 repeat' first
   | (with_reducible exact grids_point.mono _ _)
   | (with_reducible exact LeO.refl _)
   | (with_reducible exact LeO.none _)
   | (with_reducible refine LeO.ite ?_ ?_)
   | (with_reducible refine LeO.bind ?_ (fun _ => ?_))
   | exact grids_point.mono _ _
   | exact LeO.none _
   | refine LeO.ite ?_ ?_
   | refine LeO.bind ?_ (fun _ => ?_)
set_option maxHeartbeats 8000000 in
set_option maxRecDepth 100000 in
theorem grids_move.calls (k : Nat) (a0_0 : Int) (a0_1 : Int) (a0_2 : Int) (a0_3 : Int) (a0_4 : Int) (a0_5 : Int) (r : Bool) (w : World) (h : grids_move.f k a0_0 a0_1 a0_2 a0_3 a0_4 a0_5 = some r) :
  Calls Try.prog 62 #[.agg #[.int .i64 a0_0, .int .i64 a0_1, .int .i64 a0_2, .int .i64 a0_3, .int .i64 a0_4, .int .i64 a0_5]] w fun e w' => e = .returned (.bool r) ∧ Below w.heap.size w w' := by
 have hu55 := Try.underlying55
 have hu25 := Try.underlying25
 have hu37 := Try.underlying37
 have HB := Aside0.mk (Below.refl w.heap.size w)
 have H : ((grids_matrix.f a0_0 a0_1 a0_2 a0_3).bind fun q4 => (if q4 = true then ((grids_point.f k (([(⟨a0_4, a0_5⟩ : S37)] : List (S37)))).bind fun q1 => (some q1)) else (some false))) = some r := h
 clear h
 obtain ⟨q4, A2, H⟩ := ob H
 by_cases c3 : q4 = true
 ·subst c3
  have H1 : ((grids_point.f k (([(⟨a0_4, a0_5⟩ : S37)] : List (S37)))).bind fun q1 => (some q1)) = some r := by rw [if_pos rfl] at H; exact H
  clear H
  have H := H1
  clear H1
  obtain ⟨q5, hy543⟩ : ∃ y_ : List (S37), y_ = (([(⟨a0_4, a0_5⟩ : S37)] : List (S37))) := ⟨_, rfl⟩
  replace H : ((grids_point.f k q5).bind fun q1 => (some q1)) = some r := by first | (rw [hy543]; with_reducible exact H) | (have H2_ := (Option.bind_some _ _).symm.trans H; rw [hy543]; with_reducible exact H2_) | (have H2_ := (Option.bind_some _ _).symm.trans H; with_reducible exact H2_) | with_reducible exact H | (rw [hy543]; exact H) | exact H
  have Ny543 := Aside0.mk hy543
  clear hy543
  obtain ⟨q1, A4, H⟩ := ob H
  obtain rfl := Option.some.inj H
  go_enter Try.func62, Try.ntmps62
  go_wp2_with (first | ((with_reducible refine gate_dst (N := 1) rfl ?_); (try (refine gate_guard (by rfl) ?_; dsimp only)); refine bx 1 #[.int .i64 a0_0, .int .i64 a0_1, .int .i64 a0_2, .int .i64 a0_3, .int .i64 a0_4, .int .i64 a0_5] 55 fun q9 hg w5 q0 hb => ?_; have q7 := gw hg HB; have q6 := gw hg HB; replace HB := bst HB hb; clear hb hg; have ⟨qi, qj, qk, ql, qm, qn, qA, qB, qC, qD, qE, qF⟩ := cf6 q0) | ((with_reducible refine gate_callee (f := 59) rfl ?_); refine gl 5 Try.func59 (grids_matrix.calls a0_0 a0_1 a0_2 a0_3 true _ A2.out) ?_; rintro e w7 ⟨rfl, hb⟩; refine ⟨_, rfl, ?_⟩; replace q0 := bb q0 hb; replace HB := bst HB hb; clear hb; have ⟨qo, qp, qq, qr, qs, qt, qG, qH, qI, qJ, qK, qL⟩ := cf6 q0) | ((with_reducible refine gate_dst (N := 9) rfl ?_); (try (refine gate_guard (by rfl) ?_; dsimp only)); refine Kd.R_lit k37 _ 37 ?hg (N := 9) ?hd (xs := ([(⟨a0_4, a0_5⟩ : S37)] : List (S37))) (inner := [.int .i64 a0_4, .int .i64 a0_5]) (ok := fun _ => True) (okp := fun _ => True) ?hr ?hp (fun _ hk => hk) trivial (Below.refl _ _) (Nat.le_refl _) (by simp) ?_; (case hd => rfl); (case hg => rfl); (case hr => first | (go_simp; done) | (go_simp; rfl)); (case hp => exact (Reps.c2 (show Kd.M k37 _ _ _ (⟨a0_4, a0_5⟩ : S37) [.int .i64 a0_4, .int .i64 a0_5] from (k37_mkM _ _ _ (⟨a0_4, a0_5⟩ : S37) )) (Reps.none _ _))); intro v544 w9 q3 hb hg_ hnew_; clear hg_ hnew_; (first | rw [← Ny543.out] at q3 | (simp only [Int.reduceToNat] at q3; rw [← Ny543.out] at q3)); have q2 := Aside0.mk (Kd.R_lower q3 (below_size (bnow HB))); replace q0 := bb q0 hb; replace HB := bst HB hb; clear hb q3; obtain ⟨qa, qb, q8⟩ := Kd.R_slice q2.out; subst q8) | (go_at_call 49; (with_reducible refine (grids_point.calls k _ _ q5 q1 _ ?side1 ?side2 A4.out).mono ?_); (case side1 => repeat (first | exact (Kd.R_reads' q2.out).2.2 | (with_reducible refine Kd.C_alloc ?_ _) | (with_reducible refine Kd.C_drewN ?_ _) | (with_reducible refine Kd.C_drew ?_))); (case side2 => exact (Kd.R_reads' q2.out).2.1); rintro e w12 ⟨rfl, hb⟩; replace q2 := Aside0.mk (Kd.R_below (by (with_reducible repeat (first | apply Kd.R_alloc | apply Kd.R_drewN | apply Kd.R_drew)); exact q2.out) hb); replace q0 := bb q0 hb; replace HB := bst HB hb; (try clear hb); (try clear hb2); (try clear hk); (try clear hi)))
  go_ret
  exact rt HB
 ·replace c3 := Bool.eq_false_iff.mpr c3
  subst c3
  have H1 : (some false) = some r := by rw [if_neg (show ¬ (false = true) by decide)] at H; exact H
  clear H
  have H := H1
  clear H1
  obtain rfl := Option.some.inj H
  go_enter Try.func62, Try.ntmps62
  go_wp2_with (first | ((with_reducible refine gate_dst (N := 1) rfl ?_); (try (refine gate_guard (by rfl) ?_; dsimp only)); refine bx 1 #[.int .i64 a0_0, .int .i64 a0_1, .int .i64 a0_2, .int .i64 a0_3, .int .i64 a0_4, .int .i64 a0_5] 55 fun q9 hg w13 q0 hb => ?_; have q7 := gw hg HB; have q6 := gw hg HB; replace HB := bst HB hb; clear hb hg; have ⟨qc, qd, qe, qf, qg, qh, qu, qv, qw, qx, qy, qz⟩ := cf6 q0) | ((with_reducible refine gate_callee (f := 59) rfl ?_); refine gl 5 Try.func59 (grids_matrix.calls a0_0 a0_1 a0_2 a0_3 false _ A2.out) ?_; rintro e w15 ⟨rfl, hb⟩; refine ⟨_, rfl, ?_⟩; replace q0 := bb q0 hb; replace HB := bst HB hb; clear hb))
  go_ret
  exact rt HB
end
section
/-! ### grids_image: function 63 -/
def grids_image.f (a0_0 : Int) (a0_1 : Int) (a0_2 : Int) (a0_3 : Int) (a0_4 : Int) (a0_5 : Int) (a1_0 : Int) (a1_1 : Int) : Option (Int × Int) := (some (wrap64 (a0_0 * a1_0))).bind fun q2 => ((some (wrap64 (a0_1 * a1_1))).bind fun q3 => ((some (wrap64 (q2 + q3))).bind fun q4 => ((some (wrap64 (q4 + a0_4))).bind fun q1 => ((some (wrap64 (a0_2 * a1_0))).bind fun q5 => ((some (wrap64 (a0_3 * a1_1))).bind fun q6 => ((some (wrap64 (q5 + q6))).bind fun q7 => ((some (wrap64 (q7 + a0_5))).bind fun q8 => (some (q1, q8)))))))))
set_option maxHeartbeats 8000000 in
set_option maxRecDepth 100000 in
theorem grids_image.calls (a0_0 : Int) (a0_1 : Int) (a0_2 : Int) (a0_3 : Int) (a0_4 : Int) (a0_5 : Int) (a1_0 : Int) (a1_1 : Int) (r1 : Int) (r2 : Int) (w : World) (h : grids_image.f a0_0 a0_1 a0_2 a0_3 a0_4 a0_5 a1_0 a1_1 = some (r1, r2)) :
  Calls Try.prog 63 #[.agg #[.int .i64 a0_0, .int .i64 a0_1, .int .i64 a0_2, .int .i64 a0_3, .int .i64 a0_4, .int .i64 a0_5], .agg #[.int .i64 a1_0, .int .i64 a1_1]] w fun e w' => e = .returned (.agg #[.int .i64 r1, .int .i64 r2]) ∧ Below w.heap.size w w' := by
 have hu55 := Try.underlying55
 have hu37 := Try.underlying37
 have HB := Aside0.mk (Below.refl w.heap.size w)
 have H : ((some (wrap64 (a0_0 * a1_0))).bind fun q2 => ((some (wrap64 (a0_1 * a1_1))).bind fun q3 => ((some (wrap64 (q2 + q3))).bind fun q4 => ((some (wrap64 (q4 + a0_4))).bind fun q1 => ((some (wrap64 (a0_2 * a1_0))).bind fun q5 => ((some (wrap64 (a0_3 * a1_1))).bind fun q6 => ((some (wrap64 (q5 + q6))).bind fun q7 => ((some (wrap64 (q7 + a0_5))).bind fun q8 => (some (q1, q8)))))))))) = some (r1, r2) := h
 clear h
 obtain ⟨q2, E30, H⟩ := oc H
 have E3w : (IntKind.i64.wrap (a0_0 * a1_0)) = q2 := (i64_w _).trans E30
 obtain ⟨q3, E40, H⟩ := oc H
 have E4w : (IntKind.i64.wrap (a0_1 * a1_1)) = q3 := (i64_w _).trans E40
 obtain ⟨q4, E50, H⟩ := oc H
 have E5w : (IntKind.i64.wrap (q2 + q3)) = q4 := (i64_w _).trans E50
 obtain ⟨q1, E60, H⟩ := oc H
 have E6w : (IntKind.i64.wrap (q4 + a0_4)) = q1 := (i64_w _).trans E60
 obtain ⟨q5, E70, H⟩ := oc H
 have E7w : (IntKind.i64.wrap (a0_2 * a1_0)) = q5 := (i64_w _).trans E70
 obtain ⟨q6, E80, H⟩ := oc H
 have E8w : (IntKind.i64.wrap (a0_3 * a1_1)) = q6 := (i64_w _).trans E80
 obtain ⟨q7, E90, H⟩ := oc H
 have E9w : (IntKind.i64.wrap (q5 + q6)) = q7 := (i64_w _).trans E90
 obtain ⟨q8, E100, H⟩ := oc H
 have E10w : (IntKind.i64.wrap (q7 + a0_5)) = q8 := (i64_w _).trans E100
 simp only [Option.some.injEq, Prod.mk.injEq] at H
 obtain ⟨rfl, rfl⟩ := H
 go_enter Try.func63, Try.ntmps63
 go_wp2_with (first | ((with_reducible refine gate_dst (N := 2) rfl ?_); refine bx 2 #[.int .i64 a0_0, .int .i64 a0_1, .int .i64 a0_2, .int .i64 a0_3, .int .i64 a0_4, .int .i64 a0_5] 55 fun qo hg w11 q0 hb => ?_; have ql := gw hg HB; have qi := gw hg HB; replace HB := bst HB hb; clear hb hg) | ((with_reducible refine gate_dst (N := 3) rfl ?_); refine bx 3 #[.int .i64 a1_0, .int .i64 a1_1] 37 fun qp hg w12 q9 hb => ?_; have qm := gw hg HB; have qj := gw hg HB; have qb := nlt hg q0; have qd := ngt hg q0; replace q0 := bb q0 hb; replace HB := bst HB hb; clear hb hg) | ((with_reducible refine gate_dst (N := 4) rfl ?_); refine bx 4 #[.int .i64 0, .int .i64 0] 37 fun qh hg w13 qa hb => ?_; have qn := gw hg HB; have qk := gw hg HB; have qc := nlt hg q0; have qf := ngt hg q0; have qe := nlt hg q9; have qg := ngt hg q9; replace q0 := bb q0 hb; replace q9 := bb q9 hb; replace HB := bst HB hb; clear hb hg; have qK := qb.out; have qN := qd.out; have qL := qc.out; have qO := qf.out; have ⟨qq, qr, qs, qt, qu, qv, qA, qB, qC, qD, qE, qF⟩ := cf6 q0; have qM := qe.out; have qP := qg.out; have ⟨qw, qx, qG, qH⟩ := cf2 q9; have ⟨qy, qz, qI, qJ⟩ := cf2 qa))
 refine bodyPost_ret (results_cell_row rfl _ _ qh 37 #[.int .i64 q1, .int .i64 q8] (0, 0) _ rfl (by (with_reducible repeat (first | refine blk_drewN ?_ _ | refine blk_drew ?_ | refine blk_alloc ?_ _)); refine blk_put (cs := #[.int .i64 q1, .int .i64 0]) ?_ 1 _ rfl; (with_reducible repeat (first | refine blk_drewN ?_ _ | refine blk_drew ?_ | refine blk_alloc ?_ _)); refine blk_put (cs := #[.int .i64 0, .int .i64 0]) ?_ 0 _ rfl; (with_reducible repeat (first | refine blk_drewN ?_ _ | refine blk_drew ?_ | refine blk_alloc ?_ _)); exact qa.out) Try.underlying37 rfl (by kernel_rfl)) rfl ?_
 exact rt HB
end
section
/-! ### grids_Apply: function 27 -/
def grids_Apply.j0 : Nat → Bool → Int → Int → Int → Int → Int → Int → Int → Int → Option (Int × Int × Int)
 | 0, _, _, _, _, _, _, _, _, _ => none
 | k + 1, x15, x559000, x559001, x559002, x559003, x559004, x559005, x560000, x560001 => if x15 = true then (some (0, 0, 2)) else ((grids_image.f x559000 x559001 x559002 x559003 x559004 x559005 x560000 x560001).bind fun qa => ((grids_point.f k (([(⟨qa.1, qa.2⟩ : S37)] : List (S37)))).bind fun qd => (if qd = true then (some (qa.1, qa.2, 0)) else (some (0, 0, 7)))))
def grids_Apply.f (k : Nat) (a0_0 : Int) (a0_1 : Int) (a0_2 : Int) (a0_3 : Int) (a0_4 : Int) (a0_5 : Int) (a1_0 : Int) (a1_1 : Int) : Option (Int × Int × Int) := (grids_move.f k a0_0 a0_1 a0_2 a0_3 a0_4 a0_5).bind fun qm => (if qm = true then ((grids_point.f k (([(⟨a1_0, a1_1⟩ : S37)] : List (S37)))).bind fun q9 => (grids_Apply.j0 k (!q9) a0_0 a0_1 a0_2 a0_3 a0_4 a0_5 a1_0 a1_1)) else (grids_Apply.j0 k true a0_0 a0_1 a0_2 a0_3 a0_4 a0_5 a1_0 a1_1))
theorem grids_Apply.mono_l : ∀ k, (∀ y0 y1 y2 y3 y4 y5 y6 y7 y8, LeO (grids_Apply.j0 k y0 y1 y2 y3 y4 y5 y6 y7 y8) (grids_Apply.j0 (k + 1) y0 y1 y2 y3 y4 y5 y6 y7 y8))
 | 0 => fun _ _ _ _ _ _ _ _ _ r h => by simp [grids_Apply.j0] at h
 | k + 1 => by
  have ih0 := grids_Apply.mono_l k
  ·intro y0 y1 y2 y3 y4 y5 y6 y7 y8
   unfold grids_Apply.j0
   repeat' first
   | (with_reducible exact ih0 _ _ _ _ _ _ _ _ _)
   | (with_reducible exact grids_move.mono _ _ _ _ _ _ _)
   | (with_reducible exact grids_point.mono _ _)
   | (with_reducible exact LeO.refl _)
   | (with_reducible exact LeO.none _)
   | (with_reducible refine LeO.ite ?_ ?_)
   | (with_reducible refine LeO.bind ?_ (fun _ => ?_))
   | exact ih0 _ _ _ _ _ _ _ _ _
   | exact grids_move.mono _ _ _ _ _ _ _
   | exact grids_point.mono _ _
   | exact LeO.none _
   | refine LeO.ite ?_ ?_
   | refine LeO.bind ?_ (fun _ => ?_)
theorem grids_Apply.mono : ∀ a0 a1 a2 a3 a4 a5 a6 a7 k, LeO (grids_Apply.f k a0 a1 a2 a3 a4 a5 a6 a7) (grids_Apply.f (k + 1) a0 a1 a2 a3 a4 a5 a6 a7) := by
 intro a0 a1 a2 a3 a4 a5 a6 a7 k
 have ih0 := grids_Apply.mono_l k
 unfold grids_Apply.f
 repeat' first
   | (with_reducible exact ih0 _ _ _ _ _ _ _ _ _)
   | (with_reducible exact grids_move.mono _ _ _ _ _ _ _)
   | (with_reducible exact grids_point.mono _ _)
   | (with_reducible exact LeO.refl _)
   | (with_reducible exact LeO.none _)
   | (with_reducible refine LeO.ite ?_ ?_)
   | (with_reducible refine LeO.bind ?_ (fun _ => ?_))
   | exact ih0 _ _ _ _ _ _ _ _ _
   | exact grids_move.mono _ _ _ _ _ _ _
   | exact grids_point.mono _ _
   | exact LeO.none _
   | refine LeO.ite ?_ ?_
   | refine LeO.bind ?_ (fun _ => ?_)
set_option maxHeartbeats 8000000 in
set_option maxRecDepth 100000 in
theorem grids_Apply.calls (k : Nat) (a0_0 : Int) (a0_1 : Int) (a0_2 : Int) (a0_3 : Int) (a0_4 : Int) (a0_5 : Int) (a1_0 : Int) (a1_1 : Int) (r1 : Int) (r2 : Int) (r3 : Int) (w : World) (h : grids_Apply.f k a0_0 a0_1 a0_2 a0_3 a0_4 a0_5 a1_0 a1_1 = some (r1, r2, r3)) :
  Calls Try.prog 27 #[.agg #[.int .i64 a0_0, .int .i64 a0_1, .int .i64 a0_2, .int .i64 a0_3, .int .i64 a0_4, .int .i64 a0_5], .agg #[.int .i64 a1_0, .int .i64 a1_1]] w fun e w' => e = .returned (.tuple #[.agg #[.int .i64 r1, .int .i64 r2], .int .i64 r3]) ∧ Below w.heap.size w w' := by
 have hu55 := Try.underlying55
 have hu37 := Try.underlying37
 have HB := Aside0.mk (Below.refl w.heap.size w)
 have H : ((grids_move.f k a0_0 a0_1 a0_2 a0_3 a0_4 a0_5).bind fun qm => (if qm = true then ((grids_point.f k (([(⟨a1_0, a1_1⟩ : S37)] : List (S37)))).bind fun q9 => (grids_Apply.j0 k (!q9) a0_0 a0_1 a0_2 a0_3 a0_4 a0_5 a1_0 a1_1)) else (grids_Apply.j0 k true a0_0 a0_1 a0_2 a0_3 a0_4 a0_5 a1_0 a1_1))) = some (r1, r2, r3) := h
 clear h
 have HC3 := Aside0.mk H
 clear H
 go_enter Try.func27, Try.ntmps27
 go_upto_region 1 with (first | ((with_reducible refine gate_dst (N := 2) rfl ?_); (try (refine gate_guard (by rfl) ?_; dsimp only)); refine bx 2 #[.int .i64 a0_0, .int .i64 a0_1, .int .i64 a0_2, .int .i64 a0_3, .int .i64 a0_4, .int .i64 a0_5] 55 fun qv hg w4 q0 hb => ?_; have jc := gw hg HB; have j9 := gw hg HB; replace HB := bst HB hb; clear hb hg) | ((with_reducible refine gate_dst (N := 3) rfl ?_); (try (refine gate_guard (by rfl) ?_; dsimp only)); refine bx 3 #[.int .i64 a1_0, .int .i64 a1_1] 37 fun qe hg w5 q1 hb => ?_; have jd := gw hg HB; have ja := gw hg HB; have qo := nlt hg q0; have qp := ngt hg q0; replace q0 := bb q0 hb; replace HB := bst HB hb; clear hb hg) | ((with_reducible refine gate_dst (N := 4) rfl ?_); (try (refine gate_guard (by rfl) ?_; dsimp only)); refine bx 4 #[.int .i64 0, .int .i64 0] 37 fun qb hg w6 q2 hb => ?_; have je := gw hg HB; have jb := gw hg HB; have qg := nlt hg q0; have qh := ngt hg q0; have qq := nlt hg q1; have qr := ngt hg q1; replace q0 := bb q0 hb; replace q1 := bb q1 hb; replace HB := bst HB hb; clear hb hg))
 (try simp only [Act.put, List.setIfInBounds_toArray, List.set_cons_zero, List.set_cons_succ])
 go_cut [15] (fun v15 wc => ∃ (kq : Nat) (x15_2 : Bool), v15 = .bool x15_2 ∧ Aside0 (grids_Apply.j0 kq x15_2 a0_0 a0_1 a0_2 a0_3 a0_4 a0_5 a1_0 a1_1 = some (r1, r2, r3)) ∧ Aside0 (kq ≤ k) ∧ Aside0 (wc.heap[qv]? = some (.cells #[.int .i64 a0_0, .int .i64 a0_1, .int .i64 a0_2, .int .i64 a0_3, .int .i64 a0_4, .int .i64 a0_5] 55 (0, 0))) ∧ Aside0 (wc.heap[qe]? = some (.cells #[.int .i64 a1_0, .int .i64 a1_1] 37 (0, 0))) ∧ Aside0 (wc.heap[qb]? = some (.cells #[.int .i64 0, .int .i64 0] 37 (0, 0))) ∧ Aside0 (Below w.heap.size w wc))
 case first =>
  have H := HC3.out
  clear HC3
  obtain ⟨qm, A7, H⟩ := ob H
  by_cases c8 : qm = true
  ·subst c8
   have H1 : ((grids_point.f k (([(⟨a1_0, a1_1⟩ : S37)] : List (S37)))).bind fun q9 => (grids_Apply.j0 k (!q9) a0_0 a0_1 a0_2 a0_3 a0_4 a0_5 a1_0 a1_1)) = some (r1, r2, r3) := by rw [if_pos rfl] at H; exact H
   clear H
   have H := H1
   clear H1
   obtain ⟨qw, hy562⟩ : ∃ y_ : List (S37), y_ = (([(⟨a1_0, a1_1⟩ : S37)] : List (S37))) := ⟨_, rfl⟩
   replace H : ((grids_point.f k qw).bind fun q9 => (grids_Apply.j0 k (!q9) a0_0 a0_1 a0_2 a0_3 a0_4 a0_5 a1_0 a1_1)) = some (r1, r2, r3) := by first | (rw [hy562]; with_reducible exact H) | (have H2_ := (Option.bind_some _ _).symm.trans H; rw [hy562]; with_reducible exact H2_) | (have H2_ := (Option.bind_some _ _).symm.trans H; with_reducible exact H2_) | with_reducible exact H | (rw [hy562]; exact H) | exact H
   have Ny562 := Aside0.mk hy562
   clear hy562
   obtain ⟨q9, A9, H⟩ := ob H
   have H' := Aside0.mk H
   clear H
   have ga := qo.out
   have gu := qp.out
   have gb := qg.out
   have gv := qh.out
   have ⟨qG, qH, qI, qJ, qK, qL, qU, qV, qW, qX, qY, qZ⟩ := cf6 q0
   go_wp2_with (first | ((with_reducible refine gate_callee (f := 62) rfl ?_); refine gl 8 Try.func62 (grids_move.calls k a0_0 a0_1 a0_2 a0_3 a0_4 a0_5 true _ A7.out) ?_; rintro e w13 ⟨rfl, hb⟩; refine ⟨_, rfl, ?_⟩; replace q0 := bb q0 hb; replace q1 := bb q1 hb; replace q2 := bb q2 hb; replace HB := bst HB hb; clear hb; have gc := qq.out; have gx := qr.out; have ⟨qM, qN, j0, j1⟩ := cf2 q1) | ((with_reducible refine gate_dst (N := 12) rfl ?_); (try (refine gate_guard (by rfl) ?_; dsimp only)); refine Kd.R_lit k37 _ 37 ?hg (N := 12) ?hd (xs := ([(⟨a1_0, a1_1⟩ : S37)] : List (S37))) (inner := [.int .i64 a1_0, .int .i64 a1_1]) (ok := fun _ => True) (okp := fun _ => True) ?hr ?hp (fun _ hk => hk) trivial (Below.refl _ _) (Nat.le_refl _) (by simp) ?_; (case hd => rfl); (case hg => rfl); (case hr => first | (go_simp; done) | (go_simp; rfl)); (case hp => exact (Reps.c2 (show Kd.M k37 _ _ _ (⟨a1_0, a1_1⟩ : S37) [.int .i64 a1_0, .int .i64 a1_1] from (k37_mkM _ _ _ (⟨a1_0, a1_1⟩ : S37) )) (Reps.none _ _))); intro v563 w16 qj hb hg_ hnew_; clear hg_ hnew_; (first | rw [← Ny562.out] at qj | (simp only [Int.reduceToNat] at qj; rw [← Ny562.out] at qj)); have qf := Aside0.mk (Kd.R_lower (Kd.R_newB (Kd.R_newB qj (g := qe) (o := .cells #[.int .i64 a1_0, .int .i64 a1_1] 37 (0, 0)) (pk q1)) (g := qb) (o := .cells #[.int .i64 0, .int .i64 0] 37 (0, 0)) (pk q2)) (below_size (bnow HB))); replace q0 := bb q0 hb; replace q1 := bb q1 hb; replace q2 := bb q2 hb; replace HB := bst HB hb; clear hb qj; obtain ⟨j8, jf, qD⟩ := Kd.R_slice qf.out; subst qD) | (go_at_call 49; (with_reducible refine (grids_point.calls k _ _ qw q9 _ ?side1 ?side2 A9.out).mono ?_); (case side1 => repeat (first | exact (Kd.R_reads' qf.out).2.2 | (with_reducible refine Kd.C_alloc ?_ _) | (with_reducible refine Kd.C_drewN ?_ _) | (with_reducible refine Kd.C_drew ?_))); (case side2 => exact (Kd.R_reads' qf.out).2.1); rintro e w19 ⟨rfl, hb⟩; replace qf := Aside0.mk (Kd.R_below (by (with_reducible repeat (first | apply Kd.R_alloc | apply Kd.R_drewN | apply Kd.R_drew)); exact qf.out) hb); replace q0 := bb q0 hb; replace q1 := bb q1 hb; replace q2 := bb q2 hb; replace HB := bst HB hb; (try clear hb); (try clear hb2); (try clear hk); (try clear hi)))
   go_meet
   case rel => exact ⟨_, (!q9), (by first | rfl | (simp; done) | (simp [*]; done)), H', ⟨by first | omega | exact Nat.le_refl _⟩, ⟨pk q0⟩, ⟨pk q1⟩, ⟨pk q2⟩, ⟨bnow HB⟩⟩
  ·replace c8 := Bool.eq_false_iff.mpr c8
   subst c8
   have H1 : (grids_Apply.j0 k true a0_0 a0_1 a0_2 a0_3 a0_4 a0_5 a1_0 a1_1) = some (r1, r2, r3) := by rw [if_neg (show ¬ (false = true) by decide)] at H; exact H
   clear H
   have H := H1
   clear H1
   have H' := Aside0.mk H
   clear H
   have gd := qo.out
   have gy := qp.out
   have ge := qg.out
   have gz := qh.out
   have ⟨qO, qP, qQ, qR, qS, qT, j2, j3, j4, j5, j6, j7⟩ := cf6 q0
   go_wp2_with (first | ((with_reducible refine gate_callee (f := 62) rfl ?_); refine gl 8 Try.func62 (grids_move.calls k a0_0 a0_1 a0_2 a0_3 a0_4 a0_5 false _ A7.out) ?_; rintro e w23 ⟨rfl, hb⟩; refine ⟨_, rfl, ?_⟩; replace q0 := bb q0 hb; replace q1 := bb q1 hb; replace q2 := bb q2 hb; replace HB := bst HB hb; clear hb))
   go_meet
   case rel => exact ⟨_, (true), (by first | rfl | (simp; done) | (simp [*]; done)), H', ⟨by first | omega | exact Nat.le_refl _⟩, ⟨pk q0⟩, ⟨pk q1⟩, ⟨pk q2⟩, ⟨bnow HB⟩⟩
 case rest =>
  clear HC3
  try clear c1; try clear c2; try clear p2; try clear c6; try clear c8; try clear c10; try clear c11; try clear c14; try clear c20; try clear c21; try clear qG; try clear qH; try clear qI; try clear qJ; try clear qK; try clear qL; try clear qM; try clear qN; try clear qO; try clear qP; try clear qQ; try clear qR; try clear qS; try clear qT; try clear qU; try clear qV; try clear qW; try clear qX; try clear qY; try clear qZ; try clear j0; try clear j1; try clear j2; try clear j3; try clear j4; try clear j5; try clear j6; try clear j7
  obtain ⟨kq, x15_2, rfl, HA, HJ2, q0, q1, q2, HB⟩ := hcut
  cases kq with
  | zero => exact absurd HA.out (by simp [grids_Apply.j0])
  | succ kj2 =>
   have H := HA.out
   clear HA
   simp only [grids_Apply.j0] at H
   by_cases c24 : x15_2 = true
   ·subst c24
    have H1 : (some (0, 0, 2)) = some (r1, r2, r3) := by rw [if_pos rfl] at H; exact H
    clear H
    have H := H1
    clear H1
    simp only [Option.some.injEq, Prod.mk.injEq] at H
    obtain ⟨rfl, rfl, rfl⟩ := H
    have gf := qh.out
    have gA := qg.out
    have gg := qr.out
    have gB := qq.out
    have ⟨jg, jh, jI, jJ⟩ := cf2 q2
    go_wp2
    refine bodyPost_ret (results_ct rfl _ _ qb 37 #[.int .i64 0, .int .i64 0] (0, 0) _ rfl (by (with_reducible repeat (first | refine blk_drewN ?_ _ | refine blk_drew ?_ | refine blk_alloc ?_ _)); refine blk_put (cs := #[.int .i64 0, .int .i64 0]) ?_ 1 _ rfl; (with_reducible repeat (first | refine blk_drewN ?_ _ | refine blk_drew ?_ | refine blk_alloc ?_ _)); refine blk_put (cs := #[.int .i64 0, .int .i64 0]) ?_ 0 _ rfl; (with_reducible repeat (first | refine blk_drewN ?_ _ | refine blk_drew ?_ | refine blk_alloc ?_ _)); exact q2.out) Try.underlying37 rfl (by kernel_rfl)) rfl ?_
    exact rt HB
   ·replace c24 := Bool.eq_false_iff.mpr c24
    subst c24
    have H1 : ((grids_image.f a0_0 a0_1 a0_2 a0_3 a0_4 a0_5 a1_0 a1_1).bind fun qa => ((grids_point.f kj2 (([(⟨qa.1, qa.2⟩ : S37)] : List (S37)))).bind fun qd => (if qd = true then (some (qa.1, qa.2, 0)) else (some (0, 0, 7))))) = some (r1, r2, r3) := by rw [if_neg (show ¬ (false = true) by decide)] at H; exact H
    clear H
    have H := H1
    clear H1
    obtain ⟨⟨q3, q4⟩, A28, H⟩ := ob H
    obtain ⟨qn, hy569⟩ : ∃ y_ : List (S37), y_ = (([(⟨q3, q4⟩ : S37)] : List (S37))) := ⟨_, rfl⟩
    replace H : ((grids_point.f kj2 qn).bind fun qd => (if qd = true then (some (q3, q4, 0)) else (some (0, 0, 7)))) = some (r1, r2, r3) := by first | (rw [hy569]; with_reducible exact H) | (have H2_ := (Option.bind_some _ _).symm.trans H; rw [hy569]; with_reducible exact H2_) | (have H2_ := (Option.bind_some _ _).symm.trans H; with_reducible exact H2_) | with_reducible exact H | (rw [hy569]; exact H) | exact H
    have Ny569 := Aside0.mk hy569
    clear hy569
    obtain ⟨qd, A29, H⟩ := ob H
    by_cases c30 : qd = true
    ·subst c30
     have H1 : (some (q3, q4, 0)) = some (r1, r2, r3) := by rw [if_pos rfl] at H; exact H
     clear H
     have H := H1
     clear H1
     simp only [Option.some.injEq, Prod.mk.injEq] at H
     obtain ⟨rfl, rfl, rfl⟩ := H
     have gh := qo.out
     have gC := qp.out
     have gi := qg.out
     have gD := qh.out
     have ⟨ji, jj, jk, jl, jm, jn, jK, jL, jM, jN, jO, jP⟩ := cf6 q0
     have gj := qq.out
     have gE := qr.out
     have ⟨jo, jp, jQ, jR⟩ := cf2 q1
     go_wp2_with (first | ((with_reducible refine gate_callee (f := 63) rfl ?_); refine gl 19 Try.func63 (grids_image.calls a0_0 a0_1 a0_2 a0_3 a0_4 a0_5 a1_0 a1_1 q3 q4 _ A28.out) ?_; rintro e w36 ⟨rfl, hb⟩; refine ⟨_, rfl, ?_⟩; replace q0 := bb q0 hb; replace q1 := bb q1 hb; replace q2 := bb q2 hb; replace HB := bst HB hb; clear hb) | ((with_reducible refine gate_dst (N := 6) rfl ?_); (try (refine gate_guard (by rfl) ?_; dsimp only)); refine bx 6 #[.int .i64 0, .int .i64 0] 37 fun qi hg w37 q5 hb => ?_; have qA := gw hg HB; have qz := gw hg HB; have qc := nlt hg q0; have qs := ngt hg q0; have q7 := nlt hg q1; have qt := ngt hg q1; have q8 := nlt hg q2; have qu := ngt hg q2; replace q0 := bb q0 hb; replace q1 := bb q1 hb; replace q2 := bb q2 hb; replace HB := bst HB hb; clear hb hg; have gk := qs.out; have gF := qc.out; have gm := qt.out; have gG := q7.out; have gn := qu.out; have gH := q8.out; have ⟨jq, jr, jS, jT⟩ := cf2 q5) | ((with_reducible refine gate_dst (N := 21) rfl ?_); (try (refine gate_guard (by rfl) ?_; dsimp only)); refine Kd.R_lit k37 _ 37 ?hg (N := 21) ?hd (xs := ([(⟨q3, q4⟩ : S37)] : List (S37))) (inner := [.int .i64 q3, .int .i64 q4]) (ok := fun _ => True) (okp := fun _ => True) ?hr ?hp (fun _ hk => hk) trivial (Below.refl _ _) (Nat.le_refl _) (by simp) ?_; (case hd => rfl); (case hg => rfl); (case hr => first | (go_simp; done) | (go_simp; rfl)); (case hp => exact (Reps.c2 (show Kd.M k37 _ _ _ (⟨q3, q4⟩ : S37) [.int .i64 q3, .int .i64 q4] from (k37_mkM _ _ _ (⟨q3, q4⟩ : S37) )) (Reps.none _ _))); intro v570 w42 qk hb hg_ hnew_; clear hg_ hnew_; (first | rw [← Ny569.out] at qk | (simp only [Int.reduceToNat] at qk; rw [← Ny569.out] at qk)); have q6 := Aside0.mk (Kd.R_lower (Kd.R_newB (Kd.R_newB (Kd.R_newB qk (g := qe) (o := .cells #[.int .i64 a1_0, .int .i64 a1_1] 37 (0, 0)) (by (with_reducible repeat (first | refine blk_drewN ?_ _ | refine blk_drew ?_ | refine blk_alloc ?_ _)); refine blk_far ?_ q7.out _; (with_reducible repeat (first | refine blk_drewN ?_ _ | refine blk_drew ?_ | refine blk_alloc ?_ _)); refine blk_far ?_ q7.out _; (with_reducible repeat (first | refine blk_drewN ?_ _ | refine blk_drew ?_ | refine blk_alloc ?_ _)); exact q1.out)) (g := qb) (o := .cells #[.int .i64 0, .int .i64 0] 37 (0, 0)) (by (with_reducible repeat (first | refine blk_drewN ?_ _ | refine blk_drew ?_ | refine blk_alloc ?_ _)); refine blk_far ?_ q8.out _; (with_reducible repeat (first | refine blk_drewN ?_ _ | refine blk_drew ?_ | refine blk_alloc ?_ _)); refine blk_far ?_ q8.out _; (with_reducible repeat (first | refine blk_drewN ?_ _ | refine blk_drew ?_ | refine blk_alloc ?_ _)); exact q2.out)) (g := qi) (o := .cells #[.int .i64 q3, .int .i64 q4] 37 (0, 0)) (by (with_reducible repeat (first | refine blk_drewN ?_ _ | refine blk_drew ?_ | refine blk_alloc ?_ _)); refine blk_put (cs := #[.int .i64 q3, .int .i64 0]) ?_ 1 _ rfl; (with_reducible repeat (first | refine blk_drewN ?_ _ | refine blk_drew ?_ | refine blk_alloc ?_ _)); refine blk_put (cs := #[.int .i64 0, .int .i64 0]) ?_ 0 _ rfl; (with_reducible repeat (first | refine blk_drewN ?_ _ | refine blk_drew ?_ | refine blk_alloc ?_ _)); exact q5.out)) (below_size (bnow HB))); replace q0 := Aside0.mk (blk_below (g := qv) (o := .cells #[.int .i64 a0_0, .int .i64 a0_1, .int .i64 a0_2, .int .i64 a0_3, .int .i64 a0_4, .int .i64 a0_5] 55 (0, 0)) (by (with_reducible repeat (first | refine blk_drewN ?_ _ | refine blk_drew ?_ | refine blk_alloc ?_ _)); refine blk_far ?_ qc.out _; (with_reducible repeat (first | refine blk_drewN ?_ _ | refine blk_drew ?_ | refine blk_alloc ?_ _)); refine blk_far ?_ qc.out _; (with_reducible repeat (first | refine blk_drewN ?_ _ | refine blk_drew ?_ | refine blk_alloc ?_ _)); exact q0.out) hb); replace q1 := Aside0.mk (blk_below (g := qe) (o := .cells #[.int .i64 a1_0, .int .i64 a1_1] 37 (0, 0)) (by (with_reducible repeat (first | refine blk_drewN ?_ _ | refine blk_drew ?_ | refine blk_alloc ?_ _)); refine blk_far ?_ q7.out _; (with_reducible repeat (first | refine blk_drewN ?_ _ | refine blk_drew ?_ | refine blk_alloc ?_ _)); refine blk_far ?_ q7.out _; (with_reducible repeat (first | refine blk_drewN ?_ _ | refine blk_drew ?_ | refine blk_alloc ?_ _)); exact q1.out) hb); replace q2 := Aside0.mk (blk_below (g := qb) (o := .cells #[.int .i64 0, .int .i64 0] 37 (0, 0)) (by (with_reducible repeat (first | refine blk_drewN ?_ _ | refine blk_drew ?_ | refine blk_alloc ?_ _)); refine blk_far ?_ q8.out _; (with_reducible repeat (first | refine blk_drewN ?_ _ | refine blk_drew ?_ | refine blk_alloc ?_ _)); refine blk_far ?_ q8.out _; (with_reducible repeat (first | refine blk_drewN ?_ _ | refine blk_drew ?_ | refine blk_alloc ?_ _)); exact q2.out) hb); replace q5 := Aside0.mk (blk_below (g := qi) (o := .cells #[.int .i64 q3, .int .i64 q4] 37 (0, 0)) (by (with_reducible repeat (first | refine blk_drewN ?_ _ | refine blk_drew ?_ | refine blk_alloc ?_ _)); refine blk_put (cs := #[.int .i64 q3, .int .i64 0]) ?_ 1 _ rfl; (with_reducible repeat (first | refine blk_drewN ?_ _ | refine blk_drew ?_ | refine blk_alloc ?_ _)); refine blk_put (cs := #[.int .i64 0, .int .i64 0]) ?_ 0 _ rfl; (with_reducible repeat (first | refine blk_drewN ?_ _ | refine blk_drew ?_ | refine blk_alloc ?_ _)); exact q5.out) hb); replace HB := bst HB hb; clear hb qk; obtain ⟨qx, qB, qE⟩ := Kd.R_slice q6.out; subst qE) | ((with_reducible refine gate_callee (f := 49) rfl ?_); refine goesL_ (some 22) rfl rfl Try.func49 (by kernel_rfl) rfl #[.slice qx qn.length qB] rfl am ?_; (with_reducible refine (grids_point.calls kj2 _ _ qn true _ ?side1 ?side2 A29.out).mono ?_); (case side1 => repeat (first | exact (Kd.R_reads' q6.out).2.2 | (with_reducible refine Kd.C_alloc ?_ _) | (with_reducible refine Kd.C_drewN ?_ _) | (with_reducible refine Kd.C_drew ?_))); (case side2 => exact (Kd.R_reads' q6.out).2.1); rintro e w45 ⟨rfl, hb⟩; refine ⟨_, rfl, ?_⟩; replace q6 := Aside0.mk (Kd.R_below (by (with_reducible repeat (first | apply Kd.R_alloc | apply Kd.R_drewN | apply Kd.R_drew)); exact q6.out) hb); replace q0 := bb q0 hb; replace q1 := bb q1 hb; replace q2 := bb q2 hb; replace q5 := bb q5 hb; replace HB := bst HB hb; (try clear hb); (try clear hb2); (try clear hk); (try clear hi); have ⟨js, jt, jU, jV⟩ := cf2 q5; have ⟨ju, jv, jW, jX⟩ := cf2 q2))
     refine bodyPost_ret (results_ct rfl _ _ qb 37 #[.int .i64 q3, .int .i64 q4] (0, 0) _ rfl (by (with_reducible repeat (first | refine blk_drewN ?_ _ | refine blk_drew ?_ | refine blk_alloc ?_ _)); refine blk_put (cs := #[.int .i64 q3, .int .i64 0]) ?_ 1 _ rfl; (with_reducible repeat (first | refine blk_drewN ?_ _ | refine blk_drew ?_ | refine blk_alloc ?_ _)); refine blk_put (cs := #[.int .i64 0, .int .i64 0]) ?_ 0 _ rfl; (with_reducible repeat (first | refine blk_drewN ?_ _ | refine blk_drew ?_ | refine blk_alloc ?_ _)); exact q2.out) Try.underlying37 rfl (by kernel_rfl)) rfl ?_
     exact rt HB
    ·replace c30 := Bool.eq_false_iff.mpr c30
     subst c30
     have H1 : (some (0, 0, 7)) = some (r1, r2, r3) := by rw [if_neg (show ¬ (false = true) by decide)] at H; exact H
     clear H
     have H := H1
     clear H1
     simp only [Option.some.injEq, Prod.mk.injEq] at H
     obtain ⟨rfl, rfl, rfl⟩ := H
     have go := qo.out
     have gI := qp.out
     have gp := qg.out
     have gJ := qh.out
     have ⟨jw, jx, jy, jz, jA, jB, jY, jZ, g0, g1, g2, g3⟩ := cf6 q0
     have gq := qq.out
     have gK := qr.out
     have ⟨jC, jD, g4, g5⟩ := cf2 q1
     go_wp2_with (first | ((with_reducible refine gate_callee (f := 63) rfl ?_); refine gl 19 Try.func63 (grids_image.calls a0_0 a0_1 a0_2 a0_3 a0_4 a0_5 a1_0 a1_1 q3 q4 _ A28.out) ?_; rintro e w53 ⟨rfl, hb⟩; refine ⟨_, rfl, ?_⟩; replace q0 := bb q0 hb; replace q1 := bb q1 hb; replace q2 := bb q2 hb; replace HB := bst HB hb; clear hb) | ((with_reducible refine gate_dst (N := 6) rfl ?_); (try (refine gate_guard (by rfl) ?_; dsimp only)); refine bx 6 #[.int .i64 0, .int .i64 0] 37 fun qi hg w54 q5 hb => ?_; have qA := gw hg HB; have qz := gw hg HB; have qc := nlt hg q0; have qs := ngt hg q0; have q7 := nlt hg q1; have qt := ngt hg q1; have q8 := nlt hg q2; have qu := ngt hg q2; replace q0 := bb q0 hb; replace q1 := bb q1 hb; replace q2 := bb q2 hb; replace HB := bst HB hb; clear hb hg; have gr := qs.out; have gL := qc.out; have gs := qt.out; have gM := q7.out; have gt := qu.out; have gN := q8.out; have ⟨jE, jF, g6, g7⟩ := cf2 q5) | ((with_reducible refine gate_dst (N := 21) rfl ?_); (try (refine gate_guard (by rfl) ?_; dsimp only)); refine Kd.R_lit k37 _ 37 ?hg (N := 21) ?hd (xs := ([(⟨q3, q4⟩ : S37)] : List (S37))) (inner := [.int .i64 q3, .int .i64 q4]) (ok := fun _ => True) (okp := fun _ => True) ?hr ?hp (fun _ hk => hk) trivial (Below.refl _ _) (Nat.le_refl _) (by simp) ?_; (case hd => rfl); (case hg => rfl); (case hr => first | (go_simp; done) | (go_simp; rfl)); (case hp => exact (Reps.c2 (show Kd.M k37 _ _ _ (⟨q3, q4⟩ : S37) [.int .i64 q3, .int .i64 q4] from (k37_mkM _ _ _ (⟨q3, q4⟩ : S37) )) (Reps.none _ _))); intro v570 w59 ql hb hg_ hnew_; clear hg_ hnew_; (first | rw [← Ny569.out] at ql | (simp only [Int.reduceToNat] at ql; rw [← Ny569.out] at ql)); have q6 := Aside0.mk (Kd.R_lower (Kd.R_newB (Kd.R_newB (Kd.R_newB ql (g := qe) (o := .cells #[.int .i64 a1_0, .int .i64 a1_1] 37 (0, 0)) (by (with_reducible repeat (first | refine blk_drewN ?_ _ | refine blk_drew ?_ | refine blk_alloc ?_ _)); refine blk_far ?_ q7.out _; (with_reducible repeat (first | refine blk_drewN ?_ _ | refine blk_drew ?_ | refine blk_alloc ?_ _)); refine blk_far ?_ q7.out _; (with_reducible repeat (first | refine blk_drewN ?_ _ | refine blk_drew ?_ | refine blk_alloc ?_ _)); exact q1.out)) (g := qb) (o := .cells #[.int .i64 0, .int .i64 0] 37 (0, 0)) (by (with_reducible repeat (first | refine blk_drewN ?_ _ | refine blk_drew ?_ | refine blk_alloc ?_ _)); refine blk_far ?_ q8.out _; (with_reducible repeat (first | refine blk_drewN ?_ _ | refine blk_drew ?_ | refine blk_alloc ?_ _)); refine blk_far ?_ q8.out _; (with_reducible repeat (first | refine blk_drewN ?_ _ | refine blk_drew ?_ | refine blk_alloc ?_ _)); exact q2.out)) (g := qi) (o := .cells #[.int .i64 q3, .int .i64 q4] 37 (0, 0)) (by (with_reducible repeat (first | refine blk_drewN ?_ _ | refine blk_drew ?_ | refine blk_alloc ?_ _)); refine blk_put (cs := #[.int .i64 q3, .int .i64 0]) ?_ 1 _ rfl; (with_reducible repeat (first | refine blk_drewN ?_ _ | refine blk_drew ?_ | refine blk_alloc ?_ _)); refine blk_put (cs := #[.int .i64 0, .int .i64 0]) ?_ 0 _ rfl; (with_reducible repeat (first | refine blk_drewN ?_ _ | refine blk_drew ?_ | refine blk_alloc ?_ _)); exact q5.out)) (below_size (bnow HB))); replace q0 := Aside0.mk (blk_below (g := qv) (o := .cells #[.int .i64 a0_0, .int .i64 a0_1, .int .i64 a0_2, .int .i64 a0_3, .int .i64 a0_4, .int .i64 a0_5] 55 (0, 0)) (by (with_reducible repeat (first | refine blk_drewN ?_ _ | refine blk_drew ?_ | refine blk_alloc ?_ _)); refine blk_far ?_ qc.out _; (with_reducible repeat (first | refine blk_drewN ?_ _ | refine blk_drew ?_ | refine blk_alloc ?_ _)); refine blk_far ?_ qc.out _; (with_reducible repeat (first | refine blk_drewN ?_ _ | refine blk_drew ?_ | refine blk_alloc ?_ _)); exact q0.out) hb); replace q1 := Aside0.mk (blk_below (g := qe) (o := .cells #[.int .i64 a1_0, .int .i64 a1_1] 37 (0, 0)) (by (with_reducible repeat (first | refine blk_drewN ?_ _ | refine blk_drew ?_ | refine blk_alloc ?_ _)); refine blk_far ?_ q7.out _; (with_reducible repeat (first | refine blk_drewN ?_ _ | refine blk_drew ?_ | refine blk_alloc ?_ _)); refine blk_far ?_ q7.out _; (with_reducible repeat (first | refine blk_drewN ?_ _ | refine blk_drew ?_ | refine blk_alloc ?_ _)); exact q1.out) hb); replace q2 := Aside0.mk (blk_below (g := qb) (o := .cells #[.int .i64 0, .int .i64 0] 37 (0, 0)) (by (with_reducible repeat (first | refine blk_drewN ?_ _ | refine blk_drew ?_ | refine blk_alloc ?_ _)); refine blk_far ?_ q8.out _; (with_reducible repeat (first | refine blk_drewN ?_ _ | refine blk_drew ?_ | refine blk_alloc ?_ _)); refine blk_far ?_ q8.out _; (with_reducible repeat (first | refine blk_drewN ?_ _ | refine blk_drew ?_ | refine blk_alloc ?_ _)); exact q2.out) hb); replace q5 := Aside0.mk (blk_below (g := qi) (o := .cells #[.int .i64 q3, .int .i64 q4] 37 (0, 0)) (by (with_reducible repeat (first | refine blk_drewN ?_ _ | refine blk_drew ?_ | refine blk_alloc ?_ _)); refine blk_put (cs := #[.int .i64 q3, .int .i64 0]) ?_ 1 _ rfl; (with_reducible repeat (first | refine blk_drewN ?_ _ | refine blk_drew ?_ | refine blk_alloc ?_ _)); refine blk_put (cs := #[.int .i64 0, .int .i64 0]) ?_ 0 _ rfl; (with_reducible repeat (first | refine blk_drewN ?_ _ | refine blk_drew ?_ | refine blk_alloc ?_ _)); exact q5.out) hb); replace HB := bst HB hb; clear hb ql; obtain ⟨qy, qC, qF⟩ := Kd.R_slice q6.out; subst qF) | ((with_reducible refine gate_callee (f := 49) rfl ?_); refine goesL_ (some 22) rfl rfl Try.func49 (by kernel_rfl) rfl #[.slice qy qn.length qC] rfl am ?_; (with_reducible refine (grids_point.calls kj2 _ _ qn false _ ?side1 ?side2 A29.out).mono ?_); (case side1 => repeat (first | exact (Kd.R_reads' q6.out).2.2 | (with_reducible refine Kd.C_alloc ?_ _) | (with_reducible refine Kd.C_drewN ?_ _) | (with_reducible refine Kd.C_drew ?_))); (case side2 => exact (Kd.R_reads' q6.out).2.1); rintro e w62 ⟨rfl, hb⟩; refine ⟨_, rfl, ?_⟩; replace q6 := Aside0.mk (Kd.R_below (by (with_reducible repeat (first | apply Kd.R_alloc | apply Kd.R_drewN | apply Kd.R_drew)); exact q6.out) hb); replace q0 := bb q0 hb; replace q1 := bb q1 hb; replace q2 := bb q2 hb; replace q5 := bb q5 hb; replace HB := bst HB hb; (try clear hb); (try clear hb2); (try clear hk); (try clear hi); have ⟨jG, jH, g8, g9⟩ := cf2 q2))
     refine bodyPost_ret (results_ct rfl _ _ qb 37 #[.int .i64 0, .int .i64 0] (0, 0) _ rfl (by (with_reducible repeat (first | refine blk_drewN ?_ _ | refine blk_drew ?_ | refine blk_alloc ?_ _)); refine blk_put (cs := #[.int .i64 0, .int .i64 0]) ?_ 1 _ rfl; (with_reducible repeat (first | refine blk_drewN ?_ _ | refine blk_drew ?_ | refine blk_alloc ?_ _)); refine blk_put (cs := #[.int .i64 0, .int .i64 0]) ?_ 0 _ rfl; (with_reducible repeat (first | refine blk_drewN ?_ _ | refine blk_drew ?_ | refine blk_alloc ?_ _)); exact q2.out) Try.underlying37 rfl (by kernel_rfl)) rfl ?_
     exact rt HB
end
section
theorem eqA25 (d : Nat) (w : World) (x0 y0 : Int) (x1 y1 : Int) (x2 y2 : Int) (x3 y3 : Int) :
  (Op.equalIn (d + 2) 25 (.agg #[.int .i64 x0, .int .i64 x1, .int .i64 x2, .int .i64 x3]) (.agg #[.int .i64 y0, .int .i64 y1, .int .i64 y2, .int .i64 y3])).run Try.prog w = .ok (x0 == y0 && (x1 == y1 && (x2 == y2 && (x3 == y3)))) w := by
 refine eqA_of Try.underlying25 (by kernel_rfl) ?_
 refine eqf_cons (by rfl) (by go_simp; rfl) (by go_simp; rfl) (by go_simp) ?_
 refine eqf_cons (by rfl) (by go_simp; rfl) (by go_simp; rfl) (by go_simp) ?_
 refine eqf_cons (by rfl) (by go_simp; rfl) (by go_simp; rfl) (by go_simp) ?_
 exact eqf_last (by rfl) (by go_simp; rfl) (by go_simp; rfl) (by go_simp)
end
section
theorem eqA37 (d : Nat) (w : World) (x0 y0 : Int) (x1 y1 : Int) :
  (Op.equalIn (d + 2) 37 (.agg #[.int .i64 x0, .int .i64 x1]) (.agg #[.int .i64 y0, .int .i64 y1])).run Try.prog w = .ok (x0 == y0 && (x1 == y1)) w := by
 refine eqA_of Try.underlying37 (by kernel_rfl) ?_
 refine eqf_cons (by rfl) (by go_simp; rfl) (by go_simp; rfl) (by go_simp) ?_
 exact eqf_last (by rfl) (by go_simp; rfl) (by go_simp; rfl) (by go_simp)
end
section
/-! ### api_GrMatrix_41: function 41 -/
def api_GrMatrix_41.l0 : Nat → List (S25) → Int → Int → Int → Int → Int → Option (Int × Int × Int × Int)
 | 0, _, _, _, _, _, _ => none
 | k + 1, x0, x6, x205000, x205001, x205002, x205003 => if x6 < (x0.length : Int) then (if 0 ≤ x6 then ((grids_order.f k ((rd_T25 x0 x6).f0) ((rd_T25 x0 x6).f1) ((rd_T25 x0 x6).f2) ((rd_T25 x0 x6).f3) x205000 x205001 x205002 x205003).bind fun qf => (if qf < 0 then ((some (wrap64 (x6 + 1))).bind fun qj => (api_GrMatrix_41.l0 k x0 qj ((rd_T25 x0 x6).f0) ((rd_T25 x0 x6).f1) ((rd_T25 x0 x6).f2) ((rd_T25 x0 x6).f3))) else ((some (wrap64 (x6 + 1))).bind fun qk => (api_GrMatrix_41.l0 k x0 qk x205000 x205001 x205002 x205003)))) else (none)) else (some (x205000, x205001, x205002, x205003))
def api_GrMatrix_41.f (k : Nat) (l0 : List (S25))  : Option (Int × Int × Int × Int) := if (l0.length : Int) < 1 then (none) else (if 0 < (l0.length : Int) then (api_GrMatrix_41.l0 k l0 1 ((rd_T25 l0 0).f0) ((rd_T25 l0 0).f1) ((rd_T25 l0 0).f2) ((rd_T25 l0 0).f3)) else (none))
theorem api_GrMatrix_41.mono_l : ∀ k, (∀ y0 y1 y2 y3 y4 y5, LeO (api_GrMatrix_41.l0 k y0 y1 y2 y3 y4 y5) (api_GrMatrix_41.l0 (k + 1) y0 y1 y2 y3 y4 y5))
 | 0 => fun _ _ _ _ _ _ r h => by simp [api_GrMatrix_41.l0] at h
 | k + 1 => by
  have ih0 := api_GrMatrix_41.mono_l k
  ·intro y0 y1 y2 y3 y4 y5
   unfold api_GrMatrix_41.l0
   repeat' first
   | (with_reducible exact ih0 _ _ _ _ _ _)
   | (with_reducible exact grids_order.mono _ _ _ _ _ _ _ _ _)
   | (with_reducible exact LeO.refl _)
   | (with_reducible exact LeO.none _)
   | (with_reducible refine LeO.ite ?_ ?_)
   | (with_reducible refine LeO.bind ?_ (fun _ => ?_))
   | exact ih0 _ _ _ _ _ _
   | exact grids_order.mono _ _ _ _ _ _ _ _ _
   | exact LeO.none _
   | refine LeO.ite ?_ ?_
   | refine LeO.bind ?_ (fun _ => ?_)
theorem api_GrMatrix_41.mono : ∀ a0 k, LeO (api_GrMatrix_41.f k a0) (api_GrMatrix_41.f (k + 1) a0) := by
 intro a0 k
 have ih0 := api_GrMatrix_41.mono_l k
 unfold api_GrMatrix_41.f
 repeat' first
   | (with_reducible exact ih0 _ _ _ _ _ _)
   | (with_reducible exact grids_order.mono _ _ _ _ _ _ _ _ _)
   | (with_reducible exact LeO.refl _)
   | (with_reducible exact LeO.none _)
   | (with_reducible refine LeO.ite ?_ ?_)
   | (with_reducible refine LeO.bind ?_ (fun _ => ?_))
   | exact ih0 _ _ _ _ _ _
   | exact grids_order.mono _ _ _ _ _ _ _ _ _
   | exact LeO.none _
   | refine LeO.ite ?_ ?_
   | refine LeO.bind ?_ (fun _ => ?_)
def api_GrMatrix_41.T7 : Bool × List (List Nat × List Nat) := (true, [([], []), ([], []), ([], []), ([1, 2], [1, 2]), ([3], [3]), ([], []), ([0, 4, 5], [0, 4, 5]), ([6], [6])])
def api_GrMatrix_41.B7 : List Nat := [0, 0, 0, 6, 14, 0, 63, 127]
theorem api_GrMatrix_41.tab7 : rtab .any (opsOf Try.f41 7) = api_GrMatrix_41.T7 := by kernel_rfl
theorem api_GrMatrix_41.bits7 : waitsOk api_GrMatrix_41.T7.2 api_GrMatrix_41.B7 = true := by kernel_rfl
set_option maxHeartbeats 8000000 in
set_option maxRecDepth 100000 in
theorem api_GrMatrix_41.calls (k : Nat) (A0 : Option Addr) (c0 : Nat) (l0 : List (S25))  (r1 : Int) (r2 : Int) (r3 : Int) (r4 : Int) (w : World) (hr0 : Kd.C k25 w A0 l0.length l0) (hc0 : l0.length ≤ c0) (h : api_GrMatrix_41.f k l0 = some (r1, r2, r3, r4)) :
  Calls Try.prog 41 #[.slice A0 l0.length c0, .func (.func 42) #[] #[]] w fun e w' => e = .returned (.agg #[.int .i64 r1, .int .i64 r2, .int .i64 r3, .int .i64 r4]) ∧ Below w.heap.size w w' := by
 have hu25 := Try.underlying25
 have HR0 := Aside0.mk hr0
 have HC0 := Aside0.mk hc0
 clear hr0 hc0
 have HB := Aside0.mk (Below.refl w.heap.size w)
 have H : (if (l0.length : Int) < 1 then (none) else (if 0 < (l0.length : Int) then (api_GrMatrix_41.l0 k l0 1 ((rd_T25 l0 0).f0) ((rd_T25 l0 0).f1) ((rd_T25 l0 0).f2) ((rd_T25 l0 0).f3)) else (none))) = some (r1, r2, r3, r4) := h
 clear h
 by_cases c3 : (l0.length : Int) < 1
 ·rw [if_pos c3] at H
  exact absurd H (by simp)
 ·rw [if_neg c3] at H
  have qy : decide ((l0.length : Int) < 1) = false := decide_eq_false c3
  have qz : decide (l0.length < 1) = false := decide_eq_false (by omega)
  clear c3
  by_cases c4 : 0 < (l0.length : Int)
  ·rw [if_pos c4] at H
   have qA : decide (0 < (l0.length : Int)) = true := decide_eq_true c4
   have qB : decide (0 < l0.length) = true := decide_eq_true (by omega)
   clear c4
   have H' := Aside0.mk H
   clear H
   go_enter Try.func41, Try.ntmps41
   go_wp2_with (first | ((with_reducible refine gate_dst (N := 4) rfl ?_); refine bx 4 #[.int .i64 0, .int .i64 0, .int .i64 0, .int .i64 0] 25 fun qg hg w5 q1 hb => ?_; have qO := gw hg HB; have qM := gw hg HB; replace HB := bst HB hb; clear hb hg; have qh : 0 ≤ (0 : Int) := (by omega); have qi : 0 < (l0.length : Int) := of_decide_eq_true (by first | (with_reducible assumption) | assumption); obtain ⟨q3, qC, q9, qa, qb, qc⟩ := at_T25 HR0.out 0 qh qi; cases qC; have jl : (0 < l0.length) = True := eq_true (by omega); (try rw [show ((0 : Int)).toNat = 0 from rfl] at q9); (try rw [show 0 * 4 = 0 from rfl] at q9); (try rw [Addr.add_zero'] at q9); (try rw [show ((0 : Int)).toNat = 0 from rfl] at qa); (try rw [show 0 * 4 = 0 from rfl] at qa); (try rw [Addr.add_zero'] at qa); (try rw [show ((0 : Int)).toNat = 0 from rfl] at qb); (try rw [show 0 * 4 = 0 from rfl] at qb); (try rw [Addr.add_zero'] at qb); (try rw [show ((0 : Int)).toNat = 0 from rfl] at qc); (try rw [show 0 * 4 = 0 from rfl] at qc); (try rw [Addr.add_zero'] at qc); replace q9 := (HB.out.cell (World.block_lt_of_cell? w _ q9)).trans q9; replace qa := (HB.out.cell (World.block_lt_of_cell? w _ qa)).trans qa; replace qb := (HB.out.cell (World.block_lt_of_cell? w _ qb)).trans qb; replace qc := (HB.out.cell (World.block_lt_of_cell? w _ qc)).trans qc; replace qh := eq_true qh; replace qi := eq_true qi) | ((with_reducible refine gate_dst (N := 5) rfl ?_); refine bx 5 #[.int .i64 0, .int .i64 0, .int .i64 0, .int .i64 0] 25 fun q4 hg w6 q0 hb => ?_; have qP := gw hg HB; have qN := gw hg HB; have ql := nlt hg q1; have qm := ngt hg q1; replace q1 := bb q1 hb; replace HB := bst HB hb; clear hb hg; have jh := qm.out; have jk := ql.out; have ⟨qE, qF, qG, qH, qI, qJ, qK, qL⟩ := cf4 q0) | ((with_reducible refine gate_store (t := 25) (p := 5) rfl ?_); refine sx 25 5 (((((w6.setCell ⟨q4, 0, none⟩ (.int .i64 ((rd_T25 l0 0).f0))).setCell ⟨q4, 1, none⟩ (.int .i64 ((rd_T25 l0 0).f1))).setCell ⟨q4, 2, none⟩ (.int .i64 ((rd_T25 l0 0).f2))).setCell ⟨q4, 3, none⟩ (.int .i64 ((rd_T25 l0 0).f3)))) fun w9 hw => ?_; replace q1 := fw hw q1; replace q0 := pw4 hw q0; replace HB := bw hw HB; clear hw))
   (try simp only [Act.put, List.setIfInBounds_toArray, List.set_cons_zero, List.set_cons_succ])
   go_loopg [6] k (fun kq v6 w' => ∃ (x6_1 : Int) (x205000_1 : Int) (x205001_1 : Int) (x205002_1 : Int) (x205003_1 : Int), v6 = .int .i64 x6_1 ∧ Aside0 (api_GrMatrix_41.l0 kq l0 x6_1 x205000_1 x205001_1 x205002_1 x205003_1 = some (r1, r2, r3, r4)) ∧ Aside0 (kq ≤ k) ∧ Aside0 (w'.heap[qg]? = some (.cells #[.int .i64 0, .int .i64 0, .int .i64 0, .int .i64 0] 25 (0, 0))) ∧ Aside0 (w'.heap[q4]? = some (.cells #[.int .i64 x205000_1, .int .i64 x205001_1, .int .i64 x205002_1, .int .i64 x205003_1] 25 (0, 0))) ∧ Aside0 (Below w.heap.size w w'))
   case atStart => exact ⟨(1), ((rd_T25 l0 0).f0), ((rd_T25 l0 0).f1), ((rd_T25 l0 0).f2), ((rd_T25 l0 0).f3), (by first | rfl | (simp; done) | (simp [*]; done)), H', ⟨Nat.le_refl _⟩, ⟨pk q1⟩, ⟨pk q0⟩, ⟨bnow HB⟩⟩
   case round =>
    clear H'
    try clear p2; try clear q2; try clear hx2; try clear qi2; try clear c3; try clear qy; try clear qz; try clear c4; try clear qA; try clear qB; try clear c7; try clear qE; try clear qF; try clear qG; try clear qH; try clear qI; try clear qJ; try clear qK; try clear qL; try clear q9; try clear qa; try clear qb; try clear qc; try clear qh; try clear qi
    obtain ⟨x6_1, x205000_1, x205001_1, x205002_1, x205003_1, rfl, HA, HK1, q1, q0, HB⟩ := hrel
    cases gk with
    | zero => exact absurd HA.out (by simp [api_GrMatrix_41.l0])
    | succ k1 =>
     have H := HA.out
     clear HA
     simp only [api_GrMatrix_41.l0] at H
     by_cases c10 : x6_1 < (l0.length : Int)
     ·rw [if_pos c10] at H
      have qw : decide (x6_1 < (l0.length : Int)) = true := decide_eq_true c10
      clear c10
      by_cases c11 : 0 ≤ x6_1
      ·rw [if_pos c11] at H
       have qQ : decide (0 ≤ x6_1) = true := decide_eq_true c11
       clear c11
       obtain ⟨qf, A12, H⟩ := ob H
       by_cases c13 : qf < 0
       ·rw [if_pos c13] at H
        have qx : decide (qf < 0) = true := decide_eq_true c13
        clear c13
        obtain ⟨qj, E140, H⟩ := oc H
        have E14w : (IntKind.i64.wrap (x6_1 + 1)) = qj := (i64_w _).trans E140
        have H' := Aside0.mk H
        clear H
        try go_wp2
        replace q1 := bd q1
        replace q0 := bd q0
        replace HB := bdn HB
        have qd : 0 ≤ (x6_1 : Int) := of_decide_eq_true (by first | (with_reducible assumption) | assumption)
        have qe : x6_1 < (l0.length : Int) := of_decide_eq_true (by first | (with_reducible assumption) | assumption)
        obtain ⟨qn, qo, q5, q6, q7, q8⟩ := at_T25 HR0.out x6_1 qd qe
        have hw205_3 := q8
        have hw205_2 := q7
        have hw205_1 := q6
        have hw205_0 := q5
        obtain rfl : q3 = qn := (by injection qo)
        replace q5 := (HB.out.cell (World.block_lt_of_cell? w _ q5)).trans q5
        replace q6 := (HB.out.cell (World.block_lt_of_cell? w _ q6)).trans q6
        replace q7 := (HB.out.cell (World.block_lt_of_cell? w _ q7)).trans q7
        replace q8 := (HB.out.cell (World.block_lt_of_cell? w _ q8)).trans q8
        replace qd := eq_true qd
        replace qe := eq_true qe
        refine start_ (n := 8) (S := fun w' => w'.cell? ⟨q4, 0, none⟩ = some (.int .i64 x205000_1) ∧ w'.cell? ⟨q4, 1, none⟩ = some (.int .i64 x205001_1) ∧ w'.cell? ⟨q4, 2, none⟩ = some (.int .i64 x205002_1) ∧ w'.cell? ⟨q4, 3, none⟩ = some (.int .i64 x205003_1) ∧ w'.cell? (q3.add ((x6_1).toNat * 4)) = some (.int .i64 ((rd_T25 l0 x6_1).f0)) ∧ w'.cell? ⟨(q3.add ((x6_1).toNat * 4)).block, (q3.add ((x6_1).toNat * 4)).off + 1, none⟩ = some (.int .i64 ((rd_T25 l0 x6_1).f1)) ∧ w'.cell? ⟨(q3.add ((x6_1).toNat * 4)).block, (q3.add ((x6_1).toNat * 4)).off + 2, none⟩ = some (.int .i64 ((rd_T25 l0 x6_1).f2)) ∧ w'.cell? ⟨(q3.add ((x6_1).toNat * 4)).block, (q3.add ((x6_1).toNat * 4)).off + 3, none⟩ = some (.int .i64 ((rd_T25 l0 x6_1).f3))) (ds := []) #[false, false, false, false, false, false, false, false] (by kernel_rfl) rfl rfl ⟨(blk_cell q0.out 0).trans rfl, (blk_cell q0.out 1).trans rfl, (blk_cell q0.out 2).trans rfl, (blk_cell q0.out 3).trans rfl, ((HB.out.cell (World.block_lt_of_cell? w _ hw205_0)).trans hw205_0), ((HB.out.cell (World.block_lt_of_cell? w _ hw205_1)).trans hw205_1), ((HB.out.cell (World.block_lt_of_cell? w _ hw205_2)).trans hw205_2), ((HB.out.cell (World.block_lt_of_cell? w _ hw205_3)).trans hw205_3)⟩ (fun hHeld => ?_); refine with_tabW api_GrMatrix_41.tab7 api_GrMatrix_41.bits7 (fun HT_ HW_ => ?_)
        generalize wr.drew = w15 at q1 q0 HB q5 q6 q7 q8 hHeld ⊢
        refine pz 0 20 HT_ ?_
        refine pz 1 21 HT_ ?_
        refine pz 2 22 HT_ ?_
        refine pz 3 23 HT_ ?_
        refine tz 4 24 HT_ HW_ hHeld ?_
        refine tz 5 25 HT_ HW_ hHeld ?_
        refine one_ (i := 6) (N := some 26) #[true, true, true, true, true, true, true, false] rfl rfl (one_of HT_.out (by kernel_rfl)) (by decide) (fun K hK => ?_)
        refine goesV_ Try.func42 (by kernel_rfl) rfl #[.agg #[.int .i64 ((rd_T25 l0 x6_1).f0), .int .i64 ((rd_T25 l0 x6_1).f1), .int .i64 ((rd_T25 l0 x6_1).f2), .int .i64 ((rd_T25 l0 x6_1).f3)], .agg #[.int .i64 x205000_1, .int .i64 x205001_1, .int .i64 x205002_1, .int .i64 x205003_1]] (by rfl) rfl rfl (by rfl) am ?_
        with_reducible refine (grids_order.calls k1 ((rd_T25 l0 x6_1).f0) ((rd_T25 l0 x6_1).f1) ((rd_T25 l0 x6_1).f2) ((rd_T25 l0 x6_1).f3) x205000_1 x205001_1 x205002_1 x205003_1 qf _ A12.out).mono ?_
        rintro e w16 ⟨rfl, hb⟩
        refine ⟨_, rfl, ?_⟩
        replace q1 := bb q1 hb
        replace q0 := bb q0 hb
        replace HB := bst HB hb
        (try clear hb)
        (try clear hb2)
        (try clear hk)
        (try clear hi)
        refine hK.out _ _ ⟨(blk_cell q0.out 0).trans rfl, (blk_cell q0.out 1).trans rfl, (blk_cell q0.out 2).trans rfl, (blk_cell q0.out 3).trans rfl, ((HB.out.cell (World.block_lt_of_cell? w _ hw205_0)).trans hw205_0), ((HB.out.cell (World.block_lt_of_cell? w _ hw205_1)).trans hw205_1), ((HB.out.cell (World.block_lt_of_cell? w _ hw205_2)).trans hw205_2), ((HB.out.cell (World.block_lt_of_cell? w _ hw205_3)).trans hw205_3)⟩ (fun hHeld => ?_)
        clear hK K
        refine norm_ (a' := ?_) ?_ ?_
        rotate_left
        ·show Act.put _ (some 26) _ = _
         simp only [Act.put, List.setIfInBounds_toArray, List.set_cons_zero, List.set_cons_succ, i64_w, i32_w]
         rfl
        refine pz 7 27 HT_ ?_
        refine done_ (done_of HT_.out (by kernel_rfl)) ?_
        have qt : 0 ≤ (x6_1 : Int) := of_decide_eq_true (by first | (with_reducible assumption) | assumption)
        have qu : x6_1 < (l0.length : Int) := of_decide_eq_true (by first | (with_reducible assumption) | assumption)
        obtain ⟨qv, qD, qp, qq, qr, qs⟩ := at_T25 HR0.out x6_1 qt qu
        obtain rfl : q3 = qv := (by injection qD)
        replace qp := (HB.out.cell (World.block_lt_of_cell? w _ qp)).trans qp
        replace qq := (HB.out.cell (World.block_lt_of_cell? w _ qq)).trans qq
        replace qr := (HB.out.cell (World.block_lt_of_cell? w _ qr)).trans qr
        replace qs := (HB.out.cell (World.block_lt_of_cell? w _ qs)).trans qs
        replace qt := eq_true qt
        replace qu := eq_true qu
        have jf := qm.out
        have ji := ql.out
        have ⟨qR, qS, qT, qU, j3, j4, j5, j6⟩ := cf4 q0
        try go_wp2_with (first | ((with_reducible refine gate_store (t := 25) (p := 5) rfl ?_); refine sx 25 5 (((((w16.setCell ⟨q4, 0, none⟩ (.int .i64 ((rd_T25 l0 x6_1).f0))).setCell ⟨q4, 1, none⟩ (.int .i64 ((rd_T25 l0 x6_1).f1))).setCell ⟨q4, 2, none⟩ (.int .i64 ((rd_T25 l0 x6_1).f2))).setCell ⟨q4, 3, none⟩ (.int .i64 ((rd_T25 l0 x6_1).f3)))) fun w19 hw => ?_; replace q1 := fw hw q1; replace q0 := pw4 hw q0; replace HB := bw hw HB; clear hw))
        go_roundg k1
        case measure => have := HK1.out; omega
        case rel => exact ⟨(qj), ((rd_T25 l0 x6_1).f0), ((rd_T25 l0 x6_1).f1), ((rd_T25 l0 x6_1).f2), ((rd_T25 l0 x6_1).f3), (by first | rfl | (simp; done) | (simp [*]; done)), H', ⟨by have := HK1.out; omega⟩, ⟨pk q1⟩, ⟨pk q0⟩, ⟨bnow HB⟩⟩
       ·rw [if_neg c13] at H
        have qx : decide (qf < 0) = false := decide_eq_false c13
        clear c13
        obtain ⟨qk, E200, H⟩ := oc H
        have E20w : (IntKind.i64.wrap (x6_1 + 1)) = qk := (i64_w _).trans E200
        have H' := Aside0.mk H
        clear H
        try go_wp2
        replace q1 := bd q1
        replace q0 := bd q0
        replace HB := bdn HB
        have qd : 0 ≤ (x6_1 : Int) := of_decide_eq_true (by first | (with_reducible assumption) | assumption)
        have qe : x6_1 < (l0.length : Int) := of_decide_eq_true (by first | (with_reducible assumption) | assumption)
        obtain ⟨qn, qo, q5, q6, q7, q8⟩ := at_T25 HR0.out x6_1 qd qe
        have hw205_3 := q8
        have hw205_2 := q7
        have hw205_1 := q6
        have hw205_0 := q5
        obtain rfl : q3 = qn := (by injection qo)
        replace q5 := (HB.out.cell (World.block_lt_of_cell? w _ q5)).trans q5
        replace q6 := (HB.out.cell (World.block_lt_of_cell? w _ q6)).trans q6
        replace q7 := (HB.out.cell (World.block_lt_of_cell? w _ q7)).trans q7
        replace q8 := (HB.out.cell (World.block_lt_of_cell? w _ q8)).trans q8
        replace qd := eq_true qd
        replace qe := eq_true qe
        refine start_ (n := 8) (S := fun w' => w'.cell? ⟨q4, 0, none⟩ = some (.int .i64 x205000_1) ∧ w'.cell? ⟨q4, 1, none⟩ = some (.int .i64 x205001_1) ∧ w'.cell? ⟨q4, 2, none⟩ = some (.int .i64 x205002_1) ∧ w'.cell? ⟨q4, 3, none⟩ = some (.int .i64 x205003_1) ∧ w'.cell? (q3.add ((x6_1).toNat * 4)) = some (.int .i64 ((rd_T25 l0 x6_1).f0)) ∧ w'.cell? ⟨(q3.add ((x6_1).toNat * 4)).block, (q3.add ((x6_1).toNat * 4)).off + 1, none⟩ = some (.int .i64 ((rd_T25 l0 x6_1).f1)) ∧ w'.cell? ⟨(q3.add ((x6_1).toNat * 4)).block, (q3.add ((x6_1).toNat * 4)).off + 2, none⟩ = some (.int .i64 ((rd_T25 l0 x6_1).f2)) ∧ w'.cell? ⟨(q3.add ((x6_1).toNat * 4)).block, (q3.add ((x6_1).toNat * 4)).off + 3, none⟩ = some (.int .i64 ((rd_T25 l0 x6_1).f3))) (ds := []) #[false, false, false, false, false, false, false, false] (by kernel_rfl) rfl rfl ⟨(blk_cell q0.out 0).trans rfl, (blk_cell q0.out 1).trans rfl, (blk_cell q0.out 2).trans rfl, (blk_cell q0.out 3).trans rfl, ((HB.out.cell (World.block_lt_of_cell? w _ hw205_0)).trans hw205_0), ((HB.out.cell (World.block_lt_of_cell? w _ hw205_1)).trans hw205_1), ((HB.out.cell (World.block_lt_of_cell? w _ hw205_2)).trans hw205_2), ((HB.out.cell (World.block_lt_of_cell? w _ hw205_3)).trans hw205_3)⟩ (fun hHeld => ?_); refine with_tabW api_GrMatrix_41.tab7 api_GrMatrix_41.bits7 (fun HT_ HW_ => ?_)
        generalize wr.drew = w21 at q1 q0 HB q5 q6 q7 q8 hHeld ⊢
        refine pz 0 20 HT_ ?_
        refine pz 1 21 HT_ ?_
        refine pz 2 22 HT_ ?_
        refine pz 3 23 HT_ ?_
        refine tz 4 24 HT_ HW_ hHeld ?_
        refine tz 5 25 HT_ HW_ hHeld ?_
        refine one_ (i := 6) (N := some 26) #[true, true, true, true, true, true, true, false] rfl rfl (one_of HT_.out (by kernel_rfl)) (by decide) (fun K hK => ?_)
        refine goesV_ Try.func42 (by kernel_rfl) rfl #[.agg #[.int .i64 ((rd_T25 l0 x6_1).f0), .int .i64 ((rd_T25 l0 x6_1).f1), .int .i64 ((rd_T25 l0 x6_1).f2), .int .i64 ((rd_T25 l0 x6_1).f3)], .agg #[.int .i64 x205000_1, .int .i64 x205001_1, .int .i64 x205002_1, .int .i64 x205003_1]] (by rfl) rfl rfl (by rfl) am ?_
        with_reducible refine (grids_order.calls k1 ((rd_T25 l0 x6_1).f0) ((rd_T25 l0 x6_1).f1) ((rd_T25 l0 x6_1).f2) ((rd_T25 l0 x6_1).f3) x205000_1 x205001_1 x205002_1 x205003_1 qf _ A12.out).mono ?_
        rintro e w22 ⟨rfl, hb⟩
        refine ⟨_, rfl, ?_⟩
        replace q1 := bb q1 hb
        replace q0 := bb q0 hb
        replace HB := bst HB hb
        (try clear hb)
        (try clear hb2)
        (try clear hk)
        (try clear hi)
        refine hK.out _ _ ⟨(blk_cell q0.out 0).trans rfl, (blk_cell q0.out 1).trans rfl, (blk_cell q0.out 2).trans rfl, (blk_cell q0.out 3).trans rfl, ((HB.out.cell (World.block_lt_of_cell? w _ hw205_0)).trans hw205_0), ((HB.out.cell (World.block_lt_of_cell? w _ hw205_1)).trans hw205_1), ((HB.out.cell (World.block_lt_of_cell? w _ hw205_2)).trans hw205_2), ((HB.out.cell (World.block_lt_of_cell? w _ hw205_3)).trans hw205_3)⟩ (fun hHeld => ?_)
        clear hK K
        refine norm_ (a' := ?_) ?_ ?_
        rotate_left
        ·show Act.put _ (some 26) _ = _
         simp only [Act.put, List.setIfInBounds_toArray, List.set_cons_zero, List.set_cons_succ, i64_w, i32_w]
         rfl
        refine pz 7 27 HT_ ?_
        refine done_ (done_of HT_.out (by kernel_rfl)) ?_
        try go_wp2
        go_roundg k1
        case measure => have := HK1.out; omega
        case rel => exact ⟨(qk), (x205000_1), (x205001_1), (x205002_1), (x205003_1), (by first | rfl | (simp; done) | (simp [*]; done)), H', ⟨by have := HK1.out; omega⟩, ⟨pk q1⟩, ⟨pk q0⟩, ⟨bnow HB⟩⟩
      ·rw [if_neg c11] at H
       exact absurd H (by simp)
     ·rw [if_neg c10] at H
      have qw : decide (x6_1 < (l0.length : Int)) = false := decide_eq_false c10
      clear c10
      simp only [Option.some.injEq, Prod.mk.injEq] at H
      obtain ⟨rfl, rfl, rfl, rfl⟩ := H
      have jg := qm.out
      have jj := ql.out
      have ⟨qV, qW, qX, qY, j7, j8, j9, ja⟩ := cf4 q0
      have ⟨qZ, j0, j1, j2, jb, jc, jd, je⟩ := cf4 q1
      go_wp2_with (first | ((with_reducible refine gate_store (t := 25) (p := 4) rfl ?_); refine sx 25 4 (((((wr.setCell ⟨qg, 0, none⟩ (.int .i64 x205000_1)).setCell ⟨qg, 1, none⟩ (.int .i64 x205001_1)).setCell ⟨qg, 2, none⟩ (.int .i64 x205002_1)).setCell ⟨qg, 3, none⟩ (.int .i64 x205003_1))) fun w26 hw => ?_; replace q1 := pw4 hw q1; replace q0 := fw hw q0; replace HB := bw hw HB; clear hw))
      refine bodyPost_ret (results_cell_row rfl _ _ qg 25 #[.int .i64 x205000_1, .int .i64 x205001_1, .int .i64 x205002_1, .int .i64 x205003_1] (0, 0) _ rfl (pk q1) Try.underlying25 rfl (by kernel_rfl)) rfl ?_
      exact rt HB
  ·rw [if_neg c4] at H
   exact absurd H (by simp)
end
section
/-! ### grids_Reduce: function 11 -/
def grids_Reduce.l0 : Nat → List (S25) → Int → Int → Int → Int → Int → Int → Int → Int → Int → Option (Int × Int × Int × Int × Int × Int × Int × Int)
 | 0, _, _, _, _, _, _, _, _, _, _ => none
 | k + 1, x8, x25, x26, x222000, x222001, x222002, x223000, x223001, x223002, x223003 => if x26 < x25 then (if 0 ≤ x26 then (if x26 < (x8.length : Int) then ((grids_times.f x223000 x223001 x223002 x223003 ((rd_T25 x8 x26).f0) ((rd_T25 x8 x26).f1) ((rd_T25 x8 x26).f2) ((rd_T25 x8 x26).f3)).bind fun qA => ((some (wrap64 (x26 + 1))).bind fun qo => (grids_Reduce.l0 k (x8.set (x26 : Int).toNat (⟨qA.1, qA.2.1, qA.2.2.1, qA.2.2.2⟩ : S25)) x25 qo x222000 x222001 x222002 x223000 x223001 x223002 x223003))) else (none)) else (none)) else ((api_GrMatrix_41.f k x8).bind fun qB => (some (x222000, x222001, x222002, qB.1, qB.2.1, qB.2.2.1, qB.2.2.2, 0)))
def grids_Reduce.f (k : Nat) (a0_0 : Int) (a0_1 : Int) (a0_2 : Int) : Option (Int × Int × Int × Int × Int × Int × Int × Int) := (grids_Check.f k a0_0 a0_1 a0_2).bind fun qc => (if qc = 0 then ((grids_reduce.f k a0_0 a0_1 a0_2).bind fun q6 => ((grids_group.f k q6.1 q6.2.1 q6.2.2.1).bind fun q9 => (grids_Reduce.l0 k q9 (q9.length : Int) 0 q6.1 q6.2.1 q6.2.2.1 q6.2.2.2.1 q6.2.2.2.2.1 q6.2.2.2.2.2.1 q6.2.2.2.2.2.2))) else (some (0, 0, 0, 0, 0, 0, 0, qc)))
theorem grids_Reduce.mono_l : ∀ k, (∀ y0 y1 y2 y3 y4 y5 y6 y7 y8 y9, LeO (grids_Reduce.l0 k y0 y1 y2 y3 y4 y5 y6 y7 y8 y9) (grids_Reduce.l0 (k + 1) y0 y1 y2 y3 y4 y5 y6 y7 y8 y9))
 | 0 => fun _ _ _ _ _ _ _ _ _ _ r h => by simp [grids_Reduce.l0] at h
 | k + 1 => by
  have ih0 := grids_Reduce.mono_l k
  ·intro y0 y1 y2 y3 y4 y5 y6 y7 y8 y9
   unfold grids_Reduce.l0
   repeat' first
   | (with_reducible exact ih0 _ _ _ _ _ _ _ _ _ _)
   | (with_reducible exact api_GrMatrix_41.mono _ _)
   | (with_reducible exact grids_Check.mono _ _ _ _)
   | (with_reducible exact grids_group.mono _ _ _ _)
   | (with_reducible exact grids_reduce.mono _ _ _ _)
   | (with_reducible exact LeO.refl _)
   | (with_reducible exact LeO.none _)
   | (with_reducible refine LeO.ite ?_ ?_)
   | (with_reducible refine LeO.bind ?_ (fun _ => ?_))
   | exact ih0 _ _ _ _ _ _ _ _ _ _
   | exact api_GrMatrix_41.mono _ _
   | exact grids_Check.mono _ _ _ _
   | exact grids_group.mono _ _ _ _
   | exact grids_reduce.mono _ _ _ _
   | exact LeO.none _
   | refine LeO.ite ?_ ?_
   | refine LeO.bind ?_ (fun _ => ?_)
theorem grids_Reduce.mono : ∀ a0 a1 a2 k, LeO (grids_Reduce.f k a0 a1 a2) (grids_Reduce.f (k + 1) a0 a1 a2) := by
 intro a0 a1 a2 k
 have ih0 := grids_Reduce.mono_l k
 unfold grids_Reduce.f
 repeat' first
   | (with_reducible exact ih0 _ _ _ _ _ _ _ _ _ _)
   | (with_reducible exact api_GrMatrix_41.mono _ _)
   | (with_reducible exact grids_Check.mono _ _ _ _)
   | (with_reducible exact grids_group.mono _ _ _ _)
   | (with_reducible exact grids_reduce.mono _ _ _ _)
   | (with_reducible exact LeO.refl _)
   | (with_reducible exact LeO.none _)
   | (with_reducible refine LeO.ite ?_ ?_)
   | (with_reducible refine LeO.bind ?_ (fun _ => ?_))
   | exact ih0 _ _ _ _ _ _ _ _ _ _
   | exact api_GrMatrix_41.mono _ _
   | exact grids_Check.mono _ _ _ _
   | exact grids_group.mono _ _ _ _
   | exact grids_reduce.mono _ _ _ _
   | exact LeO.none _
   | refine LeO.ite ?_ ?_
   | refine LeO.bind ?_ (fun _ => ?_)
def grids_Reduce.T9 : Bool × List (List Nat × List Nat) := (true, [([], []), ([], []), ([], []), ([], []), ([], []), ([3, 4], [3, 4]), ([5], [5]), ([2, 6], [2, 6]), ([0, 1, 0, 1, 2, 3, 4, 5, 6, 7], [0, 1]), ([8, 7, 7, 0, 1, 2, 3, 4, 5, 6, 7], [7, 8])])
def grids_Reduce.B9 : List Nat := [0, 0, 0, 0, 0, 24, 56, 124, 255, 511]
theorem grids_Reduce.tab9 : rtab .any (opsOf Try.f11 9) = grids_Reduce.T9 := by kernel_rfl
theorem grids_Reduce.bits9 : waitsOk grids_Reduce.T9.2 grids_Reduce.B9 = true := by kernel_rfl
set_option maxHeartbeats 8000000 in
set_option maxRecDepth 100000 in
theorem grids_Reduce.calls (k : Nat) (a0_0 : Int) (a0_1 : Int) (a0_2 : Int) (r1 : Int) (r2 : Int) (r3 : Int) (r4 : Int) (r5 : Int) (r6 : Int) (r7 : Int) (r8 : Int) (w : World) (h : grids_Reduce.f k a0_0 a0_1 a0_2 = some (r1, r2, r3, r4, r5, r6, r7, r8)) :
  Calls Try.prog 11 #[.agg #[.int .i64 a0_0, .int .i64 a0_1, .int .i64 a0_2]] w fun e w' => e = .returned (.tuple #[.agg #[.int .i64 r1, .int .i64 r2, .int .i64 r3], .agg #[.int .i64 r4, .int .i64 r5, .int .i64 r6, .int .i64 r7], .int .i64 r8]) ∧ Below w.heap.size w w' := by
 have hu23 := Try.underlying23
 have hu25 := Try.underlying25
 have HB := Aside0.mk (Below.refl w.heap.size w)
 have H : ((grids_Check.f k a0_0 a0_1 a0_2).bind fun qc => (if qc = 0 then ((grids_reduce.f k a0_0 a0_1 a0_2).bind fun q6 => ((grids_group.f k q6.1 q6.2.1 q6.2.2.1).bind fun q9 => (grids_Reduce.l0 k q9 (q9.length : Int) 0 q6.1 q6.2.1 q6.2.2.1 q6.2.2.2.1 q6.2.2.2.2.1 q6.2.2.2.2.2.1 q6.2.2.2.2.2.2))) else (some (0, 0, 0, 0, 0, 0, 0, qc)))) = some (r1, r2, r3, r4, r5, r6, r7, r8) := h
 clear h
 obtain ⟨qc, A2, H⟩ := ob H
 by_cases c3 : qc = 0
 ·rw [if_pos c3] at H
  have qU : (qc == 0) = true := beq_iff_eq.mpr c3
  have qV : (qc != 0) = false := bne_eq_false_iff_eq.mpr c3
  clear c3
  obtain ⟨⟨qf, qg, qh, qC, qD, qE, qF⟩, A4, H⟩ := ob H
  obtain ⟨q9, A5, H⟩ := ob H
  have H' := Aside0.mk H
  clear H
  go_enter Try.func11, Try.ntmps11
  go_wp2_with (first | ((with_reducible refine gate_dst (N := 1) rfl ?_); refine bx 1 #[.int .i64 a0_0, .int .i64 a0_1, .int .i64 a0_2] 23 fun qX hg w6 q0 hb => ?_; have j4 := gw hg HB; have qQ := gw hg HB; replace HB := bst HB hb; clear hb hg) | ((with_reducible refine gate_dst (N := 2) rfl ?_); refine bx 2 #[.int .i64 0, .int .i64 0, .int .i64 0] 23 fun q7 hg w7 q1 hb => ?_; have j5 := gw hg HB; have qR := gw hg HB; have qm := nlt hg q0; have qn := ngt hg q0; replace q0 := bb q0 hb; replace HB := bst HB hb; clear hb hg) | ((with_reducible refine gate_dst (N := 3) rfl ?_); refine bx 3 #[.int .i64 0, .int .i64 0, .int .i64 0, .int .i64 0] 25 fun q5 hg w8 q2 hb => ?_; have j6 := gw hg HB; have qS := gw hg HB; have qi := nlt hg q0; have qj := ngt hg q0; have qa := nlt hg q1; have qd := ngt hg q1; replace q0 := bb q0 hb; replace q1 := bb q1 hb; replace HB := bst HB hb; clear hb hg; have Q4 := qm.out; have Qg := qn.out; have gT := qi.out; have Q5 := qj.out; have ⟨jm, jn, jo, jC, jD, jE⟩ := cf3 q0) | ((with_reducible refine gate_callee (f := 14) rfl ?_); refine gl 11 Try.func14 (grids_Check.calls k a0_0 a0_1 a0_2 qc _ A2.out) ?_; rintro e w12 ⟨rfl, hb⟩; refine ⟨_, rfl, ?_⟩; replace q0 := bb q0 hb; replace q1 := bb q1 hb; replace q2 := bb q2 hb; replace HB := bst HB hb; clear hb; have ⟨jp, jq, jr, jF, jG, jH⟩ := cf3 q0) | ((with_reducible refine gate_callee (f := 38) rfl ?_); refine gl 19 Try.func38 (grids_reduce.calls k a0_0 a0_1 a0_2 qf qg qh qC qD qE qF _ A4.out) ?_; rintro e w14 ⟨rfl, hb⟩; refine ⟨_, rfl, ?_⟩; replace q0 := bb q0 hb; replace q1 := bb q1 hb; replace q2 := bb q2 hb; replace HB := bst HB hb; clear hb) | ((with_reducible refine gate_dst (N := 6) rfl ?_); refine bx 6 #[.int .i64 0, .int .i64 0, .int .i64 0] 23 fun ql hg w15 q3 hb => ?_; have jS := gw hg HB; have j2 := gw hg HB; have jb := nlt hg q0; have jd := ngt hg q0; have qx := nlt hg q1; have qb := ngt hg q1; have qp := nlt hg q2; have q8 := ngt hg q2; replace q0 := bb q0 hb; replace q1 := bb q1 hb; replace q2 := bb q2 hb; replace HB := bst HB hb; clear hb hg) | ((with_reducible refine gate_dst (N := 7) rfl ?_); refine bx 7 #[.int .i64 0, .int .i64 0, .int .i64 0, .int .i64 0] 25 fun qe hg w16 q4 hb => ?_; have jT := gw hg HB; have j3 := gw hg HB; have jc := nlt hg q0; have jf := ngt hg q0; have qy := nlt hg q1; have qz := ngt hg q1; have qq := nlt hg q2; have qr := ngt hg q2; have je := nlt hg q3; have jg := ngt hg q3; replace q0 := bb q0 hb; replace q1 := bb q1 hb; replace q2 := bb q2 hb; replace q3 := bb q3 hb; replace HB := bst HB hb; clear hb hg; have gU := jd.out; have Q6 := jb.out; have gV := qb.out; have Q7 := qx.out; have gW := q8.out; have Q8 := qp.out; have gX := je.out; have Q9 := jg.out; have ⟨js, jt, ju, jI, jJ, jK⟩ := cf3 q3) | ((with_reducible refine gate_store (t := 23) (p := 6) rfl ?_); refine sx 23 6 ((((w16.setCell ⟨ql, 0, none⟩ (.int .i64 qf)).setCell ⟨ql, 1, none⟩ (.int .i64 qg)).setCell ⟨ql, 2, none⟩ (.int .i64 qh))) fun w22 hw => ?_; replace q0 := fw hw q0; replace q1 := fw hw q1; replace q2 := fw hw q2; replace q3 := pw3 hw q3; replace q4 := fw hw q4; replace HB := bw hw HB; clear hw; have gY := jf.out; have Qa := jc.out; have gZ := qz.out; have Qb := qy.out; have Q0 := qr.out; have Qc := qq.out; have ⟨jv, jw, jx, jy, jL, jM, jN, jO⟩ := cf4 q4) | ((with_reducible refine gate_store (t := 25) (p := 7) rfl ?_); refine sx 25 7 (((((w22.setCell ⟨qe, 0, none⟩ (.int .i64 qC)).setCell ⟨qe, 1, none⟩ (.int .i64 qD)).setCell ⟨qe, 2, none⟩ (.int .i64 qE)).setCell ⟨qe, 3, none⟩ (.int .i64 qF))) fun w27 hw => ?_; replace q0 := fw hw q0; replace q1 := fw hw q1; replace q2 := fw hw q2; replace q3 := fw hw q3; replace q4 := pw4 hw q4; replace HB := bw hw HB; clear hw; have ⟨jz, jA, jB, jP, jQ, jR⟩ := cf3 q3) | ((with_reducible refine gate_callee (f := 39) rfl ?_); refine goesL_ (some 23) rfl rfl Try.func39 (by kernel_rfl) rfl #[.agg #[.int .i64 qf, .int .i64 qg, .int .i64 qh]] rfl am ?_; (with_reducible refine (grids_group.calls k qf qg qh q9 _ A5.out).mono ?_); rintro e w29 ⟨v224, rfl, ho0, hb⟩; refine ⟨_, rfl, ?_⟩; have qT := Aside0.mk (Kd.R_lower (Kd.R_newB (Kd.R_newB ho0 (g := q5) (o := .cells #[.int .i64 0, .int .i64 0, .int .i64 0, .int .i64 0] 25 (0, 0)) (pk q2)) (g := qe) (o := .cells #[.int .i64 qC, .int .i64 qD, .int .i64 qE, .int .i64 qF] 25 (0, 0)) (pk q4)) (below_size (bnow HB))); replace q0 := bb q0 hb; replace q1 := bb q1 hb; replace q2 := bb q2 hb; replace q3 := bb q3 hb; replace q4 := bb q4 hb; replace HB := bst HB hb; (try clear hb); (try clear hb2); (try clear hk); (try clear hi); (try clear ho0); obtain ⟨j1, jj, jl⟩ := Kd.R_slice qT.out; subst jl))
  (try simp only [Act.put, List.setIfInBounds_toArray, List.set_cons_zero, List.set_cons_succ])
  go_loopg [26] k (fun kq v26 w' => ∃ (x8_1 : List (S25)) (x26_1 : Int) (x213000_1 : Int) (x213001_1 : Int) (x213002_1 : Int) (x213003_1 : Int) (x223000_1 : Int) (x223001_1 : Int) (x223002_1 : Int) (x223003_1 : Int), v26 = .int .i64 x26_1 ∧ Aside0 (grids_Reduce.l0 kq x8_1 (q9.length : Int) x26_1 qf qg qh x223000_1 x223001_1 x223002_1 x223003_1 = some (r1, r2, r3, r4, r5, r6, r7, r8)) ∧ Aside0 (kq ≤ k) ∧ Aside0 (Kd.R k25 25 w' w.heap.size (fun k_ => k_ ≠ q5 ∧ k_ ≠ qe) (.slice j1 q9.length jj) x8_1) ∧ Aside0 (w'.heap[qX]? = some (.cells #[.int .i64 a0_0, .int .i64 a0_1, .int .i64 a0_2] 23 (0, 0))) ∧ Aside0 (w'.heap[q7]? = some (.cells #[.int .i64 0, .int .i64 0, .int .i64 0] 23 (0, 0))) ∧ Aside0 (w'.heap[q5]? = some (.cells #[.int .i64 x213000_1, .int .i64 x213001_1, .int .i64 x213002_1, .int .i64 x213003_1] 25 (0, 0))) ∧ Aside0 (w'.heap[ql]? = some (.cells #[.int .i64 qf, .int .i64 qg, .int .i64 qh] 23 (0, 0))) ∧ Aside0 (w'.heap[qe]? = some (.cells #[.int .i64 x223000_1, .int .i64 x223001_1, .int .i64 x223002_1, .int .i64 x223003_1] 25 (0, 0))) ∧ Aside0 (Below w.heap.size w w'))
  case atStart => exact ⟨(q9), (0), (0), (0), (0), (0), (qC), (qD), (qE), (qF), (by first | rfl | (simp; done) | (simp [*]; done)), H', ⟨Nat.le_refl _⟩, ⟨by (with_reducible repeat (first | apply Kd.R_alloc | apply Kd.R_drewN | apply Kd.R_drew)); exact Kd.R_mono qT.out (fun _ hk => ⟨hk.1.2, hk.2⟩)⟩, ⟨pk q0⟩, ⟨pk q1⟩, ⟨pk q2⟩, ⟨pk q3⟩, ⟨pk q4⟩, ⟨bnow HB⟩⟩
  case round =>
   clear H'
   try clear c1; try clear c2; try clear p2; try clear c3; try clear qU; try clear qV; try clear c9; try clear c10; try clear c11; try clear c14; try clear c17; try clear c18; try clear c19; try clear c20; try clear c23; try clear c24; try clear c25; try clear jm; try clear jn; try clear jo; try clear jp; try clear jq; try clear jr; try clear js; try clear jt; try clear ju; try clear jv; try clear jw; try clear jx; try clear jy; try clear jz; try clear jA; try clear jB; try clear jC; try clear jD; try clear jE; try clear jF; try clear jG; try clear jH; try clear jI; try clear jJ; try clear jK; try clear jL; try clear jM; try clear jN; try clear jO; try clear jP; try clear jQ; try clear jR
   obtain ⟨x8_1, x26_1, x213000_1, x213001_1, x213002_1, x213003_1, x223000_1, x223001_1, x223002_1, x223003_1, rfl, HA, HK1, HO_8, q0, q1, q2, q3, q4, HB⟩ := hrel
   have hl8_1 := (Kd.R_reads' HO_8.out).1
   rw [hl8_1] at HO_8
   (try simp only [hl8_1])
   (try simp only [hl8_1] at q0)
   (try simp only [hl8_1] at q1)
   (try simp only [hl8_1] at q2)
   (try simp only [hl8_1] at q3)
   (try simp only [hl8_1] at q4)
   cases gk with
   | zero => exact absurd HA.out (by simp [grids_Reduce.l0])
   | succ k1 =>
    have H := HA.out
    clear HA
    simp only [grids_Reduce.l0] at H
    by_cases c31 : x26_1 < (q9.length : Int)
    ·rw [if_pos c31] at H
     have qH : decide (x26_1 < (q9.length : Int)) = true := decide_eq_true c31
     (try (have qI := qH; simp only [hl8_1] at qI))
     clear c31
     by_cases c32 : 0 ≤ x26_1
     ·rw [if_pos c32] at H
      have jU : decide (0 ≤ x26_1) = true := decide_eq_true c32
      clear c32
      by_cases c33 : x26_1 < (x8_1.length : Int)
      ·rw [if_pos c33] at H
       have jh : decide (x26_1 < (x8_1.length : Int)) = true := decide_eq_true c33
       (try (have ji := jh; simp only [hl8_1] at ji))
       clear c33
       obtain ⟨⟨qs, qt, qu, qv⟩, A34, H⟩ := ob H
       obtain ⟨j0, hy231⟩ : ∃ y_ : List (S25), y_ = (x8_1.set (x26_1 : Int).toNat (⟨qs, qt, qu, qv⟩ : S25)) := ⟨_, rfl⟩
       replace H : ((some (wrap64 (x26_1 + 1))).bind fun qo => (grids_Reduce.l0 k1 j0 (q9.length : Int) qo qf qg qh x223000_1 x223001_1 x223002_1 x223003_1)) = some (r1, r2, r3, r4, r5, r6, r7, r8) := by first | (rw [hy231]; with_reducible exact H) | (have H2_ := (Option.bind_some _ _).symm.trans H; rw [hy231]; with_reducible exact H2_) | (have H2_ := (Option.bind_some _ _).symm.trans H; with_reducible exact H2_) | with_reducible exact H | (rw [hy231]; exact H) | exact H
       have Ny231 := Aside0.mk hy231
       clear hy231
       obtain ⟨qo, E360, H⟩ := oc H
       have E36w : (IntKind.i64.wrap (x26_1 + 1)) = qo := (i64_w _).trans E360
       have H' := Aside0.mk H
       clear H
       try go_wp2
       replace HO_8 := Aside0.mk (Kd.R_drew HO_8.out)
       replace q0 := bd q0
       replace q1 := bd q1
       replace q2 := bd q2
       replace q3 := bd q3
       replace q4 := bd q4
       replace HB := bdn HB
       have qN : 0 ≤ (x26_1 : Int) := of_decide_eq_true (by first | (with_reducible assumption) | assumption)
       have qO : x26_1 < (x8_1.length : Int) := of_decide_eq_true (by first | (with_reducible assumption) | assumption)
       obtain ⟨qk, jk, qJ, qK, qL, qM⟩ := at_T25 (Kd.R_reads' HO_8.out).2.2 x26_1 qN qO
       cases jk
       replace qN := eq_true qN
       replace qO := eq_true qO
       refine start_ (n := 10) (S := fun w' => w'.cell? ⟨qe, 0, none⟩ = some (.int .i64 x223000_1) ∧ w'.cell? ⟨qe, 1, none⟩ = some (.int .i64 x223001_1) ∧ w'.cell? ⟨qe, 2, none⟩ = some (.int .i64 x223002_1) ∧ w'.cell? ⟨qe, 3, none⟩ = some (.int .i64 x223003_1) ∧ w'.cell? (qk.add ((x26_1).toNat * 4)) = some (.int .i64 ((rd_T25 x8_1 x26_1).f0)) ∧ w'.cell? ⟨(qk.add ((x26_1).toNat * 4)).block, (qk.add ((x26_1).toNat * 4)).off + 1, none⟩ = some (.int .i64 ((rd_T25 x8_1 x26_1).f1)) ∧ w'.cell? ⟨(qk.add ((x26_1).toNat * 4)).block, (qk.add ((x26_1).toNat * 4)).off + 2, none⟩ = some (.int .i64 ((rd_T25 x8_1 x26_1).f2)) ∧ w'.cell? ⟨(qk.add ((x26_1).toNat * 4)).block, (qk.add ((x26_1).toNat * 4)).off + 3, none⟩ = some (.int .i64 ((rd_T25 x8_1 x26_1).f3))) (ds := [9]) #[false, false, false, false, false, false, false, false, false, false] (by kernel_rfl) rfl rfl ⟨(blk_cell q4.out 0).trans rfl, (blk_cell q4.out 1).trans rfl, (blk_cell q4.out 2).trans rfl, (blk_cell q4.out 3).trans rfl, qJ, qK, qL, qM⟩ (fun hHeld => ?_); refine with_tabW grids_Reduce.tab9 grids_Reduce.bits9 (fun HT_ HW_ => ?_)
       generalize wr.drew = w37 at HO_8 q0 q1 q2 q3 q4 HB qJ qK qL qM hHeld ⊢
       refine pz 0 29 HT_ ?_
       refine pz 1 30 HT_ ?_
       refine pz 3 32 HT_ ?_
       refine pz 4 33 HT_ ?_
       refine pz 5 34 HT_ ?_
       refine tz 2 31 HT_ HW_ hHeld ?_
       refine tz 6 35 HT_ HW_ hHeld ?_
       refine one_ (i := 7) (N := some 36) #[true, true, true, true, true, true, true, true, false, false] rfl rfl (one_of HT_.out (by kernel_rfl)) (by decide) (fun K hK => ?_)
       refine gs _ Try.func40 (grids_times.calls x223000_1 x223001_1 x223002_1 x223003_1 ((rd_T25 x8_1 x26_1).f0) ((rd_T25 x8_1 x26_1).f1) ((rd_T25 x8_1 x26_1).f2) ((rd_T25 x8_1 x26_1).f3) qs qt qu qv _ A34.out) ?_
       rintro e w38 ⟨rfl, hb⟩
       have j7 := (hb.cell (World.block_lt_of_cell? _ _ (hHeld.2.2.2.2.1))).trans (hHeld.2.2.2.2.1)
       have j8 := (hb.cell (World.block_lt_of_cell? _ _ (hHeld.2.2.2.2.2.1))).trans (hHeld.2.2.2.2.2.1)
       have j9 := (hb.cell (World.block_lt_of_cell? _ _ (hHeld.2.2.2.2.2.2.1))).trans (hHeld.2.2.2.2.2.2.1)
       have ja := (hb.cell (World.block_lt_of_cell? _ _ (hHeld.2.2.2.2.2.2.2))).trans (hHeld.2.2.2.2.2.2.2)
       refine ⟨_, rfl, ?_⟩
       have n0_ := Aside0.mk (Kd.R_below (by (with_reducible repeat (first | apply Kd.R_alloc | apply Kd.R_drewN | apply Kd.R_drew)); exact HO_8.out) hb)
       have n1_ := bb q0 hb
       have n2_ := bb q1 hb
       have n3_ := bb q2 hb
       have n4_ := bb q3 hb
       have n5_ := bb q4 hb
       have n6_ := bst HB hb
       clear HO_8
       clear q0
       clear q1
       clear q2
       clear q3
       clear q4
       clear HB
       have HO_8 := n0_
       have q0 := n1_
       have q1 := n2_
       have q2 := n3_
       have q3 := n4_
       have q4 := n5_
       have HB := n6_
       clear n0_ n1_ n2_ n3_ n4_ n5_ n6_
       (try clear hb)
       (try clear hb2)
       (try clear hk)
       (try clear hi)
       have p35 : 0 ≤ (x26_1 : Int) := of_decide_eq_true (by first | (with_reducible assumption) | assumption)
       have q35 : (x26_1 : Int) < ((x8_1.length : Int) : Int) := of_decide_eq_true (by first | (with_reducible assumption) | assumption)
       obtain ⟨go35, jV, qW, qY, gl35, cl35, HG35⟩ := Kd.R_form HO_8.out (by omega)
       (first | cases qW | (injection qW with ea_ en_ ec_; (first | subst ea_ | (injection ea_ with ea_; subst ea_)); subst ec_; clear en_))
       have GB35 := Aside0.mk qY
       have GG35 := Aside0.mk HG35
       clear qY gl35 HG35
       (first | simp only [add_plain] at qJ | skip)
       (first | simp only [add_plain] at qK | skip)
       (first | simp only [add_plain] at qL | skip)
       (first | simp only [add_plain] at qM | skip)
       obtain ⟨ce35, hcl35, hM35, hcc35, hfr35⟩ := Kd.R_elem HO_8.out z25 (x26_1 : Int) p35 q35
       obtain rfl := k25_openM hM35
       have QQ : World.cell? _ ⟨go35, (x26_1 : Int).toNat * 4, none⟩ = some (.int .i64 ((rd_T25 x8_1 x26_1).f0)) := hcc35 0 _ rfl
       have QR : World.cell? _ ⟨go35, (x26_1 : Int).toNat * 4 + 1, none⟩ = some (.int .i64 ((rd_T25 x8_1 x26_1).f1)) := hcc35 1 _ rfl
       have QS : World.cell? _ ⟨go35, (x26_1 : Int).toNat * 4 + 2, none⟩ = some (.int .i64 ((rd_T25 x8_1 x26_1).f2)) := hcc35 2 _ rfl
       have QT : World.cell? _ ⟨go35, (x26_1 : Int).toNat * 4 + 3, none⟩ = some (.int .i64 ((rd_T25 x8_1 x26_1).f3)) := hcc35 3 _ rfl
       have hf35_0 : World.frozen? _ ⟨go35, (x26_1 : Int).toNat * 4, none⟩ = false := hfr35 0
       have hf35_1 : World.frozen? _ ⟨go35, (x26_1 : Int).toNat * 4 + 1, none⟩ = false := hfr35 1
       have hf35_2 : World.frozen? _ ⟨go35, (x26_1 : Int).toNat * 4 + 2, none⟩ = false := hfr35 2
       have hf35_3 : World.frozen? _ ⟨go35, (x26_1 : Int).toNat * 4 + 3, none⟩ = false := hfr35 3
       (try rw [World.frozen?_setCells] at hf35_0)
       (try rw [World.frozen?_setCells] at hf35_1)
       (try rw [World.frozen?_setCells] at hf35_2)
       (try rw [World.frozen?_setCells] at hf35_3)
       clear hcl35 hcc35 hfr35 hM35
       replace p35 := eq_true p35
       replace q35 := eq_true q35
       obtain ⟨ce39, hcl39, hM39, hcc39, hfr39⟩ := Kd.R_elem HO_8.out z25 (x26_1 : Int) (of_decide_eq_true (by first | (with_reducible assumption) | assumption)) (by have h_ : (x26_1 : Int) < ((x8_1.length : Int) : Int) := of_decide_eq_true (by first | (with_reducible assumption) | assumption); first | exact h_ | (have e_ := (Kd.R_reads' HO_8.out).1; omega) | simpa using h_)
       obtain rfl := k25_openM hM39
       have HP39 := (Kd.R_seg HO_8.out (x26_1 : Int) (of_decide_eq_true (by first | (with_reducible assumption) | assumption)) (by have h_ : (x26_1 : Int) < ((x8_1.length : Int) : Int) := of_decide_eq_true (by first | (with_reducible assumption) | assumption); first | exact h_ | (have e_ := (Kd.R_reads' HO_8.out).1; omega) | simpa using h_) (seg := [.int .i64 qs, .int .i64 qt, .int .i64 qu, .int .i64 qv]) (j := 0) hcl39 hcc39 (show 4 ≤ 4 from by decide) (x' := (⟨qs, qt, qu, qv⟩ : S25)) (k25_mkM _ _ _ (⟨qs, qt, qu, qv⟩ : S25) ) (fun _ hk => hk)).1
       rw [← Ny231.out] at HP39
       have HQ39 := Aside0.mk HP39
       clear hcl39 hcc39 hfr39 hM39 HP39
       refine hK.out _ _ ⟨(blk_cell q4.out 0).trans rfl, (blk_cell q4.out 1).trans rfl, (blk_cell q4.out 2).trans rfl, (blk_cell q4.out 3).trans rfl, j7, j8, j9, ja⟩ (fun hHeld => ?_)
       clear hK K
       refine norm_ (a' := ?_) ?_ ?_
       rotate_left
       ·show Act.put _ (some 36) _ = _
        simp only [Act.put, List.setIfInBounds_toArray, List.set_cons_zero, List.set_cons_succ, i64_w, i32_w]
        rfl
       refine pz 8 37 HT_ ?_
       refine last_ (i := 9) (N := none) #[true, true, true, true, true, true, true, true, true, true] rfl rfl (one_of HT_.out (by kernel_rfl)) (by decide) (fun K hK => ?_)
       refine skip_ (w1 := ?_) (by rfl) rfl ?_ ?_
       rotate_left
       ·go_simp
        rfl
       refine hK.out _ _ ?_
       clear hK K
       refine done_ (done_of HT_.out (by kernel_rfl)) ?_
       try go_wp2
       (try simp only [← hl8_1])
       go_roundg k1
       case measure => have := HK1.out; omega
       case rel => exact ⟨(j0), (qo), (x213000_1), (x213001_1), (x213002_1), (x213003_1), (x223000_1), (x223001_1), (x223002_1), (x223003_1), (by first | rfl | (simp; done) | (simp [*]; done)), H', ⟨by have := HK1.out; omega⟩, ⟨by (try simp only [hl8_1]); (with_reducible repeat (first | apply Kd.R_alloc | apply Kd.R_drewN | apply Kd.R_drew)); exact HQ39.out⟩, ⟨by (try simp only [hl8_1]); (with_reducible repeat (first | refine blk_drewN ?_ _ | refine blk_drew ?_ | refine blk_alloc ?_ _)); refine blk_far ?_ (by have h_ := Kd.R_ne HO_8.out q0.out (by decide); intro e_; exact h_ (by rw [e_]; rfl)) _; (with_reducible repeat (first | refine blk_drewN ?_ _ | refine blk_drew ?_ | refine blk_alloc ?_ _)); refine blk_far ?_ (by have h_ := Kd.R_ne HO_8.out q0.out (by decide); intro e_; exact h_ (by rw [e_]; rfl)) _; (with_reducible repeat (first | refine blk_drewN ?_ _ | refine blk_drew ?_ | refine blk_alloc ?_ _)); refine blk_far ?_ (by have h_ := Kd.R_ne HO_8.out q0.out (by decide); intro e_; exact h_ (by rw [e_]; rfl)) _; (with_reducible repeat (first | refine blk_drewN ?_ _ | refine blk_drew ?_ | refine blk_alloc ?_ _)); refine blk_far ?_ (by have h_ := Kd.R_ne HO_8.out q0.out (by decide); intro e_; exact h_ (by rw [e_]; rfl)) _; (with_reducible repeat (first | refine blk_drewN ?_ _ | refine blk_drew ?_ | refine blk_alloc ?_ _)); exact q0.out⟩, ⟨by (try simp only [hl8_1]); (with_reducible repeat (first | refine blk_drewN ?_ _ | refine blk_drew ?_ | refine blk_alloc ?_ _)); refine blk_far ?_ (by have h_ := Kd.R_ne HO_8.out q1.out (by decide); intro e_; exact h_ (by rw [e_]; rfl)) _; (with_reducible repeat (first | refine blk_drewN ?_ _ | refine blk_drew ?_ | refine blk_alloc ?_ _)); refine blk_far ?_ (by have h_ := Kd.R_ne HO_8.out q1.out (by decide); intro e_; exact h_ (by rw [e_]; rfl)) _; (with_reducible repeat (first | refine blk_drewN ?_ _ | refine blk_drew ?_ | refine blk_alloc ?_ _)); refine blk_far ?_ (by have h_ := Kd.R_ne HO_8.out q1.out (by decide); intro e_; exact h_ (by rw [e_]; rfl)) _; (with_reducible repeat (first | refine blk_drewN ?_ _ | refine blk_drew ?_ | refine blk_alloc ?_ _)); refine blk_far ?_ (by have h_ := Kd.R_ne HO_8.out q1.out (by decide); intro e_; exact h_ (by rw [e_]; rfl)) _; (with_reducible repeat (first | refine blk_drewN ?_ _ | refine blk_drew ?_ | refine blk_alloc ?_ _)); exact q1.out⟩, ⟨by (try simp only [hl8_1]); (with_reducible repeat (first | refine blk_drewN ?_ _ | refine blk_drew ?_ | refine blk_alloc ?_ _)); refine blk_far ?_ (by have h_ := Kd.R_away HO_8.out (fun _ hk => hk.1); intro e_; exact h_ (by rw [e_]; rfl)) _; (with_reducible repeat (first | refine blk_drewN ?_ _ | refine blk_drew ?_ | refine blk_alloc ?_ _)); refine blk_far ?_ (by have h_ := Kd.R_away HO_8.out (fun _ hk => hk.1); intro e_; exact h_ (by rw [e_]; rfl)) _; (with_reducible repeat (first | refine blk_drewN ?_ _ | refine blk_drew ?_ | refine blk_alloc ?_ _)); refine blk_far ?_ (by have h_ := Kd.R_away HO_8.out (fun _ hk => hk.1); intro e_; exact h_ (by rw [e_]; rfl)) _; (with_reducible repeat (first | refine blk_drewN ?_ _ | refine blk_drew ?_ | refine blk_alloc ?_ _)); refine blk_far ?_ (by have h_ := Kd.R_away HO_8.out (fun _ hk => hk.1); intro e_; exact h_ (by rw [e_]; rfl)) _; (with_reducible repeat (first | refine blk_drewN ?_ _ | refine blk_drew ?_ | refine blk_alloc ?_ _)); exact q2.out⟩, ⟨by (try simp only [hl8_1]); (with_reducible repeat (first | refine blk_drewN ?_ _ | refine blk_drew ?_ | refine blk_alloc ?_ _)); refine blk_far ?_ (by have h_ := Kd.R_ne HO_8.out q3.out (by decide); intro e_; exact h_ (by rw [e_]; rfl)) _; (with_reducible repeat (first | refine blk_drewN ?_ _ | refine blk_drew ?_ | refine blk_alloc ?_ _)); refine blk_far ?_ (by have h_ := Kd.R_ne HO_8.out q3.out (by decide); intro e_; exact h_ (by rw [e_]; rfl)) _; (with_reducible repeat (first | refine blk_drewN ?_ _ | refine blk_drew ?_ | refine blk_alloc ?_ _)); refine blk_far ?_ (by have h_ := Kd.R_ne HO_8.out q3.out (by decide); intro e_; exact h_ (by rw [e_]; rfl)) _; (with_reducible repeat (first | refine blk_drewN ?_ _ | refine blk_drew ?_ | refine blk_alloc ?_ _)); refine blk_far ?_ (by have h_ := Kd.R_ne HO_8.out q3.out (by decide); intro e_; exact h_ (by rw [e_]; rfl)) _; (with_reducible repeat (first | refine blk_drewN ?_ _ | refine blk_drew ?_ | refine blk_alloc ?_ _)); exact q3.out⟩, ⟨by (try simp only [hl8_1]); (with_reducible repeat (first | refine blk_drewN ?_ _ | refine blk_drew ?_ | refine blk_alloc ?_ _)); refine blk_far ?_ (by have h_ := Kd.R_away HO_8.out (fun _ hk => hk.2); intro e_; exact h_ (by rw [e_]; rfl)) _; (with_reducible repeat (first | refine blk_drewN ?_ _ | refine blk_drew ?_ | refine blk_alloc ?_ _)); refine blk_far ?_ (by have h_ := Kd.R_away HO_8.out (fun _ hk => hk.2); intro e_; exact h_ (by rw [e_]; rfl)) _; (with_reducible repeat (first | refine blk_drewN ?_ _ | refine blk_drew ?_ | refine blk_alloc ?_ _)); refine blk_far ?_ (by have h_ := Kd.R_away HO_8.out (fun _ hk => hk.2); intro e_; exact h_ (by rw [e_]; rfl)) _; (with_reducible repeat (first | refine blk_drewN ?_ _ | refine blk_drew ?_ | refine blk_alloc ?_ _)); refine blk_far ?_ (by have h_ := Kd.R_away HO_8.out (fun _ hk => hk.2); intro e_; exact h_ (by rw [e_]; rfl)) _; (with_reducible repeat (first | refine blk_drewN ?_ _ | refine blk_drew ?_ | refine blk_alloc ?_ _)); exact q4.out⟩, ⟨by repeat (first | (with_reducible first | exact HB.out | apply below_alloc | apply pw_below_drewN | apply below_drew1 | refine below_set ?_ GB35.out | refine below_set ?_ GB35.out | refine below_set ?_ GB35.out | refine below_set ?_ GB35.out | refine below_set ?_ qQ.out | refine below_set ?_ qR.out | refine below_set ?_ qS.out | refine below_set ?_ j2.out | refine below_set ?_ j3.out) | exact HB.out)⟩⟩
      ·rw [if_neg c33] at H
       exact absurd H (by simp)
     ·rw [if_neg c32] at H
      exact absurd H (by simp)
    ·rw [if_neg c31] at H
     have qH : decide (x26_1 < (q9.length : Int)) = false := decide_eq_false c31
     (try (have qI := qH; simp only [hl8_1] at qI))
     clear c31
     obtain ⟨⟨qw, qG, qP, qZ⟩, A40, H⟩ := ob H
     simp only [Option.some.injEq, Prod.mk.injEq] at H
     obtain ⟨rfl, rfl, rfl, rfl, rfl, rfl, rfl, rfl⟩ := H
     try go_wp2
     replace HO_8 := Aside0.mk (Kd.R_drew HO_8.out)
     replace q0 := bd q0
     replace q1 := bd q1
     replace q2 := bd q2
     replace q3 := bd q3
     replace q4 := bd q4
     replace HB := bdn HB
     refine start_ (n := 6) (S := fun w' => w'.cell? ⟨ql, 0, none⟩ = some (.int .i64 qf) ∧ w'.cell? ⟨ql, 1, none⟩ = some (.int .i64 qg) ∧ w'.cell? ⟨ql, 2, none⟩ = some (.int .i64 qh)) (ds := []) #[false, false, false, false, false, false] (by kernel_rfl) rfl rfl ⟨(blk_cell q3.out 0).trans rfl, (blk_cell q3.out 1).trans rfl, (blk_cell q3.out 2).trans rfl⟩ (fun hHeld => ?_)
     generalize wr.drew = w41 at HO_8 q0 q1 q2 q3 q4 HB hHeld ⊢
     refine pure_ (i := 1) (N := some 40) (v := ?_) (a' := ?_) #[false, true, false, false, false, false] rfl rfl (by kernel_rfl) (fun _ _ _ h => h) (Or.inl ⟨by rfl, ?_⟩) ?_ ?_
     rotate_left
     ·intro w'
      go_simp
      with_reducible rfl
     rotate_left
     ·simp only [Act.put, List.setIfInBounds_toArray, List.set_cons_zero, List.set_cons_succ, i64_w, i32_w]
      rfl
     refine take_ (i := 0) (N := some 39) (v := ?_) (a' := ?_) #[true, true, false, false, false, false] rfl rfl (by kernel_rfl) (fun _ _ _ h => h) (Or.inl ⟨by rfl, ?_⟩) hHeld ?_ ?_
     rotate_left
     ·rintro w' ⟨s0, s1, s2⟩
      go_simp
      with_reducible rfl
     rotate_left
     ·simp only [Act.put, List.setIfInBounds_toArray, List.set_cons_zero, List.set_cons_succ, i64_w, i32_w]
      rfl
     refine one_ (i := 2) (N := some 41) #[true, true, true, false, false, false] rfl rfl (by kernel_rfl) (by decide) (fun K hK => ?_)
     refine gs _ Try.func41 (api_GrMatrix_41.calls k1 _ _ x8_1  qw qG qP qZ _ ?side1 ?side2 A40.out) ?_
     (case side1 => repeat (first | exact (Kd.R_reads' HO_8.out).2.2 | (with_reducible refine Kd.C_alloc ?_ _) | (with_reducible refine Kd.C_drewN ?_ _) | (with_reducible refine Kd.C_drew ?_)))
     (case side2 => exact (Kd.R_reads' HO_8.out).2.1)
     rintro e w42 ⟨rfl, hb⟩
     refine ⟨_, rfl, ?_⟩
     have n0_ := Aside0.mk (Kd.R_below (by (with_reducible repeat (first | apply Kd.R_alloc | apply Kd.R_drewN | apply Kd.R_drew)); exact HO_8.out) hb)
     have n1_ := bb q0 hb
     have n2_ := bb q1 hb
     have n3_ := bb q2 hb
     have n4_ := bb q3 hb
     have n5_ := bb q4 hb
     have n6_ := bst HB hb
     clear HO_8
     clear q0
     clear q1
     clear q2
     clear q3
     clear q4
     clear HB
     have HO_8 := n0_
     have q0 := n1_
     have q1 := n2_
     have q2 := n3_
     have q3 := n4_
     have q4 := n5_
     have HB := n6_
     clear n0_ n1_ n2_ n3_ n4_ n5_ n6_
     (try clear hb)
     (try clear hb2)
     (try clear hk)
     (try clear hi)
     refine hK.out _ _ ⟨(blk_cell q3.out 0).trans rfl, (blk_cell q3.out 1).trans rfl, (blk_cell q3.out 2).trans rfl⟩ (fun hHeld => ?_)
     clear hK K
     refine norm_ (a' := ?_) ?_ ?_
     rotate_left
     ·show Act.put _ (some 41) _ = _
      simp only [Act.put, List.setIfInBounds_toArray, List.set_cons_zero, List.set_cons_succ, i64_w, i32_w]
      rfl
     refine one_ (i := 3) (N := none) #[true, true, true, true, false, false] rfl rfl (by kernel_rfl) (by decide) (fun K hK => ?_)
     have QJ : w42.cell? ⟨q7, 0, none⟩ = some (.int .i64 0) := (blk_cell q1.out 0).trans rfl
     have g6 := blk_frozen q1.out 0
     have Qh := qm.out
     have Qi := qd.out
     have Qj := qb.out
     have Qk := qz.out
     have gp := qn.out
     have gq := qa.out
     have gr := qx.out
     have gt := qy.out
     have QK : w42.cell? ⟨q7, 1, none⟩ = some (.int .i64 0) := (blk_cell q1.out 1).trans rfl
     have g7 := blk_frozen q1.out 1
     have Ql := qm.out
     have Qm := qd.out
     have Qn := qb.out
     have Qo := qz.out
     have gu := qn.out
     have gv := qa.out
     have gx := qx.out
     have gy := qy.out
     have QL : w42.cell? ⟨q7, 2, none⟩ = some (.int .i64 0) := (blk_cell q1.out 2).trans rfl
     have g8 := blk_frozen q1.out 2
     have Qp := qm.out
     have Qq := qd.out
     have Qr := qb.out
     have Qs := qz.out
     have gz := qn.out
     have gA := qa.out
     have gB := qx.out
     have gC := qy.out
     refine skip_ (w1 := ?_) (by rfl) rfl ?_ ?_
     rotate_left
     ·go_simp
      rfl
     refine hK.out _ _ ⟨((cell_far (p := ⟨q7, _, none⟩) qb.out _).trans (((cell_far (p := ⟨q7, _, none⟩) qb.out _).trans (((cell_far (p := ⟨q7, _, none⟩) qb.out _).trans (hHeld.1)))))), ((cell_far (p := ⟨q7, _, none⟩) qb.out _).trans (((cell_far (p := ⟨q7, _, none⟩) qb.out _).trans (((cell_far (p := ⟨q7, _, none⟩) qb.out _).trans (hHeld.2.1)))))), ((cell_far (p := ⟨q7, _, none⟩) qb.out _).trans (((cell_far (p := ⟨q7, _, none⟩) qb.out _).trans (((cell_far (p := ⟨q7, _, none⟩) qb.out _).trans (hHeld.2.2))))))⟩ (fun hHeld => ?_)
     clear hK K
     refine one_ (i := 4) (N := none) #[true, true, true, true, true, false] rfl rfl (by kernel_rfl) (by decide) (fun K hK => ?_)
     have QM : w42.cell? ⟨q5, 0, none⟩ = some (.int .i64 x213000_1) := (blk_cell q2.out 0).trans rfl
     have g9 := blk_frozen q2.out 0
     have Qt := qi.out
     have Qu := qa.out
     have Qv := q8.out
     have Qw := qr.out
     have gD := qj.out
     have gE := qd.out
     have gF := qp.out
     have gG := qq.out
     have QN : w42.cell? ⟨q5, 1, none⟩ = some (.int .i64 x213001_1) := (blk_cell q2.out 1).trans rfl
     have ga := blk_frozen q2.out 1
     have Qx := qi.out
     have Qy := qa.out
     have Qz := q8.out
     have QA := qr.out
     have gH := qj.out
     have gI := qd.out
     have gJ := qp.out
     have gK := qq.out
     have QO : w42.cell? ⟨q5, 2, none⟩ = some (.int .i64 x213002_1) := (blk_cell q2.out 2).trans rfl
     have gb := blk_frozen q2.out 2
     have QB := qi.out
     have QC := qa.out
     have QD := q8.out
     have QE := qr.out
     have gL := qj.out
     have gM := qd.out
     have gN := qp.out
     have gO := qq.out
     have QP : w42.cell? ⟨q5, 3, none⟩ = some (.int .i64 x213003_1) := (blk_cell q2.out 3).trans rfl
     have gc := blk_frozen q2.out 3
     have QF := qi.out
     have QG := qa.out
     have QH := q8.out
     have QI := qr.out
     have gP := qj.out
     have gQ := qd.out
     have gR := qp.out
     have gS := qq.out
     refine skip_ (w1 := ?_) (by rfl) rfl ?_ ?_
     rotate_left
     ·go_simp
      rfl
     refine hK.out _ _ ⟨((cell_far (p := ⟨q5, _, none⟩) q8.out _).trans (((cell_far (p := ⟨q5, _, none⟩) q8.out _).trans (((cell_far (p := ⟨q5, _, none⟩) q8.out _).trans (((cell_far (p := ⟨q5, _, none⟩) q8.out _).trans (hHeld.1)))))))), ((cell_far (p := ⟨q5, _, none⟩) q8.out _).trans (((cell_far (p := ⟨q5, _, none⟩) q8.out _).trans (((cell_far (p := ⟨q5, _, none⟩) q8.out _).trans (((cell_far (p := ⟨q5, _, none⟩) q8.out _).trans (hHeld.2.1)))))))), ((cell_far (p := ⟨q5, _, none⟩) q8.out _).trans (((cell_far (p := ⟨q5, _, none⟩) q8.out _).trans (((cell_far (p := ⟨q5, _, none⟩) q8.out _).trans (((cell_far (p := ⟨q5, _, none⟩) q8.out _).trans (hHeld.2.2))))))))⟩ (fun hHeld => ?_)
     clear hK K
     refine pure_ (i := 5) (N := some 4) (v := ?_) (a' := ?_) #[true, true, true, true, true, true] rfl rfl (by kernel_rfl) (fun _ _ _ h => h) (Or.inl ⟨by rfl, ?_⟩) ?_ ?_
     rotate_left
     ·intro w'
      go_simp
      with_reducible rfl
     rotate_left
     ·simp only [Act.put, List.setIfInBounds_toArray, List.set_cons_zero, List.set_cons_succ, i64_w, i32_w]
      rfl
     refine done_ (by kernel_rfl) ?_
     try go_wp2
     refine bodyPost_ret (results_list (rs := [.cell 2 23, .cell 3 25, .tmp 4]) rfl (by simp) (.cell q7 23 #[.int .i64 qf, .int .i64 qg, .int .i64 qh] (0, 0) _ rfl (by (with_reducible repeat (first | refine blk_drewN ?_ _ | refine blk_drew ?_ | refine blk_alloc ?_ _)); refine blk_far ?_ qa.out _; (with_reducible repeat (first | refine blk_drewN ?_ _ | refine blk_drew ?_ | refine blk_alloc ?_ _)); refine blk_far ?_ qa.out _; (with_reducible repeat (first | refine blk_drewN ?_ _ | refine blk_drew ?_ | refine blk_alloc ?_ _)); refine blk_far ?_ qa.out _; (with_reducible repeat (first | refine blk_drewN ?_ _ | refine blk_drew ?_ | refine blk_alloc ?_ _)); refine blk_far ?_ qa.out _; (with_reducible repeat (first | refine blk_drewN ?_ _ | refine blk_drew ?_ | refine blk_alloc ?_ _)); refine blk_put (cs := #[.int .i64 qf, .int .i64 qg, .int .i64 0]) ?_ 2 _ rfl; (with_reducible repeat (first | refine blk_drewN ?_ _ | refine blk_drew ?_ | refine blk_alloc ?_ _)); refine blk_put (cs := #[.int .i64 qf, .int .i64 0, .int .i64 0]) ?_ 1 _ rfl; (with_reducible repeat (first | refine blk_drewN ?_ _ | refine blk_drew ?_ | refine blk_alloc ?_ _)); refine blk_put (cs := #[.int .i64 0, .int .i64 0, .int .i64 0]) ?_ 0 _ rfl; (with_reducible repeat (first | refine blk_drewN ?_ _ | refine blk_drew ?_ | refine blk_alloc ?_ _)); exact q1.out) Try.underlying23 rfl (by kernel_rfl) (.cell q5 25 #[.int .i64 qw, .int .i64 qG, .int .i64 qP, .int .i64 qZ] (0, 0) _ rfl (by (with_reducible repeat (first | refine blk_drewN ?_ _ | refine blk_drew ?_ | refine blk_alloc ?_ _)); refine blk_put (cs := #[.int .i64 qw, .int .i64 qG, .int .i64 qP, .int .i64 x213003_1]) ?_ 3 _ rfl; (with_reducible repeat (first | refine blk_drewN ?_ _ | refine blk_drew ?_ | refine blk_alloc ?_ _)); refine blk_put (cs := #[.int .i64 qw, .int .i64 qG, .int .i64 x213002_1, .int .i64 x213003_1]) ?_ 2 _ rfl; (with_reducible repeat (first | refine blk_drewN ?_ _ | refine blk_drew ?_ | refine blk_alloc ?_ _)); refine blk_put (cs := #[.int .i64 qw, .int .i64 x213001_1, .int .i64 x213002_1, .int .i64 x213003_1]) ?_ 1 _ rfl; (with_reducible repeat (first | refine blk_drewN ?_ _ | refine blk_drew ?_ | refine blk_alloc ?_ _)); refine blk_put (cs := #[.int .i64 x213000_1, .int .i64 x213001_1, .int .i64 x213002_1, .int .i64 x213003_1]) ?_ 0 _ rfl; (with_reducible repeat (first | refine blk_drewN ?_ _ | refine blk_drew ?_ | refine blk_alloc ?_ _)); refine blk_far ?_ qd.out _; (with_reducible repeat (first | refine blk_drewN ?_ _ | refine blk_drew ?_ | refine blk_alloc ?_ _)); refine blk_far ?_ qd.out _; (with_reducible repeat (first | refine blk_drewN ?_ _ | refine blk_drew ?_ | refine blk_alloc ?_ _)); refine blk_far ?_ qd.out _; (with_reducible repeat (first | refine blk_drewN ?_ _ | refine blk_drew ?_ | refine blk_alloc ?_ _)); exact q2.out) Try.underlying25 rfl (by kernel_rfl) (.tmp .nil)))) rfl ?_
     exact rt HB
 ·rw [if_neg c3] at H
  have qU : (qc == 0) = false := beq_eq_false_iff_ne.mpr c3
  have qV : (qc != 0) = true := bne_iff_ne.mpr c3
  simp only [Option.some.injEq, Prod.mk.injEq] at H
  obtain ⟨rfl, rfl, rfl, rfl, rfl, rfl, rfl, rfl⟩ := H
  go_enter Try.func11, Try.ntmps11
  go_wp2_with (first | ((with_reducible refine gate_dst (N := 1) rfl ?_); refine bx 1 #[.int .i64 a0_0, .int .i64 a0_1, .int .i64 a0_2] 23 fun qX hg w50 q0 hb => ?_; have j4 := gw hg HB; have qQ := gw hg HB; replace HB := bst HB hb; clear hb hg) | ((with_reducible refine gate_dst (N := 2) rfl ?_); refine bx 2 #[.int .i64 0, .int .i64 0, .int .i64 0] 23 fun q7 hg w51 q1 hb => ?_; have j5 := gw hg HB; have qR := gw hg HB; have qm := nlt hg q0; have qn := ngt hg q0; replace q0 := bb q0 hb; replace HB := bst HB hb; clear hb hg) | ((with_reducible refine gate_dst (N := 3) rfl ?_); refine bx 3 #[.int .i64 0, .int .i64 0, .int .i64 0, .int .i64 0] 25 fun q5 hg w52 q2 hb => ?_; have j6 := gw hg HB; have qS := gw hg HB; have qi := nlt hg q0; have qj := ngt hg q0; have qa := nlt hg q1; have qd := ngt hg q1; replace q0 := bb q0 hb; replace q1 := bb q1 hb; replace HB := bst HB hb; clear hb hg; have Q1 := qm.out; have Qd := qn.out; have Q2 := qi.out; have Qe := qj.out; have ⟨jW, jX, jY, gd, ge, gf⟩ := cf3 q0) | ((with_reducible refine gate_callee (f := 14) rfl ?_); refine gl 11 Try.func14 (grids_Check.calls k a0_0 a0_1 a0_2 qc _ A2.out) ?_; rintro e w56 ⟨rfl, hb⟩; refine ⟨_, rfl, ?_⟩; replace q0 := bb q0 hb; replace q1 := bb q1 hb; replace q2 := bb q2 hb; replace HB := bst HB hb; clear hb; have Q3 := qa.out; have Qf := qd.out; have ⟨jZ, g0, g1, gg, gh, gi⟩ := cf3 q1) | ((with_reducible refine gate_store (t := 23) (p := 2) rfl ?_); refine sx 23 2 ((((w56.setCell ⟨q7, 0, none⟩ (.int .i64 0)).setCell ⟨q7, 1, none⟩ (.int .i64 0)).setCell ⟨q7, 2, none⟩ (.int .i64 0))) fun w59 hw => ?_; replace q0 := fw hw q0; replace q1 := pw3 hw q1; replace q2 := fw hw q2; replace HB := bw hw HB; clear hw; have ⟨g2, g3, g4, g5, gj, gm, gn, go⟩ := cf4 q2) | ((with_reducible refine gate_store (t := 25) (p := 3) rfl ?_); refine sx 25 3 (((((w59.setCell ⟨q5, 0, none⟩ (.int .i64 0)).setCell ⟨q5, 1, none⟩ (.int .i64 0)).setCell ⟨q5, 2, none⟩ (.int .i64 0)).setCell ⟨q5, 3, none⟩ (.int .i64 0))) fun w61 hw => ?_; replace q0 := fw hw q0; replace q1 := fw hw q1; replace q2 := pw4 hw q2; replace HB := bw hw HB; clear hw))
  refine bodyPost_ret (results_list (rs := [.cell 2 23, .cell 3 25, .tmp 4]) rfl (by simp) (.cell q7 23 #[.int .i64 0, .int .i64 0, .int .i64 0] (0, 0) _ rfl (pk q1) Try.underlying23 rfl (by kernel_rfl) (.cell q5 25 #[.int .i64 0, .int .i64 0, .int .i64 0, .int .i64 0] (0, 0) _ rfl (pk q2) Try.underlying25 rfl (by kernel_rfl) (.tmp .nil)))) rfl ?_
  exact rt HB
end
end Go.Proofs.Ytmcajdepoohlhaa.G
