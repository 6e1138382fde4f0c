/- Functions of the program as plain Lean functions, and their contracts (printed by a program of this session). No condition beyond what each states. -/
import Derived.Test.YtmcajdepoohlhaaCGrpY
import Derived.Test.YtmcajdepoohlhaaCGrpP0
import Derived.Test.YtmcajdepoohlhaaCGrpP1
namespace Go.Proofs.Ytmcajdepoohlhaa.G
open Go.RowKit Go.Proofs.YtmcajdepoohlhaaW.PrintWords Go.Proofs.YtmcajdepoohlhaaW.PrintLast Go.Proofs.YtmcajdepoohlhaaW.PrintMore
attribute [local go_sem] max2_int min2_int max_two min_two max_three min_three max_four min_four
set_option linter.unusedVariables false
set_option linter.unusedSimpArgs false
section
/-! ### grids_Reduce: function 11 -/
def grids_Reduce.l0 : Nat → List (S25) → Int → Int → Int → Int → Int → Int → Int → Int → Int → Option (Int × Int × Int × Int × Int × Int × Int × Int)
 | 0, _, _, _, _, _, _, _, _, _, _ => none
 | k + 1, x8, x25, x26, x222000, x222001, x222002, x223000, x223001, x223002, x223003 => if x26 < x25 then (if 0 ≤ x26 then (if x26 < (x8.length : Int) then ((grids_times.f x223000 x223001 x223002 x223003 ((rd_T25 x8 x26).f0) ((rd_T25 x8 x26).f1) ((rd_T25 x8 x26).f2) ((rd_T25 x8 x26).f3)).bind fun qA => ((some (wrap64 (x26 + 1))).bind fun qo => (grids_Reduce.l0 k (x8.set (x26 : Int).toNat (⟨qA.1, qA.2.1, qA.2.2.1, qA.2.2.2⟩ : S25)) x25 qo x222000 x222001 x222002 x223000 x223001 x223002 x223003))) else (none)) else (none)) else ((api_GrMatrix_41.f k x8).bind fun qB => (some (x222000, x222001, x222002, qB.1, qB.2.1, qB.2.2.1, qB.2.2.2, 0)))
def grids_Reduce.f (k : Nat) (a0_0 : Int) (a0_1 : Int) (a0_2 : Int) : Option (Int × Int × Int × Int × Int × Int × Int × Int) := (grids_Check.f k a0_0 a0_1 a0_2).bind fun qc => (if qc = 0 then ((grids_reduce.f k a0_0 a0_1 a0_2).bind fun q6 => ((grids_group.f k q6.1 q6.2.1 q6.2.2.1).bind fun q9 => (grids_Reduce.l0 k q9 (q9.length : Int) 0 q6.1 q6.2.1 q6.2.2.1 q6.2.2.2.1 q6.2.2.2.2.1 q6.2.2.2.2.2.1 q6.2.2.2.2.2.2))) else (some (0, 0, 0, 0, 0, 0, 0, qc)))
theorem grids_Reduce.mono_l : ∀ k, (∀ y0 y1 y2 y3 y4 y5 y6 y7 y8 y9, LeO (grids_Reduce.l0 k y0 y1 y2 y3 y4 y5 y6 y7 y8 y9) (grids_Reduce.l0 (k + 1) y0 y1 y2 y3 y4 y5 y6 y7 y8 y9))
 | 0 => fun _ _ _ _ _ _ _ _ _ _ r h => by simp [grids_Reduce.l0] at h
 | k + 1 => by
  have ih0 := grids_Reduce.mono_l k
  ·intro y0 y1 y2 y3 y4 y5 y6 y7 y8 y9
   unfold grids_Reduce.l0
   repeat' first
   | (with_reducible exact ih0 _ _ _ _ _ _ _ _ _ _)
   | (with_reducible exact api_GrMatrix_41.mono _ _)
   | (with_reducible exact grids_Check.mono _ _ _ _)
   | (with_reducible exact grids_group.mono _ _ _ _)
   | (with_reducible exact grids_reduce.mono _ _ _ _)
   | (with_reducible exact LeO.refl _)
   | (with_reducible exact LeO.none _)
   | (with_reducible refine LeO.ite ?_ ?_)
   | (with_reducible refine LeO.bind ?_ (fun _ => ?_))
   | exact ih0 _ _ _ _ _ _ _ _ _ _
   | exact api_GrMatrix_41.mono _ _
   | exact grids_Check.mono _ _ _ _
   | exact grids_group.mono _ _ _ _
   | exact grids_reduce.mono _ _ _ _
   | exact LeO.none _
   | refine LeO.ite ?_ ?_
   | refine LeO.bind ?_ (fun _ => ?_)
theorem grids_Reduce.mono : ∀ a0 a1 a2 k, LeO (grids_Reduce.f k a0 a1 a2) (grids_Reduce.f (k + 1) a0 a1 a2) := by
 intro a0 a1 a2 k
 have ih0 := grids_Reduce.mono_l k
 unfold grids_Reduce.f
 repeat' first
   | (with_reducible exact ih0 _ _ _ _ _ _ _ _ _ _)
   | (with_reducible exact api_GrMatrix_41.mono _ _)
   | (with_reducible exact grids_Check.mono _ _ _ _)
   | (with_reducible exact grids_group.mono _ _ _ _)
   | (with_reducible exact grids_reduce.mono _ _ _ _)
   | (with_reducible exact LeO.refl _)
   | (with_reducible exact LeO.none _)
   | (with_reducible refine LeO.ite ?_ ?_)
   | (with_reducible refine LeO.bind ?_ (fun _ => ?_))
   | exact ih0 _ _ _ _ _ _ _ _ _ _
   | exact api_GrMatrix_41.mono _ _
   | exact grids_Check.mono _ _ _ _
   | exact grids_group.mono _ _ _ _
   | exact grids_reduce.mono _ _ _ _
   | exact LeO.none _
   | refine LeO.ite ?_ ?_
   | refine LeO.bind ?_ (fun _ => ?_)
def grids_Reduce.T9 : Bool × List (List Nat × List Nat) := (true, [([], []), ([], []), ([], []), ([], []), ([], []), ([3, 4], [3, 4]), ([5], [5]), ([2, 6], [2, 6]), ([0, 1, 0, 1, 2, 3, 4, 5, 6, 7], [0, 1]), ([8, 7, 7, 0, 1, 2, 3, 4, 5, 6, 7], [7, 8])])
def grids_Reduce.B9 : List Nat := [0, 0, 0, 0, 0, 24, 56, 124, 255, 511]
theorem grids_Reduce.tab9 : rtab .any (opsOf Try.f11 9) = grids_Reduce.T9 := by kernel_rfl
theorem grids_Reduce.bits9 : waitsOk grids_Reduce.T9.2 grids_Reduce.B9 = true := by kernel_rfl
set_option maxHeartbeats 8000000 in
set_option maxRecDepth 100000 in
theorem grids_Reduce.calls (k : Nat) (a0_0 : Int) (a0_1 : Int) (a0_2 : Int) (r1 : Int) (r2 : Int) (r3 : Int) (r4 : Int) (r5 : Int) (r6 : Int) (r7 : Int) (r8 : Int) (w : World) (h : grids_Reduce.f k a0_0 a0_1 a0_2 = some (r1, r2, r3, r4, r5, r6, r7, r8)) :
  Calls Try.prog 11 #[.agg #[.int .i64 a0_0, .int .i64 a0_1, .int .i64 a0_2]] w fun e w' => e = .returned (.tuple #[.agg #[.int .i64 r1, .int .i64 r2, .int .i64 r3], .agg #[.int .i64 r4, .int .i64 r5, .int .i64 r6, .int .i64 r7], .int .i64 r8]) ∧ Below w.heap.size w w' := by
 have hu23 := Try.underlying23
 have hu25 := Try.underlying25
 have HB := Aside0.mk (Below.refl w.heap.size w)
 have H : ((grids_Check.f k a0_0 a0_1 a0_2).bind fun qc => (if qc = 0 then ((grids_reduce.f k a0_0 a0_1 a0_2).bind fun q6 => ((grids_group.f k q6.1 q6.2.1 q6.2.2.1).bind fun q9 => (grids_Reduce.l0 k q9 (q9.length : Int) 0 q6.1 q6.2.1 q6.2.2.1 q6.2.2.2.1 q6.2.2.2.2.1 q6.2.2.2.2.2.1 q6.2.2.2.2.2.2))) else (some (0, 0, 0, 0, 0, 0, 0, qc)))) = some (r1, r2, r3, r4, r5, r6, r7, r8) := h
 clear h
 obtain ⟨qc, A2, H⟩ := ob H
 by_cases c3 : qc = 0
 ·rw [if_pos c3] at H
  have qU : (qc == 0) = true := beq_iff_eq.mpr c3
  have qV : (qc != 0) = false := bne_eq_false_iff_eq.mpr c3
  clear c3
  obtain ⟨⟨qf, qg, qh, qC, qD, qE, qF⟩, A4, H⟩ := ob H
  obtain ⟨q9, A5, H⟩ := ob H
  have H' := Aside0.mk H
  clear H
  go_enter Try.func11, Try.ntmps11
  go_wp2_with (first | ((with_reducible refine gate_dst (N := 1) rfl ?_); refine bx 1 #[.int .i64 a0_0, .int .i64 a0_1, .int .i64 a0_2] 23 fun qX hg w6 q0 hb => ?_; have j4 := gw hg HB; have qQ := gw hg HB; replace HB := bst HB hb; clear hb hg) | ((with_reducible refine gate_dst (N := 2) rfl ?_); refine bx 2 #[.int .i64 0, .int .i64 0, .int .i64 0] 23 fun q7 hg w7 q1 hb => ?_; have j5 := gw hg HB; have qR := gw hg HB; have qm := nlt hg q0; have qn := ngt hg q0; replace q0 := bb q0 hb; replace HB := bst HB hb; clear hb hg) | ((with_reducible refine gate_dst (N := 3) rfl ?_); refine bx 3 #[.int .i64 0, .int .i64 0, .int .i64 0, .int .i64 0] 25 fun q5 hg w8 q2 hb => ?_; have j6 := gw hg HB; have qS := gw hg HB; have qi := nlt hg q0; have qj := ngt hg q0; have qa := nlt hg q1; have qd := ngt hg q1; replace q0 := bb q0 hb; replace q1 := bb q1 hb; replace HB := bst HB hb; clear hb hg; have Q4 := qm.out; have Qg := qn.out; have gT := qi.out; have Q5 := qj.out; have ⟨jm, jn, jo, jC, jD, jE⟩ := cf3 q0) | ((with_reducible refine gate_callee (f := 14) rfl ?_); refine gl 11 Try.func14 (grids_Check.calls k a0_0 a0_1 a0_2 qc _ A2.out) ?_; rintro e w12 ⟨rfl, hb⟩; refine ⟨_, rfl, ?_⟩; replace q0 := bb q0 hb; replace q1 := bb q1 hb; replace q2 := bb q2 hb; replace HB := bst HB hb; clear hb; have ⟨jp, jq, jr, jF, jG, jH⟩ := cf3 q0) | ((with_reducible refine gate_callee (f := 38) rfl ?_); refine gl 19 Try.func38 (grids_reduce.calls k a0_0 a0_1 a0_2 qf qg qh qC qD qE qF _ A4.out) ?_; rintro e w14 ⟨rfl, hb⟩; refine ⟨_, rfl, ?_⟩; replace q0 := bb q0 hb; replace q1 := bb q1 hb; replace q2 := bb q2 hb; replace HB := bst HB hb; clear hb) | ((with_reducible refine gate_dst (N := 6) rfl ?_); refine bx 6 #[.int .i64 0, .int .i64 0, .int .i64 0] 23 fun ql hg w15 q3 hb => ?_; have jS := gw hg HB; have j2 := gw hg HB; have jb := nlt hg q0; have jd := ngt hg q0; have qx := nlt hg q1; have qb := ngt hg q1; have qp := nlt hg q2; have q8 := ngt hg q2; replace q0 := bb q0 hb; replace q1 := bb q1 hb; replace q2 := bb q2 hb; replace HB := bst HB hb; clear hb hg) | ((with_reducible refine gate_dst (N := 7) rfl ?_); refine bx 7 #[.int .i64 0, .int .i64 0, .int .i64 0, .int .i64 0] 25 fun qe hg w16 q4 hb => ?_; have jT := gw hg HB; have j3 := gw hg HB; have jc := nlt hg q0; have jf := ngt hg q0; have qy := nlt hg q1; have qz := ngt hg q1; have qq := nlt hg q2; have qr := ngt hg q2; have je := nlt hg q3; have jg := ngt hg q3; replace q0 := bb q0 hb; replace q1 := bb q1 hb; replace q2 := bb q2 hb; replace q3 := bb q3 hb; replace HB := bst HB hb; clear hb hg; have gU := jd.out; have Q6 := jb.out; have gV := qb.out; have Q7 := qx.out; have gW := q8.out; have Q8 := qp.out; have gX := je.out; have Q9 := jg.out; have ⟨js, jt, ju, jI, jJ, jK⟩ := cf3 q3) | ((with_reducible refine gate_store (t := 23) (p := 6) rfl ?_); refine sx 23 6 ((((w16.setCell ⟨ql, 0, none⟩ (.int .i64 qf)).setCell ⟨ql, 1, none⟩ (.int .i64 qg)).setCell ⟨ql, 2, none⟩ (.int .i64 qh))) fun w22 hw => ?_; replace q0 := fw hw q0; replace q1 := fw hw q1; replace q2 := fw hw q2; replace q3 := pw3 hw q3; replace q4 := fw hw q4; replace HB := bw hw HB; clear hw; have gY := jf.out; have Qa := jc.out; have gZ := qz.out; have Qb := qy.out; have Q0 := qr.out; have Qc := qq.out; have ⟨jv, jw, jx, jy, jL, jM, jN, jO⟩ := cf4 q4) | ((with_reducible refine gate_store (t := 25) (p := 7) rfl ?_); refine sx 25 7 (((((w22.setCell ⟨qe, 0, none⟩ (.int .i64 qC)).setCell ⟨qe, 1, none⟩ (.int .i64 qD)).setCell ⟨qe, 2, none⟩ (.int .i64 qE)).setCell ⟨qe, 3, none⟩ (.int .i64 qF))) fun w27 hw => ?_; replace q0 := fw hw q0; replace q1 := fw hw q1; replace q2 := fw hw q2; replace q3 := fw hw q3; replace q4 := pw4 hw q4; replace HB := bw hw HB; clear hw; have ⟨jz, jA, jB, jP, jQ, jR⟩ := cf3 q3) | ((with_reducible refine gate_callee (f := 39) rfl ?_); refine goesL_ (some 23) rfl rfl Try.func39 (by kernel_rfl) rfl #[.agg #[.int .i64 qf, .int .i64 qg, .int .i64 qh]] rfl am ?_; (with_reducible refine (grids_group.calls k qf qg qh q9 _ A5.out).mono ?_); rintro e w29 ⟨v224, rfl, ho0, hb⟩; refine ⟨_, rfl, ?_⟩; have qT := Aside0.mk (Kd.R_lower (Kd.R_newB (Kd.R_newB ho0 (g := q5) (o := .cells #[.int .i64 0, .int .i64 0, .int .i64 0, .int .i64 0] 25 (0, 0)) (pk q2)) (g := qe) (o := .cells #[.int .i64 qC, .int .i64 qD, .int .i64 qE, .int .i64 qF] 25 (0, 0)) (pk q4)) (below_size (bnow HB))); replace q0 := bb q0 hb; replace q1 := bb q1 hb; replace q2 := bb q2 hb; replace q3 := bb q3 hb; replace q4 := bb q4 hb; replace HB := bst HB hb; (try clear hb); (try clear hb2); (try clear hk); (try clear hi); (try clear ho0); obtain ⟨j1, jj, jl⟩ := Kd.R_slice qT.out; subst jl))
  (try simp only [Act.put, List.setIfInBounds_toArray, List.set_cons_zero, List.set_cons_succ])
  go_loopg [26] k (fun kq v26 w' => ∃ (x8_1 : List (S25)) (x26_1 : Int) (x213000_1 : Int) (x213001_1 : Int) (x213002_1 : Int) (x213003_1 : Int) (x223000_1 : Int) (x223001_1 : Int) (x223002_1 : Int) (x223003_1 : Int), v26 = .int .i64 x26_1 ∧ Aside0 (grids_Reduce.l0 kq x8_1 (q9.length : Int) x26_1 qf qg qh x223000_1 x223001_1 x223002_1 x223003_1 = some (r1, r2, r3, r4, r5, r6, r7, r8)) ∧ Aside0 (kq ≤ k) ∧ Aside0 (Kd.R k25 25 w' w.heap.size (fun k_ => k_ ≠ q5 ∧ k_ ≠ qe) (.slice j1 q9.length jj) x8_1) ∧ Aside0 (w'.heap[qX]? = some (.cells #[.int .i64 a0_0, .int .i64 a0_1, .int .i64 a0_2] 23 (0, 0))) ∧ Aside0 (w'.heap[q7]? = some (.cells #[.int .i64 0, .int .i64 0, .int .i64 0] 23 (0, 0))) ∧ Aside0 (w'.heap[q5]? = some (.cells #[.int .i64 x213000_1, .int .i64 x213001_1, .int .i64 x213002_1, .int .i64 x213003_1] 25 (0, 0))) ∧ Aside0 (w'.heap[ql]? = some (.cells #[.int .i64 qf, .int .i64 qg, .int .i64 qh] 23 (0, 0))) ∧ Aside0 (w'.heap[qe]? = some (.cells #[.int .i64 x223000_1, .int .i64 x223001_1, .int .i64 x223002_1, .int .i64 x223003_1] 25 (0, 0))) ∧ Aside0 (Below w.heap.size w w'))
  case atStart => exact ⟨(q9), (0), (0), (0), (0), (0), (qC), (qD), (qE), (qF), (by first | rfl | (simp; done) | (simp [*]; done)), H', ⟨Nat.le_refl _⟩, ⟨by (with_reducible repeat (first | apply Kd.R_alloc | apply Kd.R_drewN | apply Kd.R_drew)); exact Kd.R_mono qT.out (fun _ hk => ⟨hk.1.2, hk.2⟩)⟩, ⟨pk q0⟩, ⟨pk q1⟩, ⟨pk q2⟩, ⟨pk q3⟩, ⟨pk q4⟩, ⟨bnow HB⟩⟩
  case round =>
   clear H'
   try clear c1; try clear c2; try clear p2; try clear c3; try clear qU; try clear qV; try clear c9; try clear c10; try clear c11; try clear c14; try clear c17; try clear c18; try clear c19; try clear c20; try clear c23; try clear c24; try clear c25; try clear jm; try clear jn; try clear jo; try clear jp; try clear jq; try clear jr; try clear js; try clear jt; try clear ju; try clear jv; try clear jw; try clear jx; try clear jy; try clear jz; try clear jA; try clear jB; try clear jC; try clear jD; try clear jE; try clear jF; try clear jG; try clear jH; try clear jI; try clear jJ; try clear jK; try clear jL; try clear jM; try clear jN; try clear jO; try clear jP; try clear jQ; try clear jR
   obtain ⟨x8_1, x26_1, x213000_1, x213001_1, x213002_1, x213003_1, x223000_1, x223001_1, x223002_1, x223003_1, rfl, HA, HK1, HO_8, q0, q1, q2, q3, q4, HB⟩ := hrel
   have hl8_1 := (Kd.R_reads' HO_8.out).1
   rw [hl8_1] at HO_8
   (try simp only [hl8_1])
   (try simp only [hl8_1] at q0)
   (try simp only [hl8_1] at q1)
   (try simp only [hl8_1] at q2)
   (try simp only [hl8_1] at q3)
   (try simp only [hl8_1] at q4)
   cases gk with
   | zero => exact absurd HA.out (by simp [grids_Reduce.l0])
   | succ k1 =>
    have H := HA.out
    clear HA
    simp only [grids_Reduce.l0] at H
    by_cases c31 : x26_1 < (q9.length : Int)
    ·rw [if_pos c31] at H
     have qH : decide (x26_1 < (q9.length : Int)) = true := decide_eq_true c31
     (try (have qI := qH; simp only [hl8_1] at qI))
     clear c31
     by_cases c32 : 0 ≤ x26_1
     ·rw [if_pos c32] at H
      have jU : decide (0 ≤ x26_1) = true := decide_eq_true c32
      clear c32
      by_cases c33 : x26_1 < (x8_1.length : Int)
      ·rw [if_pos c33] at H
       have jh : decide (x26_1 < (x8_1.length : Int)) = true := decide_eq_true c33
       (try (have ji := jh; simp only [hl8_1] at ji))
       clear c33
       obtain ⟨⟨qs, qt, qu, qv⟩, A34, H⟩ := ob H
       obtain ⟨j0, hy231⟩ : ∃ y_ : List (S25), y_ = (x8_1.set (x26_1 : Int).toNat (⟨qs, qt, qu, qv⟩ : S25)) := ⟨_, rfl⟩
       replace H : ((some (wrap64 (x26_1 + 1))).bind fun qo => (grids_Reduce.l0 k1 j0 (q9.length : Int) qo qf qg qh x223000_1 x223001_1 x223002_1 x223003_1)) = some (r1, r2, r3, r4, r5, r6, r7, r8) := by first | (rw [hy231]; with_reducible exact H) | (have H2_ := (Option.bind_some _ _).symm.trans H; rw [hy231]; with_reducible exact H2_) | (have H2_ := (Option.bind_some _ _).symm.trans H; with_reducible exact H2_) | with_reducible exact H | (rw [hy231]; exact H) | exact H
       have Ny231 := Aside0.mk hy231
       clear hy231
       obtain ⟨qo, E360, H⟩ := oc H
       have E36w : (IntKind.i64.wrap (x26_1 + 1)) = qo := (i64_w _).trans E360
       have H' := Aside0.mk H
       clear H
       try go_wp2
       replace HO_8 := Aside0.mk (Kd.R_drew HO_8.out)
       replace q0 := bd q0
       replace q1 := bd q1
       replace q2 := bd q2
       replace q3 := bd q3
       replace q4 := bd q4
       replace HB := bdn HB
       have qN : 0 ≤ (x26_1 : Int) := of_decide_eq_true (by first | (with_reducible assumption) | assumption)
       have qO : x26_1 < (x8_1.length : Int) := of_decide_eq_true (by first | (with_reducible assumption) | assumption)
       obtain ⟨qk, jk, qJ, qK, qL, qM⟩ := at_T25 (Kd.R_reads' HO_8.out).2.2 x26_1 qN qO
       cases jk
       replace qN := eq_true qN
       replace qO := eq_true qO
       refine start_ (n := 10) (S := fun w' => w'.cell? ⟨qe, 0, none⟩ = some (.int .i64 x223000_1) ∧ w'.cell? ⟨qe, 1, none⟩ = some (.int .i64 x223001_1) ∧ w'.cell? ⟨qe, 2, none⟩ = some (.int .i64 x223002_1) ∧ w'.cell? ⟨qe, 3, none⟩ = some (.int .i64 x223003_1) ∧ w'.cell? (qk.add ((x26_1).toNat * 4)) = some (.int .i64 ((rd_T25 x8_1 x26_1).f0)) ∧ w'.cell? ⟨(qk.add ((x26_1).toNat * 4)).block, (qk.add ((x26_1).toNat * 4)).off + 1, none⟩ = some (.int .i64 ((rd_T25 x8_1 x26_1).f1)) ∧ w'.cell? ⟨(qk.add ((x26_1).toNat * 4)).block, (qk.add ((x26_1).toNat * 4)).off + 2, none⟩ = some (.int .i64 ((rd_T25 x8_1 x26_1).f2)) ∧ w'.cell? ⟨(qk.add ((x26_1).toNat * 4)).block, (qk.add ((x26_1).toNat * 4)).off + 3, none⟩ = some (.int .i64 ((rd_T25 x8_1 x26_1).f3))) (ds := [9]) #[false, false, false, false, false, false, false, false, false, false] (by kernel_rfl) rfl rfl ⟨(blk_cell q4.out 0).trans rfl, (blk_cell q4.out 1).trans rfl, (blk_cell q4.out 2).trans rfl, (blk_cell q4.out 3).trans rfl, qJ, qK, qL, qM⟩ (fun hHeld => ?_); refine with_tabW grids_Reduce.tab9 grids_Reduce.bits9 (fun HT_ HW_ => ?_)
       generalize wr.drew = w37 at HO_8 q0 q1 q2 q3 q4 HB qJ qK qL qM hHeld ⊢
       refine pz 0 29 HT_ ?_
       refine pz 1 30 HT_ ?_
       refine pz 3 32 HT_ ?_
       refine pz 4 33 HT_ ?_
       refine pz 5 34 HT_ ?_
       refine tz 2 31 HT_ HW_ hHeld ?_
       refine tz 6 35 HT_ HW_ hHeld ?_
       refine one_ (i := 7) (N := some 36) #[true, true, true, true, true, true, true, true, false, false] rfl rfl (one_of HT_.out (by kernel_rfl)) (by decide) (fun K hK => ?_)
       refine gs _ Try.func40 (grids_times.calls x223000_1 x223001_1 x223002_1 x223003_1 ((rd_T25 x8_1 x26_1).f0) ((rd_T25 x8_1 x26_1).f1) ((rd_T25 x8_1 x26_1).f2) ((rd_T25 x8_1 x26_1).f3) qs qt qu qv _ A34.out) ?_
       rintro e w38 ⟨rfl, hb⟩
       have j7 := (hb.cell (World.block_lt_of_cell? _ _ (hHeld.2.2.2.2.1))).trans (hHeld.2.2.2.2.1)
       have j8 := (hb.cell (World.block_lt_of_cell? _ _ (hHeld.2.2.2.2.2.1))).trans (hHeld.2.2.2.2.2.1)
       have j9 := (hb.cell (World.block_lt_of_cell? _ _ (hHeld.2.2.2.2.2.2.1))).trans (hHeld.2.2.2.2.2.2.1)
       have ja := (hb.cell (World.block_lt_of_cell? _ _ (hHeld.2.2.2.2.2.2.2))).trans (hHeld.2.2.2.2.2.2.2)
       refine ⟨_, rfl, ?_⟩
       have n0_ := Aside0.mk (Kd.R_below (by (with_reducible repeat (first | apply Kd.R_alloc | apply Kd.R_drewN | apply Kd.R_drew)); exact HO_8.out) hb)
       have n1_ := bb q0 hb
       have n2_ := bb q1 hb
       have n3_ := bb q2 hb
       have n4_ := bb q3 hb
       have n5_ := bb q4 hb
       have n6_ := bst HB hb
       clear HO_8
       clear q0
       clear q1
       clear q2
       clear q3
       clear q4
       clear HB
       have HO_8 := n0_
       have q0 := n1_
       have q1 := n2_
       have q2 := n3_
       have q3 := n4_
       have q4 := n5_
       have HB := n6_
       clear n0_ n1_ n2_ n3_ n4_ n5_ n6_
       (try clear hb)
       (try clear hb2)
       (try clear hk)
       (try clear hi)
       have p35 : 0 ≤ (x26_1 : Int) := of_decide_eq_true (by first | (with_reducible assumption) | assumption)
       have q35 : (x26_1 : Int) < ((x8_1.length : Int) : Int) := of_decide_eq_true (by first | (with_reducible assumption) | assumption)
       obtain ⟨go35, jV, qW, qY, gl35, cl35, HG35⟩ := Kd.R_form HO_8.out (by omega)
       (first | cases qW | (injection qW with ea_ en_ ec_; (first | subst ea_ | (injection ea_ with ea_; subst ea_)); subst ec_; clear en_))
       have GB35 := Aside0.mk qY
       have GG35 := Aside0.mk HG35
       clear qY gl35 HG35
       (first | simp only [add_plain] at qJ | skip)
       (first | simp only [add_plain] at qK | skip)
       (first | simp only [add_plain] at qL | skip)
       (first | simp only [add_plain] at qM | skip)
       obtain ⟨ce35, hcl35, hM35, hcc35, hfr35⟩ := Kd.R_elem HO_8.out z25 (x26_1 : Int) p35 q35
       obtain rfl := k25_openM hM35
       have QQ : World.cell? _ ⟨go35, (x26_1 : Int).toNat * 4, none⟩ = some (.int .i64 ((rd_T25 x8_1 x26_1).f0)) := hcc35 0 _ rfl
       have QR : World.cell? _ ⟨go35, (x26_1 : Int).toNat * 4 + 1, none⟩ = some (.int .i64 ((rd_T25 x8_1 x26_1).f1)) := hcc35 1 _ rfl
       have QS : World.cell? _ ⟨go35, (x26_1 : Int).toNat * 4 + 2, none⟩ = some (.int .i64 ((rd_T25 x8_1 x26_1).f2)) := hcc35 2 _ rfl
       have QT : World.cell? _ ⟨go35, (x26_1 : Int).toNat * 4 + 3, none⟩ = some (.int .i64 ((rd_T25 x8_1 x26_1).f3)) := hcc35 3 _ rfl
       have hf35_0 : World.frozen? _ ⟨go35, (x26_1 : Int).toNat * 4, none⟩ = false := hfr35 0
       have hf35_1 : World.frozen? _ ⟨go35, (x26_1 : Int).toNat * 4 + 1, none⟩ = false := hfr35 1
       have hf35_2 : World.frozen? _ ⟨go35, (x26_1 : Int).toNat * 4 + 2, none⟩ = false := hfr35 2
       have hf35_3 : World.frozen? _ ⟨go35, (x26_1 : Int).toNat * 4 + 3, none⟩ = false := hfr35 3
       (try rw [World.frozen?_setCells] at hf35_0)
       (try rw [World.frozen?_setCells] at hf35_1)
       (try rw [World.frozen?_setCells] at hf35_2)
       (try rw [World.frozen?_setCells] at hf35_3)
       clear hcl35 hcc35 hfr35 hM35
       replace p35 := eq_true p35
       replace q35 := eq_true q35
       obtain ⟨ce39, hcl39, hM39, hcc39, hfr39⟩ := Kd.R_elem HO_8.out z25 (x26_1 : Int) (of_decide_eq_true (by first | (with_reducible assumption) | assumption)) (by have h_ : (x26_1 : Int) < ((x8_1.length : Int) : Int) := of_decide_eq_true (by first | (with_reducible assumption) | assumption); first | exact h_ | (have e_ := (Kd.R_reads' HO_8.out).1; omega) | simpa using h_)
       obtain rfl := k25_openM hM39
       have HP39 := (Kd.R_seg HO_8.out (x26_1 : Int) (of_decide_eq_true (by first | (with_reducible assumption) | assumption)) (by have h_ : (x26_1 : Int) < ((x8_1.length : Int) : Int) := of_decide_eq_true (by first | (with_reducible assumption) | assumption); first | exact h_ | (have e_ := (Kd.R_reads' HO_8.out).1; omega) | simpa using h_) (seg := [.int .i64 qs, .int .i64 qt, .int .i64 qu, .int .i64 qv]) (j := 0) hcl39 hcc39 (show 4 ≤ 4 from by decide) (x' := (⟨qs, qt, qu, qv⟩ : S25)) (k25_mkM _ _ _ (⟨qs, qt, qu, qv⟩ : S25) ) (fun _ hk => hk)).1
       rw [← Ny231.out] at HP39
       have HQ39 := Aside0.mk HP39
       clear hcl39 hcc39 hfr39 hM39 HP39
       refine hK.out _ _ ⟨(blk_cell q4.out 0).trans rfl, (blk_cell q4.out 1).trans rfl, (blk_cell q4.out 2).trans rfl, (blk_cell q4.out 3).trans rfl, j7, j8, j9, ja⟩ (fun hHeld => ?_)
       clear hK K
       refine norm_ (a' := ?_) ?_ ?_
       rotate_left
       ·show Act.put _ (some 36) _ = _
        simp only [Act.put, List.setIfInBounds_toArray, List.set_cons_zero, List.set_cons_succ, i64_w, i32_w]
        rfl
       refine pz 8 37 HT_ ?_
       refine last_ (i := 9) (N := none) #[true, true, true, true, true, true, true, true, true, true] rfl rfl (one_of HT_.out (by kernel_rfl)) (by decide) (fun K hK => ?_)
       refine skip_ (w1 := ?_) (by rfl) rfl ?_ ?_
       rotate_left
       ·go_simp
        rfl
       refine hK.out _ _ ?_
       clear hK K
       refine done_ (done_of HT_.out (by kernel_rfl)) ?_
       try go_wp2
       (try simp only [← hl8_1])
       go_roundg k1
       case measure => have := HK1.out; omega
       case rel => exact ⟨(j0), (qo), (x213000_1), (x213001_1), (x213002_1), (x213003_1), (x223000_1), (x223001_1), (x223002_1), (x223003_1), (by first | rfl | (simp; done) | (simp [*]; done)), H', ⟨by have := HK1.out; omega⟩, ⟨by (try simp only [hl8_1]); (with_reducible repeat (first | apply Kd.R_alloc | apply Kd.R_drewN | apply Kd.R_drew)); exact HQ39.out⟩, ⟨by (try simp only [hl8_1]); (with_reducible repeat (first | refine blk_drewN ?_ _ | refine blk_drew ?_ | refine blk_alloc ?_ _)); refine blk_far ?_ (by have h_ := Kd.R_ne HO_8.out q0.out (by decide); intro e_; exact h_ (by rw [e_]; rfl)) _; (with_reducible repeat (first | refine blk_drewN ?_ _ | refine blk_drew ?_ | refine blk_alloc ?_ _)); refine blk_far ?_ (by have h_ := Kd.R_ne HO_8.out q0.out (by decide); intro e_; exact h_ (by rw [e_]; rfl)) _; (with_reducible repeat (first | refine blk_drewN ?_ _ | refine blk_drew ?_ | refine blk_alloc ?_ _)); refine blk_far ?_ (by have h_ := Kd.R_ne HO_8.out q0.out (by decide); intro e_; exact h_ (by rw [e_]; rfl)) _; (with_reducible repeat (first | refine blk_drewN ?_ _ | refine blk_drew ?_ | refine blk_alloc ?_ _)); refine blk_far ?_ (by have h_ := Kd.R_ne HO_8.out q0.out (by decide); intro e_; exact h_ (by rw [e_]; rfl)) _; (with_reducible repeat (first | refine blk_drewN ?_ _ | refine blk_drew ?_ | refine blk_alloc ?_ _)); exact q0.out⟩, ⟨by (try simp only [hl8_1]); (with_reducible repeat (first | refine blk_drewN ?_ _ | refine blk_drew ?_ | refine blk_alloc ?_ _)); refine blk_far ?_ (by have h_ := Kd.R_ne HO_8.out q1.out (by decide); intro e_; exact h_ (by rw [e_]; rfl)) _; (with_reducible repeat (first | refine blk_drewN ?_ _ | refine blk_drew ?_ | refine blk_alloc ?_ _)); refine blk_far ?_ (by have h_ := Kd.R_ne HO_8.out q1.out (by decide); intro e_; exact h_ (by rw [e_]; rfl)) _; (with_reducible repeat (first | refine blk_drewN ?_ _ | refine blk_drew ?_ | refine blk_alloc ?_ _)); refine blk_far ?_ (by have h_ := Kd.R_ne HO_8.out q1.out (by decide); intro e_; exact h_ (by rw [e_]; rfl)) _; (with_reducible repeat (first | refine blk_drewN ?_ _ | refine blk_drew ?_ | refine blk_alloc ?_ _)); refine blk_far ?_ (by have h_ := Kd.R_ne HO_8.out q1.out (by decide); intro e_; exact h_ (by rw [e_]; rfl)) _; (with_reducible repeat (first | refine blk_drewN ?_ _ | refine blk_drew ?_ | refine blk_alloc ?_ _)); exact q1.out⟩, ⟨by (try simp only [hl8_1]); (with_reducible repeat (first | refine blk_drewN ?_ _ | refine blk_drew ?_ | refine blk_alloc ?_ _)); refine blk_far ?_ (by have h_ := Kd.R_away HO_8.out (fun _ hk => hk.1); intro e_; exact h_ (by rw [e_]; rfl)) _; (with_reducible repeat (first | refine blk_drewN ?_ _ | refine blk_drew ?_ | refine blk_alloc ?_ _)); refine blk_far ?_ (by have h_ := Kd.R_away HO_8.out (fun _ hk => hk.1); intro e_; exact h_ (by rw [e_]; rfl)) _; (with_reducible repeat (first | refine blk_drewN ?_ _ | refine blk_drew ?_ | refine blk_alloc ?_ _)); refine blk_far ?_ (by have h_ := Kd.R_away HO_8.out (fun _ hk => hk.1); intro e_; exact h_ (by rw [e_]; rfl)) _; (with_reducible repeat (first | refine blk_drewN ?_ _ | refine blk_drew ?_ | refine blk_alloc ?_ _)); refine blk_far ?_ (by have h_ := Kd.R_away HO_8.out (fun _ hk => hk.1); intro e_; exact h_ (by rw [e_]; rfl)) _; (with_reducible repeat (first | refine blk_drewN ?_ _ | refine blk_drew ?_ | refine blk_alloc ?_ _)); exact q2.out⟩, ⟨by (try simp only [hl8_1]); (with_reducible repeat (first | refine blk_drewN ?_ _ | refine blk_drew ?_ | refine blk_alloc ?_ _)); refine blk_far ?_ (by have h_ := Kd.R_ne HO_8.out q3.out (by decide); intro e_; exact h_ (by rw [e_]; rfl)) _; (with_reducible repeat (first | refine blk_drewN ?_ _ | refine blk_drew ?_ | refine blk_alloc ?_ _)); refine blk_far ?_ (by have h_ := Kd.R_ne HO_8.out q3.out (by decide); intro e_; exact h_ (by rw [e_]; rfl)) _; (with_reducible repeat (first | refine blk_drewN ?_ _ | refine blk_drew ?_ | refine blk_alloc ?_ _)); refine blk_far ?_ (by have h_ := Kd.R_ne HO_8.out q3.out (by decide); intro e_; exact h_ (by rw [e_]; rfl)) _; (with_reducible repeat (first | refine blk_drewN ?_ _ | refine blk_drew ?_ | refine blk_alloc ?_ _)); refine blk_far ?_ (by have h_ := Kd.R_ne HO_8.out q3.out (by decide); intro e_; exact h_ (by rw [e_]; rfl)) _; (with_reducible repeat (first | refine blk_drewN ?_ _ | refine blk_drew ?_ | refine blk_alloc ?_ _)); exact q3.out⟩, ⟨by (try simp only [hl8_1]); (with_reducible repeat (first | refine blk_drewN ?_ _ | refine blk_drew ?_ | refine blk_alloc ?_ _)); refine blk_far ?_ (by have h_ := Kd.R_away HO_8.out (fun _ hk => hk.2); intro e_; exact h_ (by rw [e_]; rfl)) _; (with_reducible repeat (first | refine blk_drewN ?_ _ | refine blk_drew ?_ | refine blk_alloc ?_ _)); refine blk_far ?_ (by have h_ := Kd.R_away HO_8.out (fun _ hk => hk.2); intro e_; exact h_ (by rw [e_]; rfl)) _; (with_reducible repeat (first | refine blk_drewN ?_ _ | refine blk_drew ?_ | refine blk_alloc ?_ _)); refine blk_far ?_ (by have h_ := Kd.R_away HO_8.out (fun _ hk => hk.2); intro e_; exact h_ (by rw [e_]; rfl)) _; (with_reducible repeat (first | refine blk_drewN ?_ _ | refine blk_drew ?_ | refine blk_alloc ?_ _)); refine blk_far ?_ (by have h_ := Kd.R_away HO_8.out (fun _ hk => hk.2); intro e_; exact h_ (by rw [e_]; rfl)) _; (with_reducible repeat (first | refine blk_drewN ?_ _ | refine blk_drew ?_ | refine blk_alloc ?_ _)); exact q4.out⟩, ⟨by repeat (first | (with_reducible first | exact HB.out | apply below_alloc | apply pw_below_drewN | apply below_drew1 | refine below_set ?_ GB35.out | refine below_set ?_ GB35.out | refine below_set ?_ GB35.out | refine below_set ?_ GB35.out | refine below_set ?_ qQ.out | refine below_set ?_ qR.out | refine below_set ?_ qS.out | refine below_set ?_ j2.out | refine below_set ?_ j3.out) | exact HB.out)⟩⟩
      ·rw [if_neg c33] at H
       exact absurd H (by simp)
     ·rw [if_neg c32] at H
      exact absurd H (by simp)
    ·rw [if_neg c31] at H
     have qH : decide (x26_1 < (q9.length : Int)) = false := decide_eq_false c31
     (try (have qI := qH; simp only [hl8_1] at qI))
     clear c31
     obtain ⟨⟨qw, qG, qP, qZ⟩, A40, H⟩ := ob H
     simp only [Option.some.injEq, Prod.mk.injEq] at H
     obtain ⟨rfl, rfl, rfl, rfl, rfl, rfl, rfl, rfl⟩ := H
     try go_wp2
     replace HO_8 := Aside0.mk (Kd.R_drew HO_8.out)
     replace q0 := bd q0
     replace q1 := bd q1
     replace q2 := bd q2
     replace q3 := bd q3
     replace q4 := bd q4
     replace HB := bdn HB
     refine start_ (n := 6) (S := fun w' => w'.cell? ⟨ql, 0, none⟩ = some (.int .i64 qf) ∧ w'.cell? ⟨ql, 1, none⟩ = some (.int .i64 qg) ∧ w'.cell? ⟨ql, 2, none⟩ = some (.int .i64 qh)) (ds := []) #[false, false, false, false, false, false] (by kernel_rfl) rfl rfl ⟨(blk_cell q3.out 0).trans rfl, (blk_cell q3.out 1).trans rfl, (blk_cell q3.out 2).trans rfl⟩ (fun hHeld => ?_)
     generalize wr.drew = w41 at HO_8 q0 q1 q2 q3 q4 HB hHeld ⊢
     refine pure_ (i := 1) (N := some 40) (v := ?_) (a' := ?_) #[false, true, false, false, false, false] rfl rfl (by kernel_rfl) (fun _ _ _ h => h) (Or.inl ⟨by rfl, ?_⟩) ?_ ?_
     rotate_left
     ·intro w'
      go_simp
      with_reducible rfl
     rotate_left
     ·simp only [Act.put, List.setIfInBounds_toArray, List.set_cons_zero, List.set_cons_succ, i64_w, i32_w]
      rfl
     refine take_ (i := 0) (N := some 39) (v := ?_) (a' := ?_) #[true, true, false, false, false, false] rfl rfl (by kernel_rfl) (fun _ _ _ h => h) (Or.inl ⟨by rfl, ?_⟩) hHeld ?_ ?_
     rotate_left
     ·rintro w' ⟨s0, s1, s2⟩
      go_simp
      with_reducible rfl
     rotate_left
     ·simp only [Act.put, List.setIfInBounds_toArray, List.set_cons_zero, List.set_cons_succ, i64_w, i32_w]
      rfl
     refine one_ (i := 2) (N := some 41) #[true, true, true, false, false, false] rfl rfl (by kernel_rfl) (by decide) (fun K hK => ?_)
     refine gs _ Try.func41 (api_GrMatrix_41.calls k1 _ _ x8_1  qw qG qP qZ _ ?side1 ?side2 A40.out) ?_
     (case side1 => repeat (first | exact (Kd.R_reads' HO_8.out).2.2 | (with_reducible refine Kd.C_alloc ?_ _) | (with_reducible refine Kd.C_drewN ?_ _) | (with_reducible refine Kd.C_drew ?_)))
     (case side2 => exact (Kd.R_reads' HO_8.out).2.1)
     rintro e w42 ⟨rfl, hb⟩
     refine ⟨_, rfl, ?_⟩
     have n0_ := Aside0.mk (Kd.R_below (by (with_reducible repeat (first | apply Kd.R_alloc | apply Kd.R_drewN | apply Kd.R_drew)); exact HO_8.out) hb)
     have n1_ := bb q0 hb
     have n2_ := bb q1 hb
     have n3_ := bb q2 hb
     have n4_ := bb q3 hb
     have n5_ := bb q4 hb
     have n6_ := bst HB hb
     clear HO_8
     clear q0
     clear q1
     clear q2
     clear q3
     clear q4
     clear HB
     have HO_8 := n0_
     have q0 := n1_
     have q1 := n2_
     have q2 := n3_
     have q3 := n4_
     have q4 := n5_
     have HB := n6_
     clear n0_ n1_ n2_ n3_ n4_ n5_ n6_
     (try clear hb)
     (try clear hb2)
     (try clear hk)
     (try clear hi)
     refine hK.out _ _ ⟨(blk_cell q3.out 0).trans rfl, (blk_cell q3.out 1).trans rfl, (blk_cell q3.out 2).trans rfl⟩ (fun hHeld => ?_)
     clear hK K
     refine norm_ (a' := ?_) ?_ ?_
     rotate_left
     ·show Act.put _ (some 41) _ = _
      simp only [Act.put, List.setIfInBounds_toArray, List.set_cons_zero, List.set_cons_succ, i64_w, i32_w]
      rfl
     refine one_ (i := 3) (N := none) #[true, true, true, true, false, false] rfl rfl (by kernel_rfl) (by decide) (fun K hK => ?_)
     have QJ : w42.cell? ⟨q7, 0, none⟩ = some (.int .i64 0) := (blk_cell q1.out 0).trans rfl
     have g6 := blk_frozen q1.out 0
     have Qh := qm.out
     have Qi := qd.out
     have Qj := qb.out
     have Qk := qz.out
     have gp := qn.out
     have gq := qa.out
     have gr := qx.out
     have gt := qy.out
     have QK : w42.cell? ⟨q7, 1, none⟩ = some (.int .i64 0) := (blk_cell q1.out 1).trans rfl
     have g7 := blk_frozen q1.out 1
     have Ql := qm.out
     have Qm := qd.out
     have Qn := qb.out
     have Qo := qz.out
     have gu := qn.out
     have gv := qa.out
     have gx := qx.out
     have gy := qy.out
     have QL : w42.cell? ⟨q7, 2, none⟩ = some (.int .i64 0) := (blk_cell q1.out 2).trans rfl
     have g8 := blk_frozen q1.out 2
     have Qp := qm.out
     have Qq := qd.out
     have Qr := qb.out
     have Qs := qz.out
     have gz := qn.out
     have gA := qa.out
     have gB := qx.out
     have gC := qy.out
     refine skip_ (w1 := ?_) (by rfl) rfl ?_ ?_
     rotate_left
     ·go_simp
      rfl
     refine hK.out _ _ ⟨((cell_far (p := ⟨q7, _, none⟩) qb.out _).trans (((cell_far (p := ⟨q7, _, none⟩) qb.out _).trans (((cell_far (p := ⟨q7, _, none⟩) qb.out _).trans (hHeld.1)))))), ((cell_far (p := ⟨q7, _, none⟩) qb.out _).trans (((cell_far (p := ⟨q7, _, none⟩) qb.out _).trans (((cell_far (p := ⟨q7, _, none⟩) qb.out _).trans (hHeld.2.1)))))), ((cell_far (p := ⟨q7, _, none⟩) qb.out _).trans (((cell_far (p := ⟨q7, _, none⟩) qb.out _).trans (((cell_far (p := ⟨q7, _, none⟩) qb.out _).trans (hHeld.2.2))))))⟩ (fun hHeld => ?_)
     clear hK K
     refine one_ (i := 4) (N := none) #[true, true, true, true, true, false] rfl rfl (by kernel_rfl) (by decide) (fun K hK => ?_)
     have QM : w42.cell? ⟨q5, 0, none⟩ = some (.int .i64 x213000_1) := (blk_cell q2.out 0).trans rfl
     have g9 := blk_frozen q2.out 0
     have Qt := qi.out
     have Qu := qa.out
     have Qv := q8.out
     have Qw := qr.out
     have gD := qj.out
     have gE := qd.out
     have gF := qp.out
     have gG := qq.out
     have QN : w42.cell? ⟨q5, 1, none⟩ = some (.int .i64 x213001_1) := (blk_cell q2.out 1).trans rfl
     have ga := blk_frozen q2.out 1
     have Qx := qi.out
     have Qy := qa.out
     have Qz := q8.out
     have QA := qr.out
     have gH := qj.out
     have gI := qd.out
     have gJ := qp.out
     have gK := qq.out
     have QO : w42.cell? ⟨q5, 2, none⟩ = some (.int .i64 x213002_1) := (blk_cell q2.out 2).trans rfl
     have gb := blk_frozen q2.out 2
     have QB := qi.out
     have QC := qa.out
     have QD := q8.out
     have QE := qr.out
     have gL := qj.out
     have gM := qd.out
     have gN := qp.out
     have gO := qq.out
     have QP : w42.cell? ⟨q5, 3, none⟩ = some (.int .i64 x213003_1) := (blk_cell q2.out 3).trans rfl
     have gc := blk_frozen q2.out 3
     have QF := qi.out
     have QG := qa.out
     have QH := q8.out
     have QI := qr.out
     have gP := qj.out
     have gQ := qd.out
     have gR := qp.out
     have gS := qq.out
     refine skip_ (w1 := ?_) (by rfl) rfl ?_ ?_
     rotate_left
     ·go_simp
      rfl
     refine hK.out _ _ ⟨((cell_far (p := ⟨q5, _, none⟩) q8.out _).trans (((cell_far (p := ⟨q5, _, none⟩) q8.out _).trans (((cell_far (p := ⟨q5, _, none⟩) q8.out _).trans (((cell_far (p := ⟨q5, _, none⟩) q8.out _).trans (hHeld.1)))))))), ((cell_far (p := ⟨q5, _, none⟩) q8.out _).trans (((cell_far (p := ⟨q5, _, none⟩) q8.out _).trans (((cell_far (p := ⟨q5, _, none⟩) q8.out _).trans (((cell_far (p := ⟨q5, _, none⟩) q8.out _).trans (hHeld.2.1)))))))), ((cell_far (p := ⟨q5, _, none⟩) q8.out _).trans (((cell_far (p := ⟨q5, _, none⟩) q8.out _).trans (((cell_far (p := ⟨q5, _, none⟩) q8.out _).trans (((cell_far (p := ⟨q5, _, none⟩) q8.out _).trans (hHeld.2.2))))))))⟩ (fun hHeld => ?_)
     clear hK K
     refine pure_ (i := 5) (N := some 4) (v := ?_) (a' := ?_) #[true, true, true, true, true, true] rfl rfl (by kernel_rfl) (fun _ _ _ h => h) (Or.inl ⟨by rfl, ?_⟩) ?_ ?_
     rotate_left
     ·intro w'
      go_simp
      with_reducible rfl
     rotate_left
     ·simp only [Act.put, List.setIfInBounds_toArray, List.set_cons_zero, List.set_cons_succ, i64_w, i32_w]
      rfl
     refine done_ (by kernel_rfl) ?_
     try go_wp2
     refine bodyPost_ret (results_list (rs := [.cell 2 23, .cell 3 25, .tmp 4]) rfl (by simp) (.cell q7 23 #[.int .i64 qf, .int .i64 qg, .int .i64 qh] (0, 0) _ rfl (by (with_reducible repeat (first | refine blk_drewN ?_ _ | refine blk_drew ?_ | refine blk_alloc ?_ _)); refine blk_far ?_ qa.out _; (with_reducible repeat (first | refine blk_drewN ?_ _ | refine blk_drew ?_ | refine blk_alloc ?_ _)); refine blk_far ?_ qa.out _; (with_reducible repeat (first | refine blk_drewN ?_ _ | refine blk_drew ?_ | refine blk_alloc ?_ _)); refine blk_far ?_ qa.out _; (with_reducible repeat (first | refine blk_drewN ?_ _ | refine blk_drew ?_ | refine blk_alloc ?_ _)); refine blk_far ?_ qa.out _; (with_reducible repeat (first | refine blk_drewN ?_ _ | refine blk_drew ?_ | refine blk_alloc ?_ _)); refine blk_put (cs := #[.int .i64 qf, .int .i64 qg, .int .i64 0]) ?_ 2 _ rfl; (with_reducible repeat (first | refine blk_drewN ?_ _ | refine blk_drew ?_ | refine blk_alloc ?_ _)); refine blk_put (cs := #[.int .i64 qf, .int .i64 0, .int .i64 0]) ?_ 1 _ rfl; (with_reducible repeat (first | refine blk_drewN ?_ _ | refine blk_drew ?_ | refine blk_alloc ?_ _)); refine blk_put (cs := #[.int .i64 0, .int .i64 0, .int .i64 0]) ?_ 0 _ rfl; (with_reducible repeat (first | refine blk_drewN ?_ _ | refine blk_drew ?_ | refine blk_alloc ?_ _)); exact q1.out) Try.underlying23 rfl (by kernel_rfl) (.cell q5 25 #[.int .i64 qw, .int .i64 qG, .int .i64 qP, .int .i64 qZ] (0, 0) _ rfl (by (with_reducible repeat (first | refine blk_drewN ?_ _ | refine blk_drew ?_ | refine blk_alloc ?_ _)); refine blk_put (cs := #[.int .i64 qw, .int .i64 qG, .int .i64 qP, .int .i64 x213003_1]) ?_ 3 _ rfl; (with_reducible repeat (first | refine blk_drewN ?_ _ | refine blk_drew ?_ | refine blk_alloc ?_ _)); refine blk_put (cs := #[.int .i64 qw, .int .i64 qG, .int .i64 x213002_1, .int .i64 x213003_1]) ?_ 2 _ rfl; (with_reducible repeat (first | refine blk_drewN ?_ _ | refine blk_drew ?_ | refine blk_alloc ?_ _)); refine blk_put (cs := #[.int .i64 qw, .int .i64 x213001_1, .int .i64 x213002_1, .int .i64 x213003_1]) ?_ 1 _ rfl; (with_reducible repeat (first | refine blk_drewN ?_ _ | refine blk_drew ?_ | refine blk_alloc ?_ _)); refine blk_put (cs := #[.int .i64 x213000_1, .int .i64 x213001_1, .int .i64 x213002_1, .int .i64 x213003_1]) ?_ 0 _ rfl; (with_reducible repeat (first | refine blk_drewN ?_ _ | refine blk_drew ?_ | refine blk_alloc ?_ _)); refine blk_far ?_ qd.out _; (with_reducible repeat (first | refine blk_drewN ?_ _ | refine blk_drew ?_ | refine blk_alloc ?_ _)); refine blk_far ?_ qd.out _; (with_reducible repeat (first | refine blk_drewN ?_ _ | refine blk_drew ?_ | refine blk_alloc ?_ _)); refine blk_far ?_ qd.out _; (with_reducible repeat (first | refine blk_drewN ?_ _ | refine blk_drew ?_ | refine blk_alloc ?_ _)); exact q2.out) Try.underlying25 rfl (by kernel_rfl) (.tmp .nil)))) rfl ?_
     exact rt HB
 ·rw [if_neg c3] at H
  have qU : (qc == 0) = false := beq_eq_false_iff_ne.mpr c3
  have qV : (qc != 0) = true := bne_iff_ne.mpr c3
  simp only [Option.some.injEq, Prod.mk.injEq] at H
  obtain ⟨rfl, rfl, rfl, rfl, rfl, rfl, rfl, rfl⟩ := H
  go_enter Try.func11, Try.ntmps11
  go_wp2_with (first | ((with_reducible refine gate_dst (N := 1) rfl ?_); refine bx 1 #[.int .i64 a0_0, .int .i64 a0_1, .int .i64 a0_2] 23 fun qX hg w50 q0 hb => ?_; have j4 := gw hg HB; have qQ := gw hg HB; replace HB := bst HB hb; clear hb hg) | ((with_reducible refine gate_dst (N := 2) rfl ?_); refine bx 2 #[.int .i64 0, .int .i64 0, .int .i64 0] 23 fun q7 hg w51 q1 hb => ?_; have j5 := gw hg HB; have qR := gw hg HB; have qm := nlt hg q0; have qn := ngt hg q0; replace q0 := bb q0 hb; replace HB := bst HB hb; clear hb hg) | ((with_reducible refine gate_dst (N := 3) rfl ?_); refine bx 3 #[.int .i64 0, .int .i64 0, .int .i64 0, .int .i64 0] 25 fun q5 hg w52 q2 hb => ?_; have j6 := gw hg HB; have qS := gw hg HB; have qi := nlt hg q0; have qj := ngt hg q0; have qa := nlt hg q1; have qd := ngt hg q1; replace q0 := bb q0 hb; replace q1 := bb q1 hb; replace HB := bst HB hb; clear hb hg; have Q1 := qm.out; have Qd := qn.out; have Q2 := qi.out; have Qe := qj.out; have ⟨jW, jX, jY, gd, ge, gf⟩ := cf3 q0) | ((with_reducible refine gate_callee (f := 14) rfl ?_); refine gl 11 Try.func14 (grids_Check.calls k a0_0 a0_1 a0_2 qc _ A2.out) ?_; rintro e w56 ⟨rfl, hb⟩; refine ⟨_, rfl, ?_⟩; replace q0 := bb q0 hb; replace q1 := bb q1 hb; replace q2 := bb q2 hb; replace HB := bst HB hb; clear hb; have Q3 := qa.out; have Qf := qd.out; have ⟨jZ, g0, g1, gg, gh, gi⟩ := cf3 q1) | ((with_reducible refine gate_store (t := 23) (p := 2) rfl ?_); refine sx 23 2 ((((w56.setCell ⟨q7, 0, none⟩ (.int .i64 0)).setCell ⟨q7, 1, none⟩ (.int .i64 0)).setCell ⟨q7, 2, none⟩ (.int .i64 0))) fun w59 hw => ?_; replace q0 := fw hw q0; replace q1 := pw3 hw q1; replace q2 := fw hw q2; replace HB := bw hw HB; clear hw; have ⟨g2, g3, g4, g5, gj, gm, gn, go⟩ := cf4 q2) | ((with_reducible refine gate_store (t := 25) (p := 3) rfl ?_); refine sx 25 3 (((((w59.setCell ⟨q5, 0, none⟩ (.int .i64 0)).setCell ⟨q5, 1, none⟩ (.int .i64 0)).setCell ⟨q5, 2, none⟩ (.int .i64 0)).setCell ⟨q5, 3, none⟩ (.int .i64 0))) fun w61 hw => ?_; replace q0 := fw hw q0; replace q1 := fw hw q1; replace q2 := pw4 hw q2; replace HB := bw hw HB; clear hw))
  refine bodyPost_ret (results_list (rs := [.cell 2 23, .cell 3 25, .tmp 4]) rfl (by simp) (.cell q7 23 #[.int .i64 0, .int .i64 0, .int .i64 0] (0, 0) _ rfl (pk q1) Try.underlying23 rfl (by kernel_rfl) (.cell q5 25 #[.int .i64 0, .int .i64 0, .int .i64 0, .int .i64 0] (0, 0) _ rfl (pk q2) Try.underlying25 rfl (by kernel_rfl) (.tmp .nil)))) rfl ?_
  exact rt HB
end
section
/-! ### torchonlaw06_mat: function 17 -/
def torchonlaw06_mat.f (a0 : Int) (a1 : Int) (a2 : Int) (a3 : Int) : Option (Int × Int × Int × Int) := some (a0, a1, a2, a3)
set_option maxHeartbeats 8000000 in
set_option maxRecDepth 100000 in
theorem torchonlaw06_mat.calls (a0 : Int) (a1 : Int) (a2 : Int) (a3 : Int) (r1 : Int) (r2 : Int) (r3 : Int) (r4 : Int) (w : World) (h : torchonlaw06_mat.f a0 a1 a2 a3 = some (r1, r2, r3, r4)) :
  Calls Try.prog 17 #[.int .i64 a0, .int .i64 a1, .int .i64 a2, .int .i64 a3] w fun e w' => e = .returned (.agg #[.int .i64 r1, .int .i64 r2, .int .i64 r3, .int .i64 r4]) ∧ Below w.heap.size w w' := by
 have hu25 := Try.underlying25
 have HB := Aside0.mk (Below.refl w.heap.size w)
 have H : (some (a0, a1, a2, a3)) = some (r1, r2, r3, r4) := h
 clear h
 simp only [Option.some.injEq, Prod.mk.injEq] at H
 obtain ⟨rfl, rfl, rfl, rfl⟩ := H
 go_enter Try.func17, Try.ntmps17
 go_wp2_with (first | ((with_reducible refine gate_dst (N := 8) rfl ?_); refine bx 8 #[.int .i64 0, .int .i64 0, .int .i64 0, .int .i64 0] 25 fun q0 hg w5 q1 hb => ?_; have q3 := gw hg HB; have q2 := gw hg HB; replace HB := bst HB hb; clear hb hg; have ⟨q4, q5, q6, q7, q8, q9, qa, qb⟩ := cf4 q1) | ((with_reducible refine gate_store (t := 25) (p := 8) rfl ?_); refine sx 25 8 (((((w5.setCell ⟨q0, 0, none⟩ (.int .i64 a0)).setCell ⟨q0, 1, none⟩ (.int .i64 a1)).setCell ⟨q0, 2, none⟩ (.int .i64 a2)).setCell ⟨q0, 3, none⟩ (.int .i64 a3))) fun w7 hw => ?_; replace q1 := pw4 hw q1; replace HB := bw hw HB; clear hw))
 refine bodyPost_ret (results_cell_row rfl _ _ q0 25 #[.int .i64 a0, .int .i64 a1, .int .i64 a2, .int .i64 a3] (0, 0) _ rfl (pk q1) Try.underlying25 rfl (by kernel_rfl)) rfl ?_
 exact rt HB
end
section
/-! ### grids_point_1: function 77 -/
def grids_point_1.f (a0_0 : Int) (a0_1 : Int) : Option (Bool) := (grids_outside.f a0_0 1000000).bind fun q1 => (if q1 = true then (some true) else ((grids_outside.f a0_1 1000000).bind fun q0 => (some q0)))
set_option maxHeartbeats 8000000 in
set_option maxRecDepth 100000 in
theorem grids_point_1.calls (a0_0 : Int) (a0_1 : Int) (r : Bool) (w : World) (h : grids_point_1.f a0_0 a0_1 = some r) :
  Calls Try.prog 77 #[.agg #[.int .i64 a0_0, .int .i64 a0_1]] w fun e w' => e = .returned (.bool r) ∧ Below w.heap.size w w' := by
 have hu37 := Try.underlying37
 have HB := Aside0.mk (Below.refl w.heap.size w)
 have H : ((grids_outside.f a0_0 1000000).bind fun q1 => (if q1 = true then (some true) else ((grids_outside.f a0_1 1000000).bind fun q0 => (some q0)))) = some r := h
 clear h
 obtain ⟨q1, A2, H⟩ := ob H
 by_cases c3 : q1 = true
 ·subst c3
  have H1 : (some true) = some r := by rw [if_pos rfl] at H; exact H
  clear H
  have H := H1
  clear H1
  obtain rfl := Option.some.inj H
  go_enter Try.func77, Try.ntmps77
  go_wp2_with (first | ((with_reducible refine gate_dst (N := 1) rfl ?_); refine bx 1 #[.int .i64 a0_0, .int .i64 a0_1] 37 fun q5 hg w4 q2 hb => ?_; have q4 := gw hg HB; have q3 := gw hg HB; replace HB := bst HB hb; clear hb hg; have ⟨q6, q7, qa, qb⟩ := cf2 q2) | ((with_reducible refine gate_callee (f := 46) rfl ?_); refine goesL_ (some 5) rfl rfl Try.func46 (by kernel_rfl) rfl #[.int .i64 a0_0, .int .i64 1000000] rfl am ?_; (with_reducible refine (grids_outside.calls a0_0 1000000 true _ A2.out).mono ?_); rintro e w' ⟨rfl, ⟨nd, rfl⟩⟩; refine ⟨_, rfl, ?_⟩))
  go_ret
  exact rt HB
 ·replace c3 := Bool.eq_false_iff.mpr c3
  subst c3
  have H1 : ((grids_outside.f a0_1 1000000).bind fun q0 => (some q0)) = some r := by rw [if_neg (show ¬ (false = true) by decide)] at H; exact H
  clear H
  have H := H1
  clear H1
  obtain ⟨q0, A6, H⟩ := ob H
  obtain rfl := Option.some.inj H
  go_enter Try.func77, Try.ntmps77
  go_wp2_with (first | ((with_reducible refine gate_dst (N := 1) rfl ?_); refine bx 1 #[.int .i64 a0_0, .int .i64 a0_1] 37 fun q5 hg w7 q2 hb => ?_; have q4 := gw hg HB; have q3 := gw hg HB; replace HB := bst HB hb; clear hb hg; have ⟨q8, q9, qc, qd⟩ := cf2 q2) | ((with_reducible refine gate_callee (f := 46) rfl ?_); refine goesL_ (some 5) rfl rfl Try.func46 (by kernel_rfl) rfl #[.int .i64 a0_0, .int .i64 1000000] rfl am ?_; (with_reducible refine (grids_outside.calls a0_0 1000000 false _ A2.out).mono ?_); rintro e w' ⟨rfl, ⟨nd, rfl⟩⟩; refine ⟨_, rfl, ?_⟩) | (go_at_call 46; (with_reducible refine (grids_outside.calls a0_1 1000000 q0 _ A6.out).mono ?_); rintro e w' ⟨rfl, ⟨nd, rfl⟩⟩))
  go_ret
  exact rt HB
end
section
/-! ### api_GrPoint_84: function 84 -/
def api_GrPoint_84.l0 : Nat → List (S37) → Int → Int → Option (Int)
 | 0, _, _, _ => none
 | k + 1, x0, x7, x8 => if x8 < x7 then (if 0 ≤ x8 then (if x8 < (x0.length : Int) then ((grids_point_1.f ((rd_T37 x0 x8).f0) ((rd_T37 x0 x8).f1)).bind fun q6 => (if q6 = true then (some x8) else ((some (wrap64 (x8 + 1))).bind fun q4 => (api_GrPoint_84.l0 k x0 x7 q4)))) else (none)) else (none)) else (some (-1))
def api_GrPoint_84.f (k : Nat) (l0 : List (S37))  : Option (Int) := api_GrPoint_84.l0 k l0 (l0.length : Int) 0
theorem api_GrPoint_84.mono_l : ∀ k, (∀ y0 y1 y2, LeO (api_GrPoint_84.l0 k y0 y1 y2) (api_GrPoint_84.l0 (k + 1) y0 y1 y2))
 | 0 => fun _ _ _ r h => by simp [api_GrPoint_84.l0] at h
 | k + 1 => by
  have ih0 := api_GrPoint_84.mono_l k
  ·intro y0 y1 y2
   unfold api_GrPoint_84.l0
   repeat' first
   | (with_reducible exact ih0 _ _ _)
   | (with_reducible exact LeO.refl _)
   | (with_reducible exact LeO.none _)
   | (with_reducible refine LeO.ite ?_ ?_)
   | (with_reducible refine LeO.bind ?_ (fun _ => ?_))
   | exact ih0 _ _ _
   | exact LeO.none _
   | refine LeO.ite ?_ ?_
   | refine LeO.bind ?_ (fun _ => ?_)
theorem api_GrPoint_84.mono : ∀ a0 k, LeO (api_GrPoint_84.f k a0) (api_GrPoint_84.f (k + 1) a0) := by
 intro a0 k
 have ih0 := api_GrPoint_84.mono_l k
 unfold api_GrPoint_84.f
 repeat' first
   | (with_reducible exact ih0 _ _ _)
   | (with_reducible exact LeO.refl _)
   | (with_reducible exact LeO.none _)
   | (with_reducible refine LeO.ite ?_ ?_)
   | (with_reducible refine LeO.bind ?_ (fun _ => ?_))
   | exact ih0 _ _ _
   | exact LeO.none _
   | refine LeO.ite ?_ ?_
   | refine LeO.bind ?_ (fun _ => ?_)
set_option maxHeartbeats 8000000 in
set_option maxRecDepth 100000 in
theorem api_GrPoint_84.calls (k : Nat) (A0 : Option Addr) (c0 : Nat) (l0 : List (S37))  (r : Int) (w : World) (hr0 : Kd.C k37 w A0 l0.length l0) (hc0 : l0.length ≤ c0) (h : api_GrPoint_84.f k l0 = some r) :
  Calls Try.prog 84 #[.slice A0 l0.length c0, .func (.func 77) #[] #[]] w fun e w' => e = .returned (.int .i64 r) ∧ Below w.heap.size w w' := by
 have hu37 := Try.underlying37
 have HR0 := Aside0.mk hr0
 have HC0 := Aside0.mk hc0
 clear hr0 hc0
 have HB := Aside0.mk (Below.refl w.heap.size w)
 have H : (api_GrPoint_84.l0 k l0 (l0.length : Int) 0) = some r := h
 clear h
 have H' := Aside0.mk H
 clear H
 go_enter Try.func84, Try.ntmps84
 go_wp2
 go_loopg [8] k (fun kq v8 w' => ∃ (x8_1 : Int), v8 = .int .i64 x8_1 ∧ Aside0 (api_GrPoint_84.l0 kq l0 (l0.length : Int) x8_1 = some r) ∧ Aside0 (kq ≤ k) ∧ Aside0 (Below w.heap.size w w'))
 case atStart => exact ⟨(0), (by first | rfl | (simp; done) | (simp [*]; done)), H', ⟨Nat.le_refl _⟩, ⟨bnow HB⟩⟩
 case round =>
  clear H'
  try clear p2
  obtain ⟨x8_1, rfl, HA, HK1, HB⟩ := hrel
  cases gk with
  | zero => exact absurd HA.out (by simp [api_GrPoint_84.l0])
  | succ k1 =>
   have H := HA.out
   clear HA
   simp only [api_GrPoint_84.l0] at H
   by_cases c3 : x8_1 < (l0.length : Int)
   ·rw [if_pos c3] at H
    have q8 : decide (x8_1 < (l0.length : Int)) = true := decide_eq_true c3
    clear c3
    by_cases c4 : 0 ≤ x8_1
    ·rw [if_pos c4] at H
     have q9 : decide (0 ≤ x8_1) = true := decide_eq_true c4
     clear c4
     by_cases c5 : x8_1 < (l0.length : Int)
     ·rw [if_pos c5] at H
      have qa : decide (x8_1 < (l0.length : Int)) = true := decide_eq_true c5
      clear c5
      obtain ⟨q6, A6, H⟩ := ob H
      by_cases c7 : q6 = true
      ·subst c7
       have H1 : (some x8_1) = some r := by rw [if_pos rfl] at H; exact H
       clear H
       have H := H1
       clear H1
       obtain rfl := Option.some.inj H
       have q2 : 0 ≤ (x8_1 : Int) := of_decide_eq_true (by first | (with_reducible assumption) | assumption)
       have q3 : x8_1 < (l0.length : Int) := of_decide_eq_true (by first | (with_reducible assumption) | assumption)
       obtain ⟨q7, q5, q0, q1⟩ := at_T37 HR0.out x8_1 q2 q3
       cases q5
       replace q0 := (HB.out.cell (World.block_lt_of_cell? w _ q0)).trans q0
       replace q1 := (HB.out.cell (World.block_lt_of_cell? w _ q1)).trans q1
       replace q2 := eq_true q2
       replace q3 := eq_true q3
       go_wp2_with (first | (go_at_call 77; (with_reducible refine (grids_point_1.calls ((rd_T37 l0 x8_1).f0) ((rd_T37 l0 x8_1).f1) true _ A6.out).mono ?_); rintro e w8 ⟨rfl, hb⟩; replace HB := bst HB hb; clear hb))
       go_ret
       exact rt HB
      ·replace c7 := Bool.eq_false_iff.mpr c7
       subst c7
       have H1 : ((some (wrap64 (x8_1 + 1))).bind fun q4 => (api_GrPoint_84.l0 k1 l0 (l0.length : Int) q4)) = some r := by rw [if_neg (show ¬ (false = true) by decide)] at H; exact H
       clear H
       have H := H1
       clear H1
       obtain ⟨q4, E90, H⟩ := oc H
       have E9w : (IntKind.i64.wrap (x8_1 + 1)) = q4 := (i64_w _).trans E90
       have H' := Aside0.mk H
       clear H
       have q2 : 0 ≤ (x8_1 : Int) := of_decide_eq_true (by first | (with_reducible assumption) | assumption)
       have q3 : x8_1 < (l0.length : Int) := of_decide_eq_true (by first | (with_reducible assumption) | assumption)
       obtain ⟨q7, q5, q0, q1⟩ := at_T37 HR0.out x8_1 q2 q3
       cases q5
       replace q0 := (HB.out.cell (World.block_lt_of_cell? w _ q0)).trans q0
       replace q1 := (HB.out.cell (World.block_lt_of_cell? w _ q1)).trans q1
       replace q2 := eq_true q2
       replace q3 := eq_true q3
       go_wp2_with (first | (go_at_call 77; (with_reducible refine (grids_point_1.calls ((rd_T37 l0 x8_1).f0) ((rd_T37 l0 x8_1).f1) false _ A6.out).mono ?_); rintro e w10 ⟨rfl, hb⟩; replace HB := bst HB hb; clear hb))
       go_roundg k1
       case measure => have := HK1.out; omega
       case rel => exact ⟨(q4), (by first | rfl | (simp; done) | (simp [*]; done)), H', ⟨by have := HK1.out; omega⟩, ⟨bnow HB⟩⟩
     ·rw [if_neg c5] at H
      exact absurd H (by simp)
    ·rw [if_neg c4] at H
     exact absurd H (by simp)
   ·rw [if_neg c3] at H
    have q8 : decide (x8_1 < (l0.length : Int)) = false := decide_eq_false c3
    clear c3
    obtain rfl := Option.some.inj H
    go_wp2
    go_ret
    exact rt HB
end
section
/-! ### api_GrPoint_76: function 76 -/
def api_GrPoint_76.f (k : Nat) (l0 : List (S37))  : Option (Bool) := (api_GrPoint_84.f k l0).bind fun q0 => (some (decide (q0 ≥ 0)))
theorem api_GrPoint_76.mono : ∀ a0 k, LeO (api_GrPoint_76.f k a0) (api_GrPoint_76.f (k + 1) a0) := by
 intro a0 k
 unfold api_GrPoint_76.f
 repeat' first
   | (with_reducible exact api_GrPoint_84.mono _ _)
   | (with_reducible exact LeO.refl _)
   | (with_reducible exact LeO.none _)
   | (with_reducible refine LeO.ite ?_ ?_)
   | (with_reducible refine LeO.bind ?_ (fun _ => ?_))
   | exact api_GrPoint_84.mono _ _
   | exact LeO.none _
   | refine LeO.ite ?_ ?_
   | refine LeO.bind ?_ (fun _ => ?_)
set_option maxHeartbeats 8000000 in
set_option maxRecDepth 100000 in
theorem api_GrPoint_76.calls (k : Nat) (A0 : Option Addr) (c0 : Nat) (l0 : List (S37))  (r : Bool) (w : World) (hr0 : Kd.C k37 w A0 l0.length l0) (hc0 : l0.length ≤ c0) (h : api_GrPoint_76.f k l0 = some r) :
  Calls Try.prog 76 #[.slice A0 l0.length c0, .func (.func 77) #[] #[]] w fun e w' => e = .returned (.bool r) ∧ Below w.heap.size w w' := by
 have HR0 := Aside0.mk hr0
 have HC0 := Aside0.mk hc0
 clear hr0 hc0
 have HB := Aside0.mk (Below.refl w.heap.size w)
 have H : ((api_GrPoint_84.f k l0).bind fun q0 => (some (decide (q0 ≥ 0)))) = some r := h
 clear h
 obtain ⟨q0, A3, H⟩ := ob H
 obtain rfl := Option.some.inj H
 go_enter Try.func76, Try.ntmps76
 go_wp2_with (first | ((with_reducible refine gate_callee (f := 84) rfl ?_); refine goesL_ (some 7) rfl rfl Try.func84 (by kernel_rfl) rfl #[.slice A0 l0.length c0, .func (.func 77) #[] #[]] rfl am ?_; (with_reducible refine (api_GrPoint_84.calls k _ _ l0  q0 _ ?side1 ?side2 A3.out).mono ?_); (case side1 => repeat (first | exact HR0.out | (with_reducible refine Kd.C_alloc ?_ _) | (with_reducible refine Kd.C_drewN ?_ _) | (with_reducible refine Kd.C_drew ?_))); (case side2 => exact HC0.out); rintro e w4 ⟨rfl, hb⟩; refine ⟨_, rfl, ?_⟩; replace HB := bst HB hb; clear hb))
 go_ret
 exact rt HB
end
section
/-! ### grids_point: function 49 -/
def grids_point.f (k : Nat) (l0 : List (S37)) : Option (Bool) := (api_GrPoint_76.f k l0).bind fun q0 => (some (!q0))
theorem grids_point.mono : ∀ a0 k, LeO (grids_point.f k a0) (grids_point.f (k + 1) a0) := by
 intro a0 k
 unfold grids_point.f
 repeat' first
   | (with_reducible exact api_GrPoint_76.mono _ _)
   | (with_reducible exact LeO.refl _)
   | (with_reducible exact LeO.none _)
   | (with_reducible refine LeO.ite ?_ ?_)
   | (with_reducible refine LeO.bind ?_ (fun _ => ?_))
   | exact api_GrPoint_76.mono _ _
   | exact LeO.none _
   | refine LeO.ite ?_ ?_
   | refine LeO.bind ?_ (fun _ => ?_)
set_option maxHeartbeats 8000000 in
set_option maxRecDepth 100000 in
theorem grids_point.calls (k : Nat) (A0 : Option Addr) (c0 : Nat) (l0 : List (S37)) (r : Bool) (w : World) (hr0 : Kd.C k37 w A0 l0.length l0) (hc0 : l0.length ≤ c0) (h : grids_point.f k l0 = some r) :
  Calls Try.prog 49 #[.slice A0 l0.length c0] w fun e w' => e = .returned (.bool r) ∧ Below w.heap.size w w' := by
 have HR0 := Aside0.mk hr0
 have HC0 := Aside0.mk hc0
 clear hr0 hc0
 have HB := Aside0.mk (Below.refl w.heap.size w)
 have H : ((api_GrPoint_76.f k l0).bind fun q0 => (some (!q0))) = some r := h
 clear h
 obtain ⟨q0, A2, H⟩ := ob H
 obtain rfl := Option.some.inj H
 go_enter Try.func49, Try.ntmps49
 go_wp2_with (first | ((with_reducible refine gate_callee (f := 76) rfl ?_); refine goesL_ (some 4) rfl rfl Try.func76 (by kernel_rfl) rfl #[.slice A0 l0.length c0, .func (.func 77) #[] #[]] rfl am ?_; (with_reducible refine (api_GrPoint_76.calls k _ _ l0  q0 _ ?side1 ?side2 A2.out).mono ?_); (case side1 => repeat (first | exact HR0.out | (with_reducible refine Kd.C_alloc ?_ _) | (with_reducible refine Kd.C_drewN ?_ _) | (with_reducible refine Kd.C_drew ?_))); (case side2 => exact HC0.out); rintro e w3 ⟨rfl, hb⟩; refine ⟨_, rfl, ?_⟩; replace HB := bst HB hb; clear hb))
 go_ret
 exact rt HB
end
section
/-! ### grids_to: function 50 -/
def grids_to.f (a0_0 : Int) (a0_1 : Int) (a1_0 : Int) (a1_1 : Int) : Option (Int × Int) := (some (wrap64 (a1_0 - a0_0))).bind fun q1 => ((some (wrap64 (a1_1 - a0_1))).bind fun q2 => (some (q1, q2)))
set_option maxHeartbeats 8000000 in
set_option maxRecDepth 100000 in
theorem grids_to.calls (a0_0 : Int) (a0_1 : Int) (a1_0 : Int) (a1_1 : Int) (r1 : Int) (r2 : Int) (w : World) (h : grids_to.f a0_0 a0_1 a1_0 a1_1 = some (r1, r2)) :
  Calls Try.prog 50 #[.agg #[.int .i64 a0_0, .int .i64 a0_1], .agg #[.int .i64 a1_0, .int .i64 a1_1]] w fun e w' => e = .returned (.agg #[.int .i64 r1, .int .i64 r2]) ∧ Below w.heap.size w w' := by
 have hu37 := Try.underlying37
 have hu81 := Try.underlying81
 have HB := Aside0.mk (Below.refl w.heap.size w)
 have H : ((some (wrap64 (a1_0 - a0_0))).bind fun q1 => ((some (wrap64 (a1_1 - a0_1))).bind fun q2 => (some (q1, q2)))) = some (r1, r2) := h
 clear h
 obtain ⟨q1, E30, H⟩ := oc H
 have E3w : (IntKind.i64.wrap (a1_0 - a0_0)) = q1 := (i64_w _).trans E30
 obtain ⟨q2, E40, H⟩ := oc H
 have E4w : (IntKind.i64.wrap (a1_1 - a0_1)) = q2 := (i64_w _).trans E40
 simp only [Option.some.injEq, Prod.mk.injEq] at H
 obtain ⟨rfl, rfl⟩ := H
 go_enter Try.func50, Try.ntmps50
 go_wp2_with (first | ((with_reducible refine gate_dst (N := 2) rfl ?_); refine bx 2 #[.int .i64 a0_0, .int .i64 a0_1] 37 fun qi hg w5 q0 hb => ?_; have qf := gw hg HB; have qc := gw hg HB; replace HB := bst HB hb; clear hb hg) | ((with_reducible refine gate_dst (N := 3) rfl ?_); refine bx 3 #[.int .i64 a1_0, .int .i64 a1_1] 37 fun qj hg w6 q3 hb => ?_; have qg := gw hg HB; have qd := gw hg HB; have q5 := nlt hg q0; have q7 := ngt hg q0; replace q0 := bb q0 hb; replace HB := bst HB hb; clear hb hg) | ((with_reducible refine gate_dst (N := 4) rfl ?_); refine bx 4 #[.int .i64 0, .int .i64 0] 81 fun qb hg w7 q4 hb => ?_; have qh := gw hg HB; have qe := gw hg HB; have q6 := nlt hg q0; have q9 := ngt hg q0; have q8 := nlt hg q3; have qa := ngt hg q3; replace q0 := bb q0 hb; replace q3 := bb q3 hb; replace HB := bst HB hb; clear hb hg; have qx := q7.out; have qA := q5.out; have qy := q8.out; have qB := qa.out; have ⟨qk, ql, qq, qr⟩ := cf2 q3; have qw := q6.out; have qz := q9.out; have ⟨qm, qn, qs, qt⟩ := cf2 q0; have ⟨qo, qp, qu, qv⟩ := cf2 q4))
 refine bodyPost_ret (results_cell_row rfl _ _ qb 81 #[.int .i64 q1, .int .i64 q2] (0, 0) _ rfl (by (with_reducible repeat (first | refine blk_drewN ?_ _ | refine blk_drew ?_ | refine blk_alloc ?_ _)); refine blk_put (cs := #[.int .i64 q1, .int .i64 0]) ?_ 1 _ rfl; (with_reducible repeat (first | refine blk_drewN ?_ _ | refine blk_drew ?_ | refine blk_alloc ?_ _)); refine blk_put (cs := #[.int .i64 0, .int .i64 0]) ?_ 0 _ rfl; (with_reducible repeat (first | refine blk_drewN ?_ _ | refine blk_drew ?_ | refine blk_alloc ?_ _)); exact q4.out) Try.underlying81 rfl (by kernel_rfl)) rfl ?_
 exact rt HB
end
section
/-! ### cmp_isNaN_int: function 78 -/
def cmp_isNaN_int.f (a0 : Int) : Option (Bool) := some (a0 != a0)
set_option maxHeartbeats 8000000 in
set_option maxRecDepth 100000 in
theorem cmp_isNaN_int.calls (a0 : Int) (r : Bool) (w : World) (h : cmp_isNaN_int.f a0 = some r) :
  Calls Try.prog 78 #[.int .i64 a0] w fun e w' => e = .returned (.bool r) ∧ Drawn0 w w' := by
 have H : (some (a0 != a0)) = some r := h
 clear h
 obtain rfl := Option.some.inj H
 go_enter Try.func78, Try.ntmps78
 go_wp2
 go_ret
 exact ⟨by first | rfl | (simp; done) | (simp [*]; done), by repeat (first | exact Drawn0.refl _ | apply Drawn0.step)⟩
end
section
/-! ### cmp_Compare_int: function 52 -/
def cmp_Compare_int.f (a0 : Int) (a1 : Int) : Option (Int) := (cmp_isNaN_int.f a0).bind fun q1 => ((cmp_isNaN_int.f a1).bind fun q0 => (if q1 = true then (if q0 = true then (some 0) else (some (-1))) else (if q0 = true then (some 1) else (if a0 < a1 then (some (-1)) else (if a0 > a1 then (some 1) else (some 0))))))
set_option maxHeartbeats 8000000 in
set_option maxRecDepth 100000 in
theorem cmp_Compare_int.calls (a0 : Int) (a1 : Int) (r : Int) (w : World) (h : cmp_Compare_int.f a0 a1 = some r) :
  Calls Try.prog 52 #[.int .i64 a0, .int .i64 a1] w fun e w' => e = .returned (.int .i64 r) ∧ Drawn0 w w' := by
 have H : ((cmp_isNaN_int.f a0).bind fun q1 => ((cmp_isNaN_int.f a1).bind fun q0 => (if q1 = true then (if q0 = true then (some 0) else (some (-1))) else (if q0 = true then (some 1) else (if a0 < a1 then (some (-1)) else (if a0 > a1 then (some 1) else (some 0))))))) = some r := h
 clear h
 obtain ⟨q1, A3, H⟩ := ob H
 obtain ⟨q0, A4, H⟩ := ob H
 by_cases c5 : q1 = true
 ·subst c5
  have H1 : (if q0 = true then (some 0) else (some (-1))) = some r := by rw [if_pos rfl] at H; exact H
  clear H
  have H := H1
  clear H1
  by_cases c6 : q0 = true
  ·subst c6
   have H1 : (some 0) = some r := by rw [if_pos rfl] at H; exact H
   clear H
   have H := H1
   clear H1
   obtain rfl := Option.some.inj H
   go_enter Try.func52, Try.ntmps52
   go_wp2_with (first | ((with_reducible refine gate_callee (f := 78) rfl ?_); refine goesL_ (some 8) rfl rfl Try.func78 (by kernel_rfl) rfl #[.int .i64 a0] rfl am ?_; (with_reducible refine (cmp_isNaN_int.calls a0 true _ A3.out).mono ?_); rintro e w' ⟨rfl, ⟨nd, rfl⟩⟩; refine ⟨_, rfl, ?_⟩) | ((with_reducible refine gate_callee (f := 78) rfl ?_); refine goesL_ (some 10) rfl rfl Try.func78 (by kernel_rfl) rfl #[.int .i64 a1] rfl am ?_; (with_reducible refine (cmp_isNaN_int.calls a1 true _ A4.out).mono ?_); rintro e w' ⟨rfl, ⟨nd, rfl⟩⟩; refine ⟨_, rfl, ?_⟩))
   go_ret
   exact ⟨by first | rfl | (simp; done) | (simp [*]; done), by repeat (first | exact Drawn0.refl _ | apply Drawn0.step)⟩
  ·replace c6 := Bool.eq_false_iff.mpr c6
   subst c6
   have H1 : (some (-1)) = some r := by rw [if_neg (show ¬ (false = true) by decide)] at H; exact H
   clear H
   have H := H1
   clear H1
   obtain rfl := Option.some.inj H
   go_enter Try.func52, Try.ntmps52
   go_wp2_with (first | ((with_reducible refine gate_callee (f := 78) rfl ?_); refine goesL_ (some 8) rfl rfl Try.func78 (by kernel_rfl) rfl #[.int .i64 a0] rfl am ?_; (with_reducible refine (cmp_isNaN_int.calls a0 true _ A3.out).mono ?_); rintro e w' ⟨rfl, ⟨nd, rfl⟩⟩; refine ⟨_, rfl, ?_⟩) | ((with_reducible refine gate_callee (f := 78) rfl ?_); refine goesL_ (some 10) rfl rfl Try.func78 (by kernel_rfl) rfl #[.int .i64 a1] rfl am ?_; (with_reducible refine (cmp_isNaN_int.calls a1 false _ A4.out).mono ?_); rintro e w' ⟨rfl, ⟨nd, rfl⟩⟩; refine ⟨_, rfl, ?_⟩))
   go_ret
   exact ⟨by first | rfl | (simp; done) | (simp [*]; done), by repeat (first | exact Drawn0.refl _ | apply Drawn0.step)⟩
 ·replace c5 := Bool.eq_false_iff.mpr c5
  subst c5
  have H1 : (if q0 = true then (some 1) else (if a0 < a1 then (some (-1)) else (if a0 > a1 then (some 1) else (some 0)))) = some r := by rw [if_neg (show ¬ (false = true) by decide)] at H; exact H
  clear H
  have H := H1
  clear H1
  by_cases c7 : q0 = true
  ·subst c7
   have H1 : (some 1) = some r := by rw [if_pos rfl] at H; exact H
   clear H
   have H := H1
   clear H1
   obtain rfl := Option.some.inj H
   go_enter Try.func52, Try.ntmps52
   go_wp2_with (first | ((with_reducible refine gate_callee (f := 78) rfl ?_); refine goesL_ (some 8) rfl rfl Try.func78 (by kernel_rfl) rfl #[.int .i64 a0] rfl am ?_; (with_reducible refine (cmp_isNaN_int.calls a0 false _ A3.out).mono ?_); rintro e w' ⟨rfl, ⟨nd, rfl⟩⟩; refine ⟨_, rfl, ?_⟩) | ((with_reducible refine gate_callee (f := 78) rfl ?_); refine goesL_ (some 10) rfl rfl Try.func78 (by kernel_rfl) rfl #[.int .i64 a1] rfl am ?_; (with_reducible refine (cmp_isNaN_int.calls a1 true _ A4.out).mono ?_); rintro e w' ⟨rfl, ⟨nd, rfl⟩⟩; refine ⟨_, rfl, ?_⟩))
   go_ret
   exact ⟨by first | rfl | (simp; done) | (simp [*]; done), by repeat (first | exact Drawn0.refl _ | apply Drawn0.step)⟩
  ·replace c7 := Bool.eq_false_iff.mpr c7
   subst c7
   have H1 : (if a0 < a1 then (some (-1)) else (if a0 > a1 then (some 1) else (some 0))) = some r := by rw [if_neg (show ¬ (false = true) by decide)] at H; exact H
   clear H
   have H := H1
   clear H1
   by_cases c8 : a0 < a1
   ·rw [if_pos c8] at H
    have q2 : decide (a0 < a1) = true := decide_eq_true c8
    clear c8
    obtain rfl := Option.some.inj H
    go_enter Try.func52, Try.ntmps52
    go_wp2_with (first | ((with_reducible refine gate_callee (f := 78) rfl ?_); refine goesL_ (some 8) rfl rfl Try.func78 (by kernel_rfl) rfl #[.int .i64 a0] rfl am ?_; (with_reducible refine (cmp_isNaN_int.calls a0 false _ A3.out).mono ?_); rintro e w' ⟨rfl, ⟨nd, rfl⟩⟩; refine ⟨_, rfl, ?_⟩) | ((with_reducible refine gate_callee (f := 78) rfl ?_); refine goesL_ (some 10) rfl rfl Try.func78 (by kernel_rfl) rfl #[.int .i64 a1] rfl am ?_; (with_reducible refine (cmp_isNaN_int.calls a1 false _ A4.out).mono ?_); rintro e w' ⟨rfl, ⟨nd, rfl⟩⟩; refine ⟨_, rfl, ?_⟩))
    go_ret
    exact ⟨by first | rfl | (simp; done) | (simp [*]; done), by repeat (first | exact Drawn0.refl _ | apply Drawn0.step)⟩
   ·rw [if_neg c8] at H
    have q2 : decide (a0 < a1) = false := decide_eq_false c8
    clear c8
    by_cases c9 : a0 > a1
    ·rw [if_pos c9] at H
     have q3 : decide (a1 < a0) = true := decide_eq_true c9
     clear c9
     obtain rfl := Option.some.inj H
     go_enter Try.func52, Try.ntmps52
     go_wp2_with (first | ((with_reducible refine gate_callee (f := 78) rfl ?_); refine goesL_ (some 8) rfl rfl Try.func78 (by kernel_rfl) rfl #[.int .i64 a0] rfl am ?_; (with_reducible refine (cmp_isNaN_int.calls a0 false _ A3.out).mono ?_); rintro e w' ⟨rfl, ⟨nd, rfl⟩⟩; refine ⟨_, rfl, ?_⟩) | ((with_reducible refine gate_callee (f := 78) rfl ?_); refine goesL_ (some 10) rfl rfl Try.func78 (by kernel_rfl) rfl #[.int .i64 a1] rfl am ?_; (with_reducible refine (cmp_isNaN_int.calls a1 false _ A4.out).mono ?_); rintro e w' ⟨rfl, ⟨nd, rfl⟩⟩; refine ⟨_, rfl, ?_⟩))
     go_ret
     exact ⟨by first | rfl | (simp; done) | (simp [*]; done), by repeat (first | exact Drawn0.refl _ | apply Drawn0.step)⟩
    ·rw [if_neg c9] at H
     have q3 : decide (a1 < a0) = false := decide_eq_false c9
     clear c9
     obtain rfl := Option.some.inj H
     go_enter Try.func52, Try.ntmps52
     go_wp2_with (first | ((with_reducible refine gate_callee (f := 78) rfl ?_); refine goesL_ (some 8) rfl rfl Try.func78 (by kernel_rfl) rfl #[.int .i64 a0] rfl am ?_; (with_reducible refine (cmp_isNaN_int.calls a0 false _ A3.out).mono ?_); rintro e w' ⟨rfl, ⟨nd, rfl⟩⟩; refine ⟨_, rfl, ?_⟩) | ((with_reducible refine gate_callee (f := 78) rfl ?_); refine goesL_ (some 10) rfl rfl Try.func78 (by kernel_rfl) rfl #[.int .i64 a1] rfl am ?_; (with_reducible refine (cmp_isNaN_int.calls a1 false _ A4.out).mono ?_); rintro e w' ⟨rfl, ⟨nd, rfl⟩⟩; refine ⟨_, rfl, ?_⟩))
     go_ret
     exact ⟨by first | rfl | (simp; done) | (simp [*]; done), by repeat (first | exact Drawn0.refl _ | apply Drawn0.step)⟩
end
section
/-! ### grids_step_cross: function 55 -/
def grids_step_cross.f (a0_0 : Int) (a0_1 : Int) (a1_0 : Int) (a1_1 : Int) : Option (Int) := (some (wrap64 (a0_0 * a1_1))).bind fun q0 => ((some (wrap64 (a0_1 * a1_0))).bind fun q1 => ((some (wrap64 (q0 - q1))).bind fun q3 => (some q3)))
set_option maxHeartbeats 8000000 in
set_option maxRecDepth 100000 in
theorem grids_step_cross.calls (a0_0 : Int) (a0_1 : Int) (a1_0 : Int) (a1_1 : Int) (r : Int) (w : World) (h : grids_step_cross.f a0_0 a0_1 a1_0 a1_1 = some r) :
  Calls Try.prog 55 #[.agg #[.int .i64 a0_0, .int .i64 a0_1], .agg #[.int .i64 a1_0, .int .i64 a1_1]] w fun e w' => e = .returned (.int .i64 r) ∧ Below w.heap.size w w' := by
 have hu81 := Try.underlying81
 have HB := Aside0.mk (Below.refl w.heap.size w)
 have H : ((some (wrap64 (a0_0 * a1_1))).bind fun q0 => ((some (wrap64 (a0_1 * a1_0))).bind fun q1 => ((some (wrap64 (q0 - q1))).bind fun q3 => (some q3)))) = some r := h
 clear h
 obtain ⟨q0, E30, H⟩ := oc H
 have E3w : (IntKind.i64.wrap (a0_0 * a1_1)) = q0 := (i64_w _).trans E30
 obtain ⟨q1, E40, H⟩ := oc H
 have E4w : (IntKind.i64.wrap (a0_1 * a1_0)) = q1 := (i64_w _).trans E40
 obtain ⟨q3, E50, H⟩ := oc H
 have E5w : (IntKind.i64.wrap (q0 - q1)) = q3 := (i64_w _).trans E50
 obtain rfl := Option.some.inj H
 go_enter Try.func55, Try.ntmps55
 go_wp2_with (first | ((with_reducible refine gate_dst (N := 2) rfl ?_); refine bx 2 #[.int .i64 a0_0, .int .i64 a0_1] 81 fun qb hg w6 q2 hb => ?_; have q9 := gw hg HB; have q7 := gw hg HB; replace HB := bst HB hb; clear hb hg) | ((with_reducible refine gate_dst (N := 3) rfl ?_); refine bx 3 #[.int .i64 a1_0, .int .i64 a1_1] 81 fun qc hg w7 q4 hb => ?_; have qa := gw hg HB; have q8 := gw hg HB; have q5 := nlt hg q2; have q6 := ngt hg q2; replace q2 := bb q2 hb; replace HB := bst HB hb; clear hb hg; have ql := q5.out; have qm := q6.out; have ⟨qf, qg, qj, qk⟩ := cf2 q2; have ⟨qd, qe, qh, qi⟩ := cf2 q4))
 go_ret
 exact rt HB
end
section
/-! ### grids_step_half: function 53 -/
def grids_step_half.j0 : Nat → Bool → Option (Int)
 | 0, _ => none
 | k + 1, x28 => if x28 = true then (some 0) else (some 1)
def grids_step_half.f (k : Nat) (a0_0 : Int) (a0_1 : Int) (a1_0 : Int) (a1_1 : Int) : Option (Int) := (grids_step_cross.f a0_0 a0_1 a1_0 a1_1).bind fun q0 => (if q0 > 0 then (grids_step_half.j0 k true) else (if q0 = 0 then ((some (wrap64 (a0_0 * a1_0))).bind fun q4 => ((some (wrap64 (a0_1 * a1_1))).bind fun q5 => ((some (wrap64 (q4 + q5))).bind fun q6 => (grids_step_half.j0 k (decide (q6 > 0)))))) else (grids_step_half.j0 k false)))
theorem grids_step_half.mono_l : ∀ k, (∀ y0, LeO (grids_step_half.j0 k y0) (grids_step_half.j0 (k + 1) y0))
 | 0 => fun _ r h => by simp [grids_step_half.j0] at h
 | k + 1 => by
  have ih0 := grids_step_half.mono_l k
  ·intro y0
   unfold grids_step_half.j0
   repeat' first
   | (with_reducible exact ih0 _)
   | (with_reducible exact LeO.refl _)
   | (with_reducible exact LeO.none _)
   | (with_reducible refine LeO.ite ?_ ?_)
   | (with_reducible refine LeO.bind ?_ (fun _ => ?_))
   | exact ih0 _
   | exact LeO.none _
   | refine LeO.ite ?_ ?_
   | refine LeO.bind ?_ (fun _ => ?_)
theorem grids_step_half.mono : ∀ a0 a1 a2 a3 k, LeO (grids_step_half.f k a0 a1 a2 a3) (grids_step_half.f (k + 1) a0 a1 a2 a3) := by
 intro a0 a1 a2 a3 k
 have ih0 := grids_step_half.mono_l k
 unfold grids_step_half.f
 repeat' first
   | (with_reducible exact ih0 _)
   | (with_reducible exact LeO.refl _)
   | (with_reducible exact LeO.none _)
   | (with_reducible refine LeO.ite ?_ ?_)
   | (with_reducible refine LeO.bind ?_ (fun _ => ?_))
   | exact ih0 _
   | exact LeO.none _
   | refine LeO.ite ?_ ?_
   | refine LeO.bind ?_ (fun _ => ?_)
set_option maxHeartbeats 8000000 in
set_option maxRecDepth 100000 in
theorem grids_step_half.calls (k : Nat) (a0_0 : Int) (a0_1 : Int) (a1_0 : Int) (a1_1 : Int) (r : Int) (w : World) (h : grids_step_half.f k a0_0 a0_1 a1_0 a1_1 = some r) :
  Calls Try.prog 53 #[.agg #[.int .i64 a0_0, .int .i64 a0_1], .agg #[.int .i64 a1_0, .int .i64 a1_1]] w fun e w' => e = .returned (.int .i64 r) ∧ Below w.heap.size w w' := by
 have hu81 := Try.underlying81
 have HB := Aside0.mk (Below.refl w.heap.size w)
 have H : ((grids_step_cross.f a0_0 a0_1 a1_0 a1_1).bind fun q0 => (if q0 > 0 then (grids_step_half.j0 k true) else (if q0 = 0 then ((some (wrap64 (a0_0 * a1_0))).bind fun q4 => ((some (wrap64 (a0_1 * a1_1))).bind fun q5 => ((some (wrap64 (q4 + q5))).bind fun q6 => (grids_step_half.j0 k (decide (q6 > 0)))))) else (grids_step_half.j0 k false)))) = some r := h
 clear h
 obtain ⟨q0, A3, H⟩ := ob H
 have HC4 := Aside0.mk H
 clear H
 go_enter Try.func53, Try.ntmps53
 go_upto_region 2 with (first | ((with_reducible refine gate_dst (N := 2) rfl ?_); refine bx 2 #[.int .i64 a0_0, .int .i64 a0_1] 81 fun qb hg w5 q1 hb => ?_; have qv := gw hg HB; have qt := gw hg HB; replace HB := bst HB hb; clear hb hg) | ((with_reducible refine gate_dst (N := 3) rfl ?_); refine bx 3 #[.int .i64 a1_0, .int .i64 a1_1] 81 fun qc hg w6 q2 hb => ?_; have qw := gw hg HB; have qu := gw hg HB; have q7 := nlt hg q1; have q8 := ngt hg q1; replace q1 := bb q1 hb; replace HB := bst HB hb; clear hb hg; have qy := q7.out; have qA := q8.out; have ⟨qh, qi, qp, qq⟩ := cf2 q1; have ⟨qj, qk, qr, qs⟩ := cf2 q2) | ((with_reducible refine gate_callee (f := 55) rfl ?_); refine gl 8 Try.func55 (grids_step_cross.calls a0_0 a0_1 a1_0 a1_1 q0 _ A3.out) ?_; rintro e w10 ⟨rfl, hb⟩; refine ⟨_, rfl, ?_⟩; replace q1 := bb q1 hb; replace q2 := bb q2 hb; replace HB := bst HB hb; clear hb))
 (try simp only [Act.put, List.setIfInBounds_toArray, List.set_cons_zero, List.set_cons_succ])
 go_cut [28] (fun v28 wc => ∃ (kq : Nat) (x28_3 : Bool), v28 = .bool x28_3 ∧ Aside0 (grids_step_half.j0 kq x28_3 = some r) ∧ Aside0 (kq ≤ k) ∧ Aside0 (wc.heap[qb]? = some (.cells #[.int .i64 a0_0, .int .i64 a0_1] 81 (0, 0))) ∧ Aside0 (wc.heap[qc]? = some (.cells #[.int .i64 a1_0, .int .i64 a1_1] 81 (0, 0))) ∧ Aside0 (Below w.heap.size w wc))
 case first =>
  have H := HC4.out
  clear HC4
  by_cases c11 : q0 > 0
  ·rw [if_pos c11] at H
   have q3 : decide (0 < q0) = true := decide_eq_true c11
   clear c11
   (first | rw [q3] | (simp only [i64_w, i32_w]; rw [q3]) | skip)
   have H' := Aside0.mk H
   clear H
   go_wp2
   go_meet
   case rel => exact ⟨_, (true), (by first | rfl | (simp; done) | (simp [*]; done)), H', ⟨by first | omega | exact Nat.le_refl _⟩, ⟨pk q1⟩, ⟨pk q2⟩, ⟨bnow HB⟩⟩
  ·rw [if_neg c11] at H
   have q3 : decide (0 < q0) = false := decide_eq_false c11
   clear c11
   (first | rw [q3] | (simp only [i64_w, i32_w]; rw [q3]) | skip)
   by_cases c12 : q0 = 0
   ·rw [if_pos c12] at H
    have q9 : (q0 == 0) = true := beq_iff_eq.mpr c12
    have qa : (q0 != 0) = false := bne_eq_false_iff_eq.mpr c12
    clear c12
    obtain ⟨q4, E130, H⟩ := oc H
    have E13w : (IntKind.i64.wrap (a0_0 * a1_0)) = q4 := (i64_w _).trans E130
    obtain ⟨q5, E140, H⟩ := oc H
    have E14w : (IntKind.i64.wrap (a0_1 * a1_1)) = q5 := (i64_w _).trans E140
    obtain ⟨q6, E150, H⟩ := oc H
    have E15w : (IntKind.i64.wrap (q4 + q5)) = q6 := (i64_w _).trans E150
    have H' := Aside0.mk H
    clear H
    have qx := q7.out
    have qz := q8.out
    have ⟨qd, qe, ql, qm⟩ := cf2 q1
    have ⟨qf, qg, qn, qo⟩ := cf2 q2
    go_wp2
    go_meet
    case rel => exact ⟨_, (decide (q6 > 0)), (by first | rfl | (simp; done) | (simp [*]; done)), H', ⟨by first | omega | exact Nat.le_refl _⟩, ⟨pk q1⟩, ⟨pk q2⟩, ⟨bnow HB⟩⟩
   ·rw [if_neg c12] at H
    have q9 : (q0 == 0) = false := beq_eq_false_iff_ne.mpr c12
    have qa : (q0 != 0) = true := bne_iff_ne.mpr c12
    have H' := Aside0.mk H
    clear H
    go_wp2
    go_meet
    case rel => exact ⟨_, (false), (by first | rfl | (simp; done) | (simp [*]; done)), H', ⟨by first | omega | exact Nat.le_refl _⟩, ⟨pk q1⟩, ⟨pk q2⟩, ⟨bnow HB⟩⟩
 case rest =>
  clear HC4
  try clear c1; try clear p2; try clear c5; try clear p6; try clear c7; try clear c11; try clear q3; try clear c12; try clear q9; try clear qa; try clear c16; try clear qd; try clear qe; try clear qf; try clear qg; try clear qh; try clear qi; try clear qj; try clear qk; try clear ql; try clear qm; try clear qn; try clear qo; try clear qp; try clear qq; try clear qr; try clear qs
  obtain ⟨kq, x28_3, rfl, HA, HJ3, q1, q2, HB⟩ := hcut
  cases kq with
  | zero => exact absurd HA.out (by simp [grids_step_half.j0])
  | succ kj3 =>
   have H := HA.out
   clear HA
   simp only [grids_step_half.j0] at H
   by_cases c19 : x28_3 = true
   ·subst c19
    have H1 : (some 0) = some r := by rw [if_pos rfl] at H; exact H
    clear H
    have H := H1
    clear H1
    obtain rfl := Option.some.inj H
    go_wp2
    go_ret
    exact rt HB
   ·replace c19 := Bool.eq_false_iff.mpr c19
    subst c19
    have H1 : (some 1) = some r := by rw [if_neg (show ¬ (false = true) by decide)] at H; exact H
    clear H
    have H := H1
    clear H1
    obtain rfl := Option.some.inj H
    go_wp2
    go_ret
    exact rt HB
end
end Go.Proofs.Ytmcajdepoohlhaa.G
