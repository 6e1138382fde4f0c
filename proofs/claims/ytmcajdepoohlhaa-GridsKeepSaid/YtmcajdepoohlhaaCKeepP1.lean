/- Functions of the program as plain Lean functions, and their contracts (printed by a program of this session). No condition beyond what each states. -/
import Derived.Test.YtmcajdepoohlhaaCKeepY
import Derived.Test.YtmcajdepoohlhaaCKeepP0
namespace Go.Proofs.Ytmcajdepoohlhaa.G
open Go.RowKit Go.Proofs.YtmcajdepoohlhaaW.PrintWords Go.Proofs.YtmcajdepoohlhaaW.PrintLast Go.Proofs.YtmcajdepoohlhaaW.PrintMore
attribute [local go_sem] max2_int min2_int max_two min_two max_three min_three max_four min_four
set_option linter.unusedVariables false
set_option linter.unusedSimpArgs false
section
/-! ### grids_lead: function 60 -/
def grids_lead.f (a0_0 : Int) (a0_1 : Int) (a0_2 : Int) (a1_0 : Int) (a1_1 : Int) (a1_2 : Int) (a1_3 : Int) : Option (Int × Int × Int) := (grids_step_product.f a1_0 a1_2 a0_0 a0_1 a0_2 a1_0 a1_2).bind fun qQ => ((grids_step_product.f a1_0 a1_2 a0_0 a0_1 a0_2 a1_1 a1_3).bind fun qR => ((grids_step_product.f a1_1 a1_3 a0_0 a0_1 a0_2 a1_1 a1_3).bind fun qW => (some (qQ, qR, qW))))
def grids_lead.T1 : Bool × List (List Nat × List Nat) := (true, [([], []), ([0], [0]), ([], []), ([2], [2]), ([1, 3], [1, 3]), ([], []), ([5], [5]), ([], []), ([7], [7]), ([6, 8], [6, 8]), ([], []), ([], []), ([10, 4, 0, 1, 2, 3, 4, 10, 11], [4, 10]), ([11, 9, 12, 0, 1, 2, 3, 4, 5, 6, 7, 8, 9, 10, 11, 12], [9, 11])])
def grids_lead.B1 : List Nat := [0, 1, 0, 4, 15, 0, 32, 0, 128, 480, 0, 0, 3103, 8191]
theorem grids_lead.tab1 : rtab .any (opsOf Try.f60 1) = grids_lead.T1 := by kernel_rfl
theorem grids_lead.bits1 : waitsOk grids_lead.T1.2 grids_lead.B1 = true := by kernel_rfl
def grids_lead.T2 : Bool × List (List Nat × List Nat) := (true, [([], []), ([], []), ([], []), ([0, 1, 2], [0, 1, 2]), ([], []), ([], []), ([], []), ([4, 5, 6, 3], [4, 5, 6]), ([], []), ([], []), ([], []), ([8, 9, 10, 7], [8, 9, 10]), ([3, 7, 11], [3, 7, 11]), ([12, 11, 0, 1, 2, 3, 4, 5, 6, 7, 8, 9, 10, 11, 12], [12])])
def grids_lead.B2 : List Nat := [0, 0, 0, 7, 0, 0, 0, 127, 0, 0, 0, 2047, 4095, 8191]
theorem grids_lead.tab2 : rtab .any (opsOf Try.f60 2) = grids_lead.T2 := by kernel_rfl
theorem grids_lead.bits2 : waitsOk grids_lead.T2.2 grids_lead.B2 = true := by kernel_rfl
set_option maxHeartbeats 8000000 in
set_option maxRecDepth 100000 in
theorem grids_lead.calls (a0_0 : Int) (a0_1 : Int) (a0_2 : Int) (a1_0 : Int) (a1_1 : Int) (a1_2 : Int) (a1_3 : Int) (r1 : Int) (r2 : Int) (r3 : Int) (w : World) (h : grids_lead.f a0_0 a0_1 a0_2 a1_0 a1_1 a1_2 a1_3 = some (r1, r2, r3)) :
  Calls Try.prog 60 #[.agg #[.int .i64 a0_0, .int .i64 a0_1, .int .i64 a0_2], .agg #[.int .i64 a1_0, .int .i64 a1_1, .int .i64 a1_2, .int .i64 a1_3]] w fun e w' => e = .returned (.agg #[.int .i64 r1, .int .i64 r2, .int .i64 r3]) ∧ Below w.heap.size w w' := by
 have hu23 := Try.underlying23
 have hu25 := Try.underlying25
 have hu81 := Try.underlying81
 have HB := Aside0.mk (Below.refl w.heap.size w)
 have H : ((grids_step_product.f a1_0 a1_2 a0_0 a0_1 a0_2 a1_0 a1_2).bind fun qQ => ((grids_step_product.f a1_0 a1_2 a0_0 a0_1 a0_2 a1_1 a1_3).bind fun qR => ((grids_step_product.f a1_1 a1_3 a0_0 a0_1 a0_2 a1_1 a1_3).bind fun qW => (some (qQ, qR, qW))))) = some (r1, r2, r3) := h
 clear h
 obtain ⟨qQ, A3, H⟩ := ob H
 obtain ⟨qR, A4, H⟩ := ob H
 obtain ⟨qW, A5, H⟩ := ob H
 simp only [Option.some.injEq, Prod.mk.injEq] at H
 obtain ⟨rfl, rfl, rfl⟩ := H
 go_enter Try.func60, Try.ntmps60
 try go_wp2_with (first | ((with_reducible refine gate_dst (N := 2) rfl ?_); refine bx 2 #[.int .i64 a0_0, .int .i64 a0_1, .int .i64 a0_2] 23 fun qP hg w6 q0 hb => ?_; have ja := gw hg HB; have j7 := gw hg HB; replace HB := bst HB hb; clear hb hg) | ((with_reducible refine gate_dst (N := 3) rfl ?_); refine bx 3 #[.int .i64 a1_0, .int .i64 a1_1, .int .i64 a1_2, .int .i64 a1_3] 25 fun qb hg w7 q1 hb => ?_; have jb := gw hg HB; have j8 := gw hg HB; have jd := nlt hg q0; have je := ngt hg q0; replace q0 := bb q0 hb; replace HB := bst HB hb; clear hb hg) | ((with_reducible refine gate_dst (N := 4) rfl ?_); refine bx 4 #[.int .i64 0, .int .i64 0, .int .i64 0] 23 fun q5 hg w8 q4 hb => ?_; have jc := gw hg HB; have j9 := gw hg HB; have qE := nlt hg q0; have j1 := ngt hg q0; have j0 := nlt hg q1; have j2 := ngt hg q1; replace q0 := bb q0 hb; replace q1 := bb q1 hb; replace HB := bst HB hb; clear hb hg))
 replace q0 := bd q0
 replace q1 := bd q1
 replace q4 := bd q4
 replace HB := bdn HB
 refine start_ (n := 14) (S := fun w' => True) (ds := []) #[false, false, false, false, false, false, false, false, false, false, false, false, false, false] (by kernel_rfl) rfl rfl trivial (fun hHeld => ?_); refine with_tabW grids_lead.tab1 grids_lead.bits1 (fun HT_ HW_ => ?_)
 generalize w8.drew = w9 at q0 q1 q4 HB hHeld ⊢
 refine pz 0 7 HT_ ?_
 refine pz 2 9 HT_ ?_
 refine pz 5 12 HT_ ?_
 refine pz 7 14 HT_ ?_
 refine inv_at [1, 3, 4, 6, 8, 9, 10, 11, 12, 13] (fun a0_ b a w' => ∃ (q2 : Nat) (q3 : Nat) (qc : Value) (qd : Value), a = putSel a0_ b [(1, 8, .int .i64 a1_0), (3, 10, .int .i64 a1_2), (4, 11, .agg #[.int .i64 a1_0, .int .i64 a1_2]), (6, 13, .int .i64 a1_1), (8, 15, .int .i64 a1_3), (9, 16, .agg #[.int .i64 a1_1, .int .i64 a1_3]), (10, 5, qc), (11, 6, qd)] ∧ (w'.heap[qP]? = some (.cells #[.int .i64 a0_0, .int .i64 a0_1, .int .i64 a0_2] 23 (0, 0))) ∧ (w'.heap[qb]? = some (.cells #[.int .i64 a1_0, .int .i64 a1_1, .int .i64 a1_2, .int .i64 a1_3] 25 (0, 0))) ∧ (w'.heap[q5]? = some (.cells #[.int .i64 0, .int .i64 0, .int .i64 0] 23 (0, 0))) ∧ (Below w.heap.size w w') ∧ (b 10 = true → b 11 = true → q3 ≠ q2) ∧ (b 10 = true → b 11 = true → q2 ≠ q3) ∧ (b 10 = true → b 12 = false → w'.heap[q2]? = some (.cells #[.int .i64 0, .int .i64 0] 81 (0, 0))) ∧ (b 10 = true → w.heap.size ≤ q2) ∧ (b 10 = true → w.heap.size ≤ q2) ∧ (b 10 = true → qP ≠ q2) ∧ (b 10 = true → q2 ≠ qP) ∧ (b 10 = true → qb ≠ q2) ∧ (b 10 = true → q2 ≠ qb) ∧ (b 10 = true → q5 ≠ q2) ∧ (b 10 = true → q2 ≠ q5) ∧ (b 11 = true → b 13 = false → w'.heap[q3]? = some (.cells #[.int .i64 0, .int .i64 0] 81 (0, 0))) ∧ (b 11 = true → w.heap.size ≤ q3) ∧ (b 11 = true → w.heap.size ≤ q3) ∧ (b 11 = true → qP ≠ q3) ∧ (b 11 = true → q3 ≠ qP) ∧ (b 11 = true → qb ≠ q3) ∧ (b 11 = true → q3 ≠ qb) ∧ (b 11 = true → q5 ≠ q3) ∧ (b 11 = true → q3 ≠ q5) ∧ (b 12 = true → w'.heap[q2]? = some (.cells #[.int .i64 a1_0, .int .i64 a1_2] 81 (0, 0))) ∧ (b 13 = true → w'.heap[q3]? = some (.cells #[.int .i64 a1_1, .int .i64 a1_3] 81 (0, 0))) ∧ (b 10 = true → (qc : Value) = .pointer (some ⟨q2, 0, none⟩)) ∧ (b 11 = true → (qd : Value) = .pointer (some ⟨q3, 0, none⟩))) HT_.out HW_.out (by kernel_rfl) (by kernel_rfl) ?_ ?_ ?_
 ·exact ⟨0, 0, .bool false, .bool false, by simp only [putSel, Bool.false_eq_true, if_false], q0.out, q1.out, q4.out, HB.out, fun h_ => absurd h_ (by decide), fun h_ => absurd h_ (by decide), fun h_ => absurd h_ (by decide), fun h_ => absurd h_ (by decide), fun h_ => absurd h_ (by decide), fun h_ => absurd h_ (by decide), fun h_ => absurd h_ (by decide), fun h_ => absurd h_ (by decide), fun h_ => absurd h_ (by decide), fun h_ => absurd h_ (by decide), fun h_ => absurd h_ (by decide), fun h_ => absurd h_ (by decide), fun h_ => absurd h_ (by decide), fun h_ => absurd h_ (by decide), fun h_ => absurd h_ (by decide), fun h_ => absurd h_ (by decide), fun h_ => absurd h_ (by decide), fun h_ => absurd h_ (by decide), fun h_ => absurd h_ (by decide), fun h_ => absurd h_ (by decide), fun h_ => absurd h_ (by decide), fun h_ => absurd h_ (by decide), fun h_ => absurd h_ (by decide), fun h_ => absurd h_ (by decide)⟩
 ·skip
  clear q0 q1 q4 HB
  refine steps_cons ?_ ?_
  ·rintro b a w' ⟨q2, q3, qc, qd, ha, q6, q7, q8, Q_HB, qx, qw, qf, qi, qg, qk, qq, qm, qr, qo, qs, qe, qj, qh, ql, qt, qn, qu, qp, qv, qy, qB, Q_X10_, Q_X11_⟩ hb_ hon hoff
   refine ⟨_, rfl, fun K hK => ?_⟩
   have e7 : a.tmps[7]? = some (.pointer (some ⟨qb, 0, none⟩)) := by rw [ha]; exact (putSel_off rfl).trans rfl
   replace ha := Aside0.mk ha
   have q0 := Aside0.mk q6
   have q1 := Aside0.mk q7
   have q4 := Aside0.mk q8
   have HB := Aside0.mk Q_HB
   have hc0_ : w'.cell? ⟨qb, 0, none⟩ = some (.int .i64 a1_0) := (blk_cell q1.out 0).trans rfl
   have hc1_ : w'.cell? ⟨qb, 1, none⟩ = some (.int .i64 a1_1) := (blk_cell q1.out 1).trans rfl
   have hc2_ : w'.cell? ⟨qb, 2, none⟩ = some (.int .i64 a1_2) := (blk_cell q1.out 2).trans rfl
   have hc3_ : w'.cell? ⟨qb, 3, none⟩ = some (.int .i64 a1_3) := (blk_cell q1.out 3).trans rfl
   refine value_ (w1 := w') (v := .int .i64 a1_0) (by rfl) rfl ?_ ?_
   ·go_simp
    (try simp only [i64_w])
    try rfl
   refine hK.out _ _ ⟨q2, q3, qc, qd, (by rw [ha.out]; exact putSel_upk 0 hb_ rfl rfl rfl), q6, q7, q8, Q_HB, qx, qw, qf, qi, qg, qk, qq, qm, qr, qo, qs, qe, qj, qh, ql, qt, qn, qu, qp, qv, fun h0_ => absurd ((hoff 12 (by kernel_rfl)).symm.trans h0_) (by decide), fun h0_ => absurd ((hoff 13 (by kernel_rfl)).symm.trans h0_) (by decide), Q_X10_, Q_X11_⟩
  refine steps_cons ?_ ?_
  ·rintro b a w' ⟨q2, q3, qc, qd, ha, q6, q7, q8, Q_HB, qx, qw, qf, qi, qg, qk, qq, qm, qr, qo, qs, qe, qj, qh, ql, qt, qn, qu, qp, qv, qy, qB, Q_X10_, Q_X11_⟩ hb_ hon hoff
   refine ⟨_, rfl, fun K hK => ?_⟩
   have e9 : a.tmps[9]? = some (.pointer (some ⟨qb, 2, none⟩)) := by rw [ha]; exact (putSel_off rfl).trans rfl
   replace ha := Aside0.mk ha
   have q0 := Aside0.mk q6
   have q1 := Aside0.mk q7
   have q4 := Aside0.mk q8
   have HB := Aside0.mk Q_HB
   have hc0_ : w'.cell? ⟨qb, 0, none⟩ = some (.int .i64 a1_0) := (blk_cell q1.out 0).trans rfl
   have hc1_ : w'.cell? ⟨qb, 1, none⟩ = some (.int .i64 a1_1) := (blk_cell q1.out 1).trans rfl
   have hc2_ : w'.cell? ⟨qb, 2, none⟩ = some (.int .i64 a1_2) := (blk_cell q1.out 2).trans rfl
   have hc3_ : w'.cell? ⟨qb, 3, none⟩ = some (.int .i64 a1_3) := (blk_cell q1.out 3).trans rfl
   refine value_ (w1 := w') (v := .int .i64 a1_2) (by rfl) rfl ?_ ?_
   ·go_simp
    (try simp only [i64_w])
    try rfl
   refine hK.out _ _ ⟨q2, q3, qc, qd, (by rw [ha.out]; exact putSel_upk 1 hb_ rfl rfl rfl), q6, q7, q8, Q_HB, qx, qw, qf, qi, qg, qk, qq, qm, qr, qo, qs, qe, qj, qh, ql, qt, qn, qu, qp, qv, fun h0_ => absurd ((hoff 12 (by kernel_rfl)).symm.trans h0_) (by decide), fun h0_ => absurd ((hoff 13 (by kernel_rfl)).symm.trans h0_) (by decide), Q_X10_, Q_X11_⟩
  refine steps_cons ?_ ?_
  ·rintro b a w' ⟨q2, q3, qc, qd, ha, q6, q7, q8, Q_HB, qx, qw, qf, qi, qg, qk, qq, qm, qr, qo, qs, qe, qj, qh, ql, qt, qn, qu, qp, qv, qy, qB, Q_X10_, Q_X11_⟩ hb_ hon hoff
   refine ⟨_, rfl, fun K hK => ?_⟩
   have e8 : a.tmps[8]? = some (.int .i64 a1_0) := by rw [ha]; exact putSel_on (e := (1, 8, .int .i64 a1_0)) 0 rfl rfl (hon 1 (by kernel_rfl)) rfl
   have e10 : a.tmps[10]? = some (.int .i64 a1_2) := by rw [ha]; exact putSel_on (e := (3, 10, .int .i64 a1_2)) 1 rfl rfl (hon 3 (by kernel_rfl)) rfl
   replace ha := Aside0.mk ha
   have q0 := Aside0.mk q6
   have q1 := Aside0.mk q7
   have q4 := Aside0.mk q8
   have HB := Aside0.mk Q_HB
   refine value_ (w1 := w') (v := .agg #[.int .i64 a1_0, .int .i64 a1_2]) (by rfl) rfl ?_ ?_
   ·go_simp
    (try simp only [i64_w])
    try rfl
   refine hK.out _ _ ⟨q2, q3, qc, qd, (by rw [ha.out]; exact putSel_upk 2 hb_ rfl rfl rfl), q6, q7, q8, Q_HB, qx, qw, qf, qi, qg, qk, qq, qm, qr, qo, qs, qe, qj, qh, ql, qt, qn, qu, qp, qv, fun h0_ => absurd ((hoff 12 (by kernel_rfl)).symm.trans h0_) (by decide), fun h0_ => absurd ((hoff 13 (by kernel_rfl)).symm.trans h0_) (by decide), Q_X10_, Q_X11_⟩
  refine steps_cons ?_ ?_
  ·rintro b a w' ⟨q2, q3, qc, qd, ha, q6, q7, q8, Q_HB, qx, qw, qf, qi, qg, qk, qq, qm, qr, qo, qs, qe, qj, qh, ql, qt, qn, qu, qp, qv, qy, qB, Q_X10_, Q_X11_⟩ hb_ hon hoff
   refine ⟨_, rfl, fun K hK => ?_⟩
   have e12 : a.tmps[12]? = some (.pointer (some ⟨qb, 1, none⟩)) := by rw [ha]; exact (putSel_off rfl).trans rfl
   replace ha := Aside0.mk ha
   have q0 := Aside0.mk q6
   have q1 := Aside0.mk q7
   have q4 := Aside0.mk q8
   have HB := Aside0.mk Q_HB
   have hc0_ : w'.cell? ⟨qb, 0, none⟩ = some (.int .i64 a1_0) := (blk_cell q1.out 0).trans rfl
   have hc1_ : w'.cell? ⟨qb, 1, none⟩ = some (.int .i64 a1_1) := (blk_cell q1.out 1).trans rfl
   have hc2_ : w'.cell? ⟨qb, 2, none⟩ = some (.int .i64 a1_2) := (blk_cell q1.out 2).trans rfl
   have hc3_ : w'.cell? ⟨qb, 3, none⟩ = some (.int .i64 a1_3) := (blk_cell q1.out 3).trans rfl
   refine value_ (w1 := w') (v := .int .i64 a1_1) (by rfl) rfl ?_ ?_
   ·go_simp
    (try simp only [i64_w])
    try rfl
   refine hK.out _ _ ⟨q2, q3, qc, qd, (by rw [ha.out]; exact putSel_upk 3 hb_ rfl rfl rfl), q6, q7, q8, Q_HB, qx, qw, qf, qi, qg, qk, qq, qm, qr, qo, qs, qe, qj, qh, ql, qt, qn, qu, qp, qv, qy, fun h0_ => absurd ((hoff 13 (by kernel_rfl)).symm.trans h0_) (by decide), Q_X10_, Q_X11_⟩
  refine steps_cons ?_ ?_
  ·rintro b a w' ⟨q2, q3, qc, qd, ha, q6, q7, q8, Q_HB, qx, qw, qf, qi, qg, qk, qq, qm, qr, qo, qs, qe, qj, qh, ql, qt, qn, qu, qp, qv, qy, qB, Q_X10_, Q_X11_⟩ hb_ hon hoff
   refine ⟨_, rfl, fun K hK => ?_⟩
   have e14 : a.tmps[14]? = some (.pointer (some ⟨qb, 3, none⟩)) := by rw [ha]; exact (putSel_off rfl).trans rfl
   replace ha := Aside0.mk ha
   have q0 := Aside0.mk q6
   have q1 := Aside0.mk q7
   have q4 := Aside0.mk q8
   have HB := Aside0.mk Q_HB
   have hc0_ : w'.cell? ⟨qb, 0, none⟩ = some (.int .i64 a1_0) := (blk_cell q1.out 0).trans rfl
   have hc1_ : w'.cell? ⟨qb, 1, none⟩ = some (.int .i64 a1_1) := (blk_cell q1.out 1).trans rfl
   have hc2_ : w'.cell? ⟨qb, 2, none⟩ = some (.int .i64 a1_2) := (blk_cell q1.out 2).trans rfl
   have hc3_ : w'.cell? ⟨qb, 3, none⟩ = some (.int .i64 a1_3) := (blk_cell q1.out 3).trans rfl
   refine value_ (w1 := w') (v := .int .i64 a1_3) (by rfl) rfl ?_ ?_
   ·go_simp
    (try simp only [i64_w])
    try rfl
   refine hK.out _ _ ⟨q2, q3, qc, qd, (by rw [ha.out]; exact putSel_upk 4 hb_ rfl rfl rfl), q6, q7, q8, Q_HB, qx, qw, qf, qi, qg, qk, qq, qm, qr, qo, qs, qe, qj, qh, ql, qt, qn, qu, qp, qv, qy, fun h0_ => absurd ((hoff 13 (by kernel_rfl)).symm.trans h0_) (by decide), Q_X10_, Q_X11_⟩
  refine steps_cons ?_ ?_
  ·rintro b a w' ⟨q2, q3, qc, qd, ha, q6, q7, q8, Q_HB, qx, qw, qf, qi, qg, qk, qq, qm, qr, qo, qs, qe, qj, qh, ql, qt, qn, qu, qp, qv, qy, qB, Q_X10_, Q_X11_⟩ hb_ hon hoff
   refine ⟨_, rfl, fun K hK => ?_⟩
   have e13 : a.tmps[13]? = some (.int .i64 a1_1) := by rw [ha]; exact putSel_on (e := (6, 13, .int .i64 a1_1)) 3 rfl rfl (hon 6 (by kernel_rfl)) rfl
   have e15 : a.tmps[15]? = some (.int .i64 a1_3) := by rw [ha]; exact putSel_on (e := (8, 15, .int .i64 a1_3)) 4 rfl rfl (hon 8 (by kernel_rfl)) rfl
   replace ha := Aside0.mk ha
   have q0 := Aside0.mk q6
   have q1 := Aside0.mk q7
   have q4 := Aside0.mk q8
   have HB := Aside0.mk Q_HB
   refine value_ (w1 := w') (v := .agg #[.int .i64 a1_1, .int .i64 a1_3]) (by rfl) rfl ?_ ?_
   ·go_simp
    (try simp only [i64_w])
    try rfl
   refine hK.out _ _ ⟨q2, q3, qc, qd, (by rw [ha.out]; exact putSel_upk 5 hb_ rfl rfl rfl), q6, q7, q8, Q_HB, qx, qw, qf, qi, qg, qk, qq, qm, qr, qo, qs, qe, qj, qh, ql, qt, qn, qu, qp, qv, qy, fun h0_ => absurd ((hoff 13 (by kernel_rfl)).symm.trans h0_) (by decide), Q_X10_, Q_X11_⟩
  refine steps_cons ?_ ?_
  ·rintro b a w' ⟨q2, q3, qc, qd, ha, q6, q7, q8, Q_HB, qx, qw, qf, qi, qg, qk, qq, qm, qr, qo, qs, qe, qj, qh, ql, qt, qn, qu, qp, qv, qy, qB, Q_X10_, Q_X11_⟩ hb_ hon hoff
   refine ⟨_, rfl, fun K hK => ?_⟩
   replace ha := Aside0.mk ha
   have q0 := Aside0.mk q6
   have q1 := Aside0.mk q7
   have q4 := Aside0.mk q8
   have HB := Aside0.mk Q_HB
   refine box_step ?hg (N := 5) ?hd (cs := #[.int .i64 0, .int .i64 0]) (t := 81) ?hr ?_; (case hd => rfl); (case hg => rfl); (case hr => first | (go_simp; done) | (go_simp; rfl))
   intro q2 hg w10 hbox hb
   have n0_ := bb q0 hb
   have n1_ := bb q1 hb
   have n2_ := bb q4 hb
   have n3_ := bst HB hb
   have n4_ := Aside0.mk (hbox)
   have n5_ := gw hg HB
   have n6_ := gw hg HB
   have n7_ := nlt hg q0
   have n8_ := ngt hg q0
   have n9_ := nlt hg q1
   have qX := ngt hg q1
   have qY := nlt hg q4
   have qZ := ngt hg q4
   have j4 := fun (h0_ : up b 10 10 = true) (h1_ : up b 10 11 = true) => (show q3 ≠ q2 from (by cases hb_ : b 13 with | false => exact ((by rw [hg]; exact Nat.ne_of_lt (blk_lt (g := q3) (o := .cells #[.int .i64 0, .int .i64 0] 81 (0, 0)) (by (with_reducible repeat (first | refine blk_drewN ?_ _ | refine blk_drew ?_ | refine blk_alloc ?_ _)); exact (qe h1_ hb_))) : q3 ≠ q2)) | true => exact ((by rw [hg]; exact Nat.ne_of_lt (blk_lt (g := q3) (by (with_reducible repeat (first | refine blk_drewN ?_ _ | refine blk_drew ?_ | refine blk_alloc ?_ _)); exact (qB hb_))) : q3 ≠ q2))))
   have j3 := fun (h0_ : up b 10 10 = true) (h1_ : up b 10 11 = true) => (show q2 ≠ q3 from (by cases hb_ : b 13 with | false => exact ((by rw [hg]; exact Nat.ne_of_gt (blk_lt (g := q3) (o := .cells #[.int .i64 0, .int .i64 0] 81 (0, 0)) (by (with_reducible repeat (first | refine blk_drewN ?_ _ | refine blk_drew ?_ | refine blk_alloc ?_ _)); exact (qe h1_ hb_))) : q2 ≠ q3)) | true => exact ((by rw [hg]; exact Nat.ne_of_gt (blk_lt (g := q3) (by (with_reducible repeat (first | refine blk_drewN ?_ _ | refine blk_drew ?_ | refine blk_alloc ?_ _)); exact (qB hb_))) : q2 ≠ q3))))
   have j6 := fun (h0_ : b 11 = true) (h1_ : b 13 = false) => (show w10.heap[q3]? = some (.cells #[.int .i64 0, .int .i64 0] 81 (0, 0)) from by first | exact (blk_below (g := q3) (o := .cells #[.int .i64 0, .int .i64 0] 81 (0, 0)) (by (with_reducible repeat (first | refine blk_drewN ?_ _ | refine blk_drew ?_ | refine blk_alloc ?_ _)); exact (qe h0_ h1_)) hb))
   clear q0
   clear q1
   clear q4
   clear HB
   have q0 := n0_
   have q1 := n1_
   have q4 := n2_
   have HB := n3_
   have q9 := n4_
   have qU := n5_
   have qS := n6_
   have qF := n7_
   have qL := n8_
   have qH := n9_
   have qM := qX
   have qC := qY
   have qz := qZ
   clear n0_ n1_ n2_ n3_ n4_ n5_ n6_ n7_ n8_ n9_ qX qY qZ
   clear hb hg
   refine hK.out _ _ ⟨q2, q3, (.pointer (some ⟨q2, 0, none⟩)), qd, (by rw [ha.out]; exact putSel_upk 6 hb_ rfl rfl rfl), (pk q0), (pk q1), (pk q4), (bnow HB), j4, j3, fun _ _ => (pk q9), fun _ => qU.out, fun _ => qS.out, fun _ => qF.out, fun _ => qL.out, fun _ => qH.out, fun _ => qM.out, fun _ => qC.out, fun _ => qz.out, j6, qj, qh, ql, qt, qn, qu, qp, qv, fun h0_ => absurd ((hoff 12 (by kernel_rfl)).symm.trans h0_) (by decide), fun h0_ => absurd ((hoff 13 (by kernel_rfl)).symm.trans h0_) (by decide), fun _ => rfl, Q_X11_⟩
  refine steps_cons ?_ ?_
  ·rintro b a w' ⟨q2, q3, qc, qd, ha, q6, q7, q8, Q_HB, qx, qw, qf, qi, qg, qk, qq, qm, qr, qo, qs, qe, qj, qh, ql, qt, qn, qu, qp, qv, qy, qB, Q_X10_, Q_X11_⟩ hb_ hon hoff
   refine ⟨_, rfl, fun K hK => ?_⟩
   replace ha := Aside0.mk ha
   have q0 := Aside0.mk q6
   have q1 := Aside0.mk q7
   have q4 := Aside0.mk q8
   have HB := Aside0.mk Q_HB
   refine box_step ?hg (N := 6) ?hd (cs := #[.int .i64 0, .int .i64 0]) (t := 81) ?hr ?_; (case hd => rfl); (case hg => rfl); (case hr => first | (go_simp; done) | (go_simp; rfl))
   intro q3 hg w10 hbox hb
   have n0_ := bb q0 hb
   have n1_ := bb q1 hb
   have n2_ := bb q4 hb
   have n3_ := bst HB hb
   have n4_ := Aside0.mk (hbox)
   have n5_ := gw hg HB
   have n6_ := gw hg HB
   have n7_ := nlt hg q0
   have n8_ := ngt hg q0
   have n9_ := nlt hg q1
   have qX := ngt hg q1
   have qY := nlt hg q4
   have qZ := ngt hg q4
   have j4 := fun (h0_ : up b 11 10 = true) (h1_ : up b 11 11 = true) => (show q3 ≠ q2 from (by cases hb_ : b 12 with | false => exact ((by rw [hg]; exact Nat.ne_of_gt (blk_lt (g := q2) (o := .cells #[.int .i64 0, .int .i64 0] 81 (0, 0)) (by (with_reducible repeat (first | refine blk_drewN ?_ _ | refine blk_drew ?_ | refine blk_alloc ?_ _)); exact (qf h0_ hb_))) : q3 ≠ q2)) | true => exact ((by rw [hg]; exact Nat.ne_of_gt (blk_lt (g := q2) (by (with_reducible repeat (first | refine blk_drewN ?_ _ | refine blk_drew ?_ | refine blk_alloc ?_ _)); exact (qy hb_))) : q3 ≠ q2))))
   have j3 := fun (h0_ : up b 11 10 = true) (h1_ : up b 11 11 = true) => (show q2 ≠ q3 from (by cases hb_ : b 12 with | false => exact ((by rw [hg]; exact Nat.ne_of_lt (blk_lt (g := q2) (o := .cells #[.int .i64 0, .int .i64 0] 81 (0, 0)) (by (with_reducible repeat (first | refine blk_drewN ?_ _ | refine blk_drew ?_ | refine blk_alloc ?_ _)); exact (qf h0_ hb_))) : q2 ≠ q3)) | true => exact ((by rw [hg]; exact Nat.ne_of_lt (blk_lt (g := q2) (by (with_reducible repeat (first | refine blk_drewN ?_ _ | refine blk_drew ?_ | refine blk_alloc ?_ _)); exact (qy hb_))) : q2 ≠ q3))))
   have j5 := fun (h0_ : b 10 = true) (h1_ : b 12 = false) => (show w10.heap[q2]? = some (.cells #[.int .i64 0, .int .i64 0] 81 (0, 0)) from by first | exact (blk_below (g := q2) (o := .cells #[.int .i64 0, .int .i64 0] 81 (0, 0)) (by (with_reducible repeat (first | refine blk_drewN ?_ _ | refine blk_drew ?_ | refine blk_alloc ?_ _)); exact (qf h0_ h1_)) hb))
   clear q0
   clear q1
   clear q4
   clear HB
   have q0 := n0_
   have q1 := n1_
   have q4 := n2_
   have HB := n3_
   have qa := n4_
   have qV := n5_
   have qT := n6_
   have qG := n7_
   have qN := n8_
   have qI := n9_
   have qO := qX
   have qD := qY
   have qA := qZ
   clear n0_ n1_ n2_ n3_ n4_ n5_ n6_ n7_ n8_ n9_ qX qY qZ
   clear hb hg
   refine hK.out _ _ ⟨q2, q3, qc, (.pointer (some ⟨q3, 0, none⟩)), (by rw [ha.out]; exact putSel_upk 7 hb_ rfl rfl rfl), (pk q0), (pk q1), (pk q4), (bnow HB), j4, j3, j5, qi, qg, qk, qq, qm, qr, qo, qs, fun _ _ => (pk qa), fun _ => qV.out, fun _ => qT.out, fun _ => qG.out, fun _ => qN.out, fun _ => qI.out, fun _ => qO.out, fun _ => qD.out, fun _ => qA.out, fun h0_ => absurd ((hoff 12 (by kernel_rfl)).symm.trans h0_) (by decide), fun h0_ => absurd ((hoff 13 (by kernel_rfl)).symm.trans h0_) (by decide), Q_X10_, fun _ => rfl⟩
  refine steps_cons ?_ ?_
  ·rintro b a w' ⟨q2, q3, qc, qd, ha, q6, q7, q8, Q_HB, qx, qw, qf, qi, qg, qk, qq, qm, qr, qo, qs, qe, qj, qh, ql, qt, qn, qu, qp, qv, qy, qB, Q_X10_, Q_X11_⟩ hb_ hon hoff
   refine ⟨_, rfl, fun K hK => ?_⟩
   have e5 : a.tmps[5]? = some (qc) := by rw [ha]; exact putSel_on (e := (10, 5, qc)) 6 rfl rfl (hon 10 (by kernel_rfl)) rfl
   rw [Q_X10_ (hon 10 (by kernel_rfl))] at e5
   have e11 : a.tmps[11]? = some (.agg #[.int .i64 a1_0, .int .i64 a1_2]) := by rw [ha]; exact putSel_on (e := (4, 11, .agg #[.int .i64 a1_0, .int .i64 a1_2])) 2 rfl rfl (hon 4 (by kernel_rfl)) rfl
   replace ha := Aside0.mk ha
   have q0 := Aside0.mk q6
   have q1 := Aside0.mk q7
   have q4 := Aside0.mk q8
   have HB := Aside0.mk Q_HB
   have qK := Aside0.mk (qx (hon 10 (by kernel_rfl)) (hon 11 (by kernel_rfl)))
   have qJ := Aside0.mk (qw (hon 10 (by kernel_rfl)) (hon 11 (by kernel_rfl)))
   have q9 := Aside0.mk (qf (hon 10 (by kernel_rfl)) hb_)
   have qU := Aside0.mk (qi (hon 10 (by kernel_rfl)))
   have qS := Aside0.mk (qg (hon 10 (by kernel_rfl)))
   have qF := Aside0.mk (qk (hon 10 (by kernel_rfl)))
   have qL := Aside0.mk (qq (hon 10 (by kernel_rfl)))
   have qH := Aside0.mk (qm (hon 10 (by kernel_rfl)))
   have qM := Aside0.mk (qr (hon 10 (by kernel_rfl)))
   have qC := Aside0.mk (qo (hon 10 (by kernel_rfl)))
   have qz := Aside0.mk (qs (hon 10 (by kernel_rfl)))
   have qa := Aside0.mk (qe (hon 11 (by kernel_rfl)) (hoff 13 (by kernel_rfl)))
   have qV := Aside0.mk (qj (hon 11 (by kernel_rfl)))
   have qT := Aside0.mk (qh (hon 11 (by kernel_rfl)))
   have qG := Aside0.mk (ql (hon 11 (by kernel_rfl)))
   have qN := Aside0.mk (qt (hon 11 (by kernel_rfl)))
   have qI := Aside0.mk (qn (hon 11 (by kernel_rfl)))
   have qO := Aside0.mk (qu (hon 11 (by kernel_rfl)))
   have qD := Aside0.mk (qp (hon 11 (by kernel_rfl)))
   have qA := Aside0.mk (qv (hon 11 (by kernel_rfl)))
   have gg : w'.cell? ⟨q2, 0, none⟩ = some (.int .i64 0) := (blk_cell q9.out 0).trans rfl
   have jf := blk_frozen q9.out 0
   have jO := qF.out
   have jP := qH.out
   have jQ := qC.out
   have jR := qK.out
   have jm := qL.out
   have jn := qM.out
   have jo := qz.out
   have jp := qJ.out
   have gh : w'.cell? ⟨q2, 1, none⟩ = some (.int .i64 0) := (blk_cell q9.out 1).trans rfl
   have jg := blk_frozen q9.out 1
   have jS := qF.out
   have jT := qH.out
   have jU := qC.out
   have jV := qK.out
   have jq := qL.out
   have jr := qM.out
   have js := qz.out
   have jt := qJ.out
   refine skip_ (w1 := ?_) (by rfl) rfl ?_ ?_
   rotate_left
   ·go_simp
    rfl
   refine hK.out _ _ ⟨q2, q3, qc, qd, (by rw [ha.out]; exact putSel_none (v := undef) rfl), (by (with_reducible repeat (first | refine blk_drewN ?_ _ | refine blk_drew ?_ | refine blk_alloc ?_ _)); refine blk_far ?_ qF.out _; (with_reducible repeat (first | refine blk_drewN ?_ _ | refine blk_drew ?_ | refine blk_alloc ?_ _)); refine blk_far ?_ qF.out _; (with_reducible repeat (first | refine blk_drewN ?_ _ | refine blk_drew ?_ | refine blk_alloc ?_ _)); exact q0.out), (by (with_reducible repeat (first | refine blk_drewN ?_ _ | refine blk_drew ?_ | refine blk_alloc ?_ _)); refine blk_far ?_ qH.out _; (with_reducible repeat (first | refine blk_drewN ?_ _ | refine blk_drew ?_ | refine blk_alloc ?_ _)); refine blk_far ?_ qH.out _; (with_reducible repeat (first | refine blk_drewN ?_ _ | refine blk_drew ?_ | refine blk_alloc ?_ _)); exact q1.out), (by (with_reducible repeat (first | refine blk_drewN ?_ _ | refine blk_drew ?_ | refine blk_alloc ?_ _)); refine blk_far ?_ qC.out _; (with_reducible repeat (first | refine blk_drewN ?_ _ | refine blk_drew ?_ | refine blk_alloc ?_ _)); refine blk_far ?_ qC.out _; (with_reducible repeat (first | refine blk_drewN ?_ _ | refine blk_drew ?_ | refine blk_alloc ?_ _)); exact q4.out), (bnow HB), fun _ _ => qK.out, fun _ _ => qJ.out, fun _ h1_ => absurd ((up_self b 12).symm.trans h1_) (by decide), fun _ => qU.out, fun _ => qS.out, fun _ => qF.out, fun _ => qL.out, fun _ => qH.out, fun _ => qM.out, fun _ => qC.out, fun _ => qz.out, fun _ _ => (by (with_reducible repeat (first | refine blk_drewN ?_ _ | refine blk_drew ?_ | refine blk_alloc ?_ _)); refine blk_far ?_ qK.out _; (with_reducible repeat (first | refine blk_drewN ?_ _ | refine blk_drew ?_ | refine blk_alloc ?_ _)); refine blk_far ?_ qK.out _; (with_reducible repeat (first | refine blk_drewN ?_ _ | refine blk_drew ?_ | refine blk_alloc ?_ _)); exact qa.out), fun _ => qV.out, fun _ => qT.out, fun _ => qG.out, fun _ => qN.out, fun _ => qI.out, fun _ => qO.out, fun _ => qD.out, fun _ => qA.out, fun _ => (by (with_reducible repeat (first | refine blk_drewN ?_ _ | refine blk_drew ?_ | refine blk_alloc ?_ _)); refine blk_put (cs := #[.int .i64 a1_0, .int .i64 0]) ?_ 1 _ rfl; (with_reducible repeat (first | refine blk_drewN ?_ _ | refine blk_drew ?_ | refine blk_alloc ?_ _)); refine blk_put (cs := #[.int .i64 0, .int .i64 0]) ?_ 0 _ rfl; (with_reducible repeat (first | refine blk_drewN ?_ _ | refine blk_drew ?_ | refine blk_alloc ?_ _)); exact q9.out), fun h0_ => absurd ((hoff 13 (by kernel_rfl)).symm.trans h0_) (by decide), Q_X10_, Q_X11_⟩
  refine steps_cons ?_ ?_
  ·rintro b a w' ⟨q2, q3, qc, qd, ha, q6, q7, q8, Q_HB, qx, qw, qf, qi, qg, qk, qq, qm, qr, qo, qs, qe, qj, qh, ql, qt, qn, qu, qp, qv, qy, qB, Q_X10_, Q_X11_⟩ hb_ hon hoff
   refine ⟨_, rfl, fun K hK => ?_⟩
   have e6 : a.tmps[6]? = some (qd) := by rw [ha]; exact putSel_on (e := (11, 6, qd)) 7 rfl rfl (hon 11 (by kernel_rfl)) rfl
   rw [Q_X11_ (hon 11 (by kernel_rfl))] at e6
   have e16 : a.tmps[16]? = some (.agg #[.int .i64 a1_1, .int .i64 a1_3]) := by rw [ha]; exact putSel_on (e := (9, 16, .agg #[.int .i64 a1_1, .int .i64 a1_3])) 5 rfl rfl (hon 9 (by kernel_rfl)) rfl
   replace ha := Aside0.mk ha
   have q0 := Aside0.mk q6
   have q1 := Aside0.mk q7
   have q4 := Aside0.mk q8
   have HB := Aside0.mk Q_HB
   have qK := Aside0.mk (qx (hon 10 (by kernel_rfl)) (hon 11 (by kernel_rfl)))
   have qJ := Aside0.mk (qw (hon 10 (by kernel_rfl)) (hon 11 (by kernel_rfl)))
   have qU := Aside0.mk (qi (hon 10 (by kernel_rfl)))
   have qS := Aside0.mk (qg (hon 10 (by kernel_rfl)))
   have qF := Aside0.mk (qk (hon 10 (by kernel_rfl)))
   have qL := Aside0.mk (qq (hon 10 (by kernel_rfl)))
   have qH := Aside0.mk (qm (hon 10 (by kernel_rfl)))
   have qM := Aside0.mk (qr (hon 10 (by kernel_rfl)))
   have qC := Aside0.mk (qo (hon 10 (by kernel_rfl)))
   have qz := Aside0.mk (qs (hon 10 (by kernel_rfl)))
   have qa := Aside0.mk (qe (hon 11 (by kernel_rfl)) hb_)
   have qV := Aside0.mk (qj (hon 11 (by kernel_rfl)))
   have qT := Aside0.mk (qh (hon 11 (by kernel_rfl)))
   have qG := Aside0.mk (ql (hon 11 (by kernel_rfl)))
   have qN := Aside0.mk (qt (hon 11 (by kernel_rfl)))
   have qI := Aside0.mk (qn (hon 11 (by kernel_rfl)))
   have qO := Aside0.mk (qu (hon 11 (by kernel_rfl)))
   have qD := Aside0.mk (qp (hon 11 (by kernel_rfl)))
   have qA := Aside0.mk (qv (hon 11 (by kernel_rfl)))
   have q9 := Aside0.mk (qy (hon 12 (by kernel_rfl)))
   have gi : w'.cell? ⟨q3, 0, none⟩ = some (.int .i64 0) := (blk_cell qa.out 0).trans rfl
   have jh := blk_frozen qa.out 0
   have jW := qG.out
   have jX := qI.out
   have jY := qD.out
   have jZ := qJ.out
   have ju := qN.out
   have jv := qO.out
   have jw := qA.out
   have jx := qK.out
   have gj : w'.cell? ⟨q3, 1, none⟩ = some (.int .i64 0) := (blk_cell qa.out 1).trans rfl
   have ji := blk_frozen qa.out 1
   have g0 := qG.out
   have g1 := qI.out
   have g2 := qD.out
   have g3 := qJ.out
   have jy := qN.out
   have jz := qO.out
   have jA := qA.out
   have jB := qK.out
   refine skip_ (w1 := ?_) (by rfl) rfl ?_ ?_
   rotate_left
   ·go_simp
    rfl
   refine hK.out _ _ ⟨q2, q3, qc, qd, (by rw [ha.out]; exact putSel_none (v := undef) rfl), (by (with_reducible repeat (first | refine blk_drewN ?_ _ | refine blk_drew ?_ | refine blk_alloc ?_ _)); refine blk_far ?_ qG.out _; (with_reducible repeat (first | refine blk_drewN ?_ _ | refine blk_drew ?_ | refine blk_alloc ?_ _)); refine blk_far ?_ qG.out _; (with_reducible repeat (first | refine blk_drewN ?_ _ | refine blk_drew ?_ | refine blk_alloc ?_ _)); exact q0.out), (by (with_reducible repeat (first | refine blk_drewN ?_ _ | refine blk_drew ?_ | refine blk_alloc ?_ _)); refine blk_far ?_ qI.out _; (with_reducible repeat (first | refine blk_drewN ?_ _ | refine blk_drew ?_ | refine blk_alloc ?_ _)); refine blk_far ?_ qI.out _; (with_reducible repeat (first | refine blk_drewN ?_ _ | refine blk_drew ?_ | refine blk_alloc ?_ _)); exact q1.out), (by (with_reducible repeat (first | refine blk_drewN ?_ _ | refine blk_drew ?_ | refine blk_alloc ?_ _)); refine blk_far ?_ qD.out _; (with_reducible repeat (first | refine blk_drewN ?_ _ | refine blk_drew ?_ | refine blk_alloc ?_ _)); refine blk_far ?_ qD.out _; (with_reducible repeat (first | refine blk_drewN ?_ _ | refine blk_drew ?_ | refine blk_alloc ?_ _)); exact q4.out), (bnow HB), fun _ _ => qK.out, fun _ _ => qJ.out, fun _ h1_ => absurd ((hon 12 (by kernel_rfl)).symm.trans h1_) (by decide), fun _ => qU.out, fun _ => qS.out, fun _ => qF.out, fun _ => qL.out, fun _ => qH.out, fun _ => qM.out, fun _ => qC.out, fun _ => qz.out, fun _ h1_ => absurd ((up_self b 13).symm.trans h1_) (by decide), fun _ => qV.out, fun _ => qT.out, fun _ => qG.out, fun _ => qN.out, fun _ => qI.out, fun _ => qO.out, fun _ => qD.out, fun _ => qA.out, fun _ => (by (with_reducible repeat (first | refine blk_drewN ?_ _ | refine blk_drew ?_ | refine blk_alloc ?_ _)); refine blk_far ?_ qJ.out _; (with_reducible repeat (first | refine blk_drewN ?_ _ | refine blk_drew ?_ | refine blk_alloc ?_ _)); refine blk_far ?_ qJ.out _; (with_reducible repeat (first | refine blk_drewN ?_ _ | refine blk_drew ?_ | refine blk_alloc ?_ _)); exact q9.out), fun _ => (by (with_reducible repeat (first | refine blk_drewN ?_ _ | refine blk_drew ?_ | refine blk_alloc ?_ _)); refine blk_put (cs := #[.int .i64 a1_1, .int .i64 0]) ?_ 1 _ rfl; (with_reducible repeat (first | refine blk_drewN ?_ _ | refine blk_drew ?_ | refine blk_alloc ?_ _)); refine blk_put (cs := #[.int .i64 0, .int .i64 0]) ?_ 0 _ rfl; (with_reducible repeat (first | refine blk_drewN ?_ _ | refine blk_drew ?_ | refine blk_alloc ?_ _)); exact qa.out), Q_X10_, Q_X11_⟩
  exact steps_nil
 rintro b a w16 hall ⟨q2, q3, qc, qd, ha, q6, q7, q8, Q_HB, qx, qw, qf, qi, qg, qk, qq, qm, qr, qo, qs, qe, qj, qh, ql, qt, qn, qu, qp, qv, qy, qB, Q_X10_, Q_X11_⟩
 clear q0 q1 q4 HB
 have hb1_ := hall 1 (by kernel_rfl)
 have hb3_ := hall 3 (by kernel_rfl)
 have hb4_ := hall 4 (by kernel_rfl)
 have hb6_ := hall 6 (by kernel_rfl)
 have hb8_ := hall 8 (by kernel_rfl)
 have hb9_ := hall 9 (by kernel_rfl)
 have hb10_ := hall 10 (by kernel_rfl)
 have hb11_ := hall 11 (by kernel_rfl)
 have hb12_ := hall 12 (by kernel_rfl)
 have hb13_ := hall 13 (by kernel_rfl)
 subst ha
 obtain rfl := Q_X10_ hb10_
 obtain rfl := Q_X11_ hb11_
 simp only [putSel, hb1_, hb3_, hb4_, hb6_, hb8_, hb9_, hb10_, hb11_, hb12_, hb13_, if_true, Act.put, List.setIfInBounds_toArray, List.set_cons_zero, List.set_cons_succ]
 have q0 := Aside0.mk q6
 clear q6
 have q1 := Aside0.mk q7
 clear q7
 have q4 := Aside0.mk q8
 clear q8
 have HB := Aside0.mk Q_HB
 clear Q_HB
 have qK := Aside0.mk (qx hb10_ hb11_)
 clear qx
 have qJ := Aside0.mk (qw hb10_ hb11_)
 clear qw
 clear qf
 have qU := Aside0.mk (qi hb10_)
 clear qi
 have qS := Aside0.mk (qg hb10_)
 clear qg
 have qF := Aside0.mk (qk hb10_)
 clear qk
 have qL := Aside0.mk (qq hb10_)
 clear qq
 have qH := Aside0.mk (qm hb10_)
 clear qm
 have qM := Aside0.mk (qr hb10_)
 clear qr
 have qC := Aside0.mk (qo hb10_)
 clear qo
 have qz := Aside0.mk (qs hb10_)
 clear qs
 clear qe
 have qV := Aside0.mk (qj hb11_)
 clear qj
 have qT := Aside0.mk (qh hb11_)
 clear qh
 have qG := Aside0.mk (ql hb11_)
 clear ql
 have qN := Aside0.mk (qt hb11_)
 clear qt
 have qI := Aside0.mk (qn hb11_)
 clear qn
 have qO := Aside0.mk (qu hb11_)
 clear qu
 have qD := Aside0.mk (qp hb11_)
 clear qp
 have qA := Aside0.mk (qv hb11_)
 clear qv
 have q9 := Aside0.mk (qy hb12_)
 clear qy
 have qa := Aside0.mk (qB hb13_)
 clear qB
 clear hall hb1_ hb3_ hb4_ hb6_ hb8_ hb9_ hb10_ hb11_ hb12_ hb13_
 try go_wp2
 replace q0 := bd q0
 replace q1 := bd q1
 replace q4 := bd q4
 replace q9 := bd q9
 replace qa := bd qa
 replace HB := bdn HB
 refine start_ (n := 14) (S := fun w' => w'.cell? ⟨q2, 0, none⟩ = some (.int .i64 a1_0) ∧ w'.cell? ⟨q2, 1, none⟩ = some (.int .i64 a1_2) ∧ w'.cell? ⟨qP, 0, none⟩ = some (.int .i64 a0_0) ∧ w'.cell? ⟨qP, 1, none⟩ = some (.int .i64 a0_1) ∧ w'.cell? ⟨qP, 2, none⟩ = some (.int .i64 a0_2) ∧ w'.cell? ⟨q3, 0, none⟩ = some (.int .i64 a1_1) ∧ w'.cell? ⟨q3, 1, none⟩ = some (.int .i64 a1_3)) (ds := []) #[false, false, false, false, false, false, false, false, false, false, false, false, false, false] (by kernel_rfl) rfl rfl ⟨(blk_cell q9.out 0).trans rfl, (blk_cell q9.out 1).trans rfl, (blk_cell q0.out 0).trans rfl, (blk_cell q0.out 1).trans rfl, (blk_cell q0.out 2).trans rfl, (blk_cell qa.out 0).trans rfl, (blk_cell qa.out 1).trans rfl⟩ (fun hHeld => ?_); refine with_tabW grids_lead.tab2 grids_lead.bits2 (fun HT_ HW_ => ?_)
 generalize w16.drew = w17 at q0 q1 q4 q9 qa HB hHeld ⊢
 refine tz 0 17 HT_ HW_ hHeld ?_
 refine tz 1 18 HT_ HW_ hHeld ?_
 refine tz 2 19 HT_ HW_ hHeld ?_
 refine tz 4 21 HT_ HW_ hHeld ?_
 refine tz 5 22 HT_ HW_ hHeld ?_
 refine tz 6 23 HT_ HW_ hHeld ?_
 refine tz 8 25 HT_ HW_ hHeld ?_
 refine tz 9 26 HT_ HW_ hHeld ?_
 refine tz 10 27 HT_ HW_ hHeld ?_
 refine one_ (i := 3) (N := some 20) #[true, true, true, true, true, true, true, false, true, true, true, false, false, false] rfl rfl (one_of HT_.out (by kernel_rfl)) (by decide) (fun K hK => ?_)
 refine gs _ Try.func80 (grids_step_product.calls a1_0 a1_2 a0_0 a0_1 a0_2 a1_0 a1_2 qQ _ A3.out) ?_
 rintro e w18 ⟨rfl, hb⟩
 refine ⟨_, rfl, ?_⟩
 replace q0 := bb q0 hb
 replace q1 := bb q1 hb
 replace q4 := bb q4 hb
 replace q9 := bb q9 hb
 replace qa := bb qa hb
 replace HB := bst HB hb
 (try clear hb)
 (try clear hb2)
 (try clear hk)
 (try clear hi)
 refine hK.out _ _ ⟨(blk_cell q9.out 0).trans rfl, (blk_cell q9.out 1).trans rfl, (blk_cell q0.out 0).trans rfl, (blk_cell q0.out 1).trans rfl, (blk_cell q0.out 2).trans rfl, (blk_cell qa.out 0).trans rfl, (blk_cell qa.out 1).trans rfl⟩ (fun hHeld => ?_)
 clear hK K
 refine norm_ (a' := ?_) ?_ ?_
 rotate_left
 ·show Act.put _ (some 20) _ = _
  simp only [Act.put, List.setIfInBounds_toArray, List.set_cons_zero, List.set_cons_succ, i64_w, i32_w]
  rfl
 refine one_ (i := 7) (N := some 24) #[true, true, true, true, true, true, true, true, true, true, true, false, false, false] rfl rfl (one_of HT_.out (by kernel_rfl)) (by decide) (fun K hK => ?_)
 refine gs _ Try.func80 (grids_step_product.calls a1_0 a1_2 a0_0 a0_1 a0_2 a1_1 a1_3 qR _ A4.out) ?_
 rintro e w19 ⟨rfl, hb⟩
 refine ⟨_, rfl, ?_⟩
 replace q0 := bb q0 hb
 replace q1 := bb q1 hb
 replace q4 := bb q4 hb
 replace q9 := bb q9 hb
 replace qa := bb qa hb
 replace HB := bst HB hb
 (try clear hb)
 (try clear hb2)
 (try clear hk)
 (try clear hi)
 refine hK.out _ _ ⟨(blk_cell q9.out 0).trans rfl, (blk_cell q9.out 1).trans rfl, (blk_cell q0.out 0).trans rfl, (blk_cell q0.out 1).trans rfl, (blk_cell q0.out 2).trans rfl, (blk_cell qa.out 0).trans rfl, (blk_cell qa.out 1).trans rfl⟩ (fun hHeld => ?_)
 clear hK K
 refine norm_ (a' := ?_) ?_ ?_
 rotate_left
 ·show Act.put _ (some 24) _ = _
  simp only [Act.put, List.setIfInBounds_toArray, List.set_cons_zero, List.set_cons_succ, i64_w, i32_w]
  rfl
 refine one_ (i := 11) (N := some 28) #[true, true, true, true, true, true, true, true, true, true, true, true, false, false] rfl rfl (one_of HT_.out (by kernel_rfl)) (by decide) (fun K hK => ?_)
 refine gs _ Try.func80 (grids_step_product.calls a1_1 a1_3 a0_0 a0_1 a0_2 a1_1 a1_3 qW _ A5.out) ?_
 rintro e w20 ⟨rfl, hb⟩
 refine ⟨_, rfl, ?_⟩
 replace q0 := bb q0 hb
 replace q1 := bb q1 hb
 replace q4 := bb q4 hb
 replace q9 := bb q9 hb
 replace qa := bb qa hb
 replace HB := bst HB hb
 (try clear hb)
 (try clear hb2)
 (try clear hk)
 (try clear hi)
 refine hK.out _ _ ⟨(blk_cell q9.out 0).trans rfl, (blk_cell q9.out 1).trans rfl, (blk_cell q0.out 0).trans rfl, (blk_cell q0.out 1).trans rfl, (blk_cell q0.out 2).trans rfl, (blk_cell qa.out 0).trans rfl, (blk_cell qa.out 1).trans rfl⟩ (fun hHeld => ?_)
 clear hK K
 refine norm_ (a' := ?_) ?_ ?_
 rotate_left
 ·show Act.put _ (some 28) _ = _
  simp only [Act.put, List.setIfInBounds_toArray, List.set_cons_zero, List.set_cons_succ, i64_w, i32_w]
  rfl
 refine pz 12 29 HT_ ?_
 refine one_ (i := 13) (N := none) #[true, true, true, true, true, true, true, true, true, true, true, true, true, true] rfl rfl (one_of HT_.out (by kernel_rfl)) (by decide) (fun K hK => ?_)
 have gk : w20.cell? ⟨q5, 0, none⟩ = some (.int .i64 0) := (blk_cell q4.out 0).trans rfl
 have jj := blk_frozen q4.out 0
 have g4 := qE.out
 have g5 := j0.out
 have g6 := qz.out
 have g7 := qA.out
 have jC := j1.out
 have jD := j2.out
 have jE := qC.out
 have jF := qD.out
 have gl : w20.cell? ⟨q5, 1, none⟩ = some (.int .i64 0) := (blk_cell q4.out 1).trans rfl
 have jk := blk_frozen q4.out 1
 have g8 := qE.out
 have g9 := j0.out
 have ga := qz.out
 have gb := qA.out
 have jG := j1.out
 have jH := j2.out
 have jI := qC.out
 have jJ := qD.out
 have gm : w20.cell? ⟨q5, 2, none⟩ = some (.int .i64 0) := (blk_cell q4.out 2).trans rfl
 have jl := blk_frozen q4.out 2
 have gc := qE.out
 have gd := j0.out
 have ge := qz.out
 have gf := qA.out
 have jK := j1.out
 have jL := j2.out
 have jM := qC.out
 have jN := qD.out
 refine skip_ (w1 := ?_) (by rfl) rfl ?_ ?_
 rotate_left
 ·go_simp
  rfl
 refine hK.out _ _ ⟨((cell_far (p := ⟨q5, _, none⟩) qz.out _).trans (((cell_far (p := ⟨q5, _, none⟩) qz.out _).trans (((cell_far (p := ⟨q5, _, none⟩) qz.out _).trans (hHeld.1)))))), ((cell_far (p := ⟨q5, _, none⟩) qz.out _).trans (((cell_far (p := ⟨q5, _, none⟩) qz.out _).trans (((cell_far (p := ⟨q5, _, none⟩) qz.out _).trans (hHeld.2.1)))))), ((cell_far (p := ⟨q5, _, none⟩) qE.out _).trans (((cell_far (p := ⟨q5, _, none⟩) qE.out _).trans (((cell_far (p := ⟨q5, _, none⟩) qE.out _).trans (hHeld.2.2.1)))))), ((cell_far (p := ⟨q5, _, none⟩) qE.out _).trans (((cell_far (p := ⟨q5, _, none⟩) qE.out _).trans (((cell_far (p := ⟨q5, _, none⟩) qE.out _).trans (hHeld.2.2.2.1)))))), ((cell_far (p := ⟨q5, _, none⟩) qE.out _).trans (((cell_far (p := ⟨q5, _, none⟩) qE.out _).trans (((cell_far (p := ⟨q5, _, none⟩) qE.out _).trans (hHeld.2.2.2.2.1)))))), ((cell_far (p := ⟨q5, _, none⟩) qA.out _).trans (((cell_far (p := ⟨q5, _, none⟩) qA.out _).trans (((cell_far (p := ⟨q5, _, none⟩) qA.out _).trans (hHeld.2.2.2.2.2.1)))))), ((cell_far (p := ⟨q5, _, none⟩) qA.out _).trans (((cell_far (p := ⟨q5, _, none⟩) qA.out _).trans (((cell_far (p := ⟨q5, _, none⟩) qA.out _).trans (hHeld.2.2.2.2.2.2))))))⟩ (fun hHeld => ?_)
 clear hK K
 refine done_ (done_of HT_.out (by kernel_rfl)) ?_
 try go_wp2
 refine bodyPost_ret (results_cell_row rfl _ _ q5 23 #[.int .i64 qQ, .int .i64 qR, .int .i64 qW] (0, 0) _ rfl (by (with_reducible repeat (first | refine blk_drewN ?_ _ | refine blk_drew ?_ | refine blk_alloc ?_ _)); refine blk_put (cs := #[.int .i64 qQ, .int .i64 qR, .int .i64 0]) ?_ 2 _ rfl; (with_reducible repeat (first | refine blk_drewN ?_ _ | refine blk_drew ?_ | refine blk_alloc ?_ _)); refine blk_put (cs := #[.int .i64 qQ, .int .i64 0, .int .i64 0]) ?_ 1 _ rfl; (with_reducible repeat (first | refine blk_drewN ?_ _ | refine blk_drew ?_ | refine blk_alloc ?_ _)); refine blk_put (cs := #[.int .i64 0, .int .i64 0, .int .i64 0]) ?_ 0 _ rfl; (with_reducible repeat (first | refine blk_drewN ?_ _ | refine blk_drew ?_ | refine blk_alloc ?_ _)); exact q4.out) Try.underlying23 rfl (by kernel_rfl)) rfl ?_
 exact rt HB
end
section
attribute [local go_sem high] eqA23
/-! ### grids_group: function 39 -/
def grids_group.l0 : Nat → List (S25) → Int → Int → Int → Int → Option ((List (S25)))
 | 0, _, _, _, _, _ => none
 | k + 1, x3, x6, x169000, x169001, x169002 => if x6 < 81 then ((some (Int.tmod x6 3)).bind fun qh => ((some (wrap64 (qh - 1))).bind fun q3 => ((some (wrap64 (Int.tdiv x6 3))).bind fun qi => ((some (Int.tmod qi 3)).bind fun qj => ((some (wrap64 (qj - 1))).bind fun q4 => ((some (wrap64 (Int.tdiv x6 9))).bind fun qk => ((some (Int.tmod qk 3)).bind fun ql => ((some (wrap64 (ql - 1))).bind fun q5 => ((some (wrap64 (Int.tdiv x6 27))).bind fun qc => ((some (wrap64 (qc - 1))).bind fun q6 => ((grids_lead.f x169000 x169001 x169002 q3 q4 q5 q6).bind fun qg => (if (qg.1 == x169000 && (qg.2.1 == x169001 && (qg.2.2 == x169002))) = true then (if x3.length < 4398046511104 then ((some (wrap64 (x6 + 1))).bind fun qb => (grids_group.l0 k (x3 ++ [(⟨q3, q4, q5, q6⟩ : S25)]) qb x169000 x169001 x169002)) else (none)) else ((some (wrap64 (x6 + 1))).bind fun qd => (grids_group.l0 k x3 qd x169000 x169001 x169002)))))))))))))) else (some x3)
def grids_group.f (k : Nat) (a0_0 : Int) (a0_1 : Int) (a0_2 : Int) : Option ((List (S25))) := grids_group.l0 k ([] : List (S25)) 0 a0_0 a0_1 a0_2
theorem grids_group.mono_l : ∀ k, (∀ y0 y1 y2 y3 y4, LeO (grids_group.l0 k y0 y1 y2 y3 y4) (grids_group.l0 (k + 1) y0 y1 y2 y3 y4))
 | 0 => fun _ _ _ _ _ r h => by simp [grids_group.l0] at h
 | k + 1 => by
  have ih0 := grids_group.mono_l k
  ·intro y0 y1 y2 y3 y4
   unfold grids_group.l0
   repeat' first
   | (with_reducible exact ih0 _ _ _ _ _)
   | (with_reducible exact LeO.refl _)
   | (with_reducible exact LeO.none _)
   | (with_reducible refine LeO.ite ?_ ?_)
   | (with_reducible refine LeO.bind ?_ (fun _ => ?_))
   | exact ih0 _ _ _ _ _
   | exact LeO.none _
   | refine LeO.ite ?_ ?_
   | refine LeO.bind ?_ (fun _ => ?_)
theorem grids_group.mono : ∀ a0 a1 a2 k, LeO (grids_group.f k a0 a1 a2) (grids_group.f (k + 1) a0 a1 a2) := by
 intro a0 a1 a2 k
 have ih0 := grids_group.mono_l k
 unfold grids_group.f
 repeat' first
   | (with_reducible exact ih0 _ _ _ _ _)
   | (with_reducible exact LeO.refl _)
   | (with_reducible exact LeO.none _)
   | (with_reducible refine LeO.ite ?_ ?_)
   | (with_reducible refine LeO.bind ?_ (fun _ => ?_))
   | exact ih0 _ _ _ _ _
   | exact LeO.none _
   | refine LeO.ite ?_ ?_
   | refine LeO.bind ?_ (fun _ => ?_)
set_option maxHeartbeats 8000000 in
set_option maxRecDepth 100000 in
theorem grids_group.calls (k : Nat) (a0_0 : Int) (a0_1 : Int) (a0_2 : Int) (r : List (S25)) (w : World) (h : grids_group.f k a0_0 a0_1 a0_2 = some r) :
  Calls Try.prog 39 #[.agg #[.int .i64 a0_0, .int .i64 a0_1, .int .i64 a0_2]] w fun e w' => ∃ v0_ : Value, e = .returned (v0_) ∧ Kd.R k25 25 w' w.heap.size (fun _ => True) v0_ r ∧ Below w.heap.size w w' := by
 have hu23 := Try.underlying23
 have hu25 := Try.underlying25
 have HB := Aside0.mk (Below.refl w.heap.size w)
 have H : (grids_group.l0 k ([] : List (S25)) 0 a0_0 a0_1 a0_2) = some r := h
 clear h
 have H' := Aside0.mk H
 clear H
 go_enter Try.func39, Try.ntmps39
 go_wp2_with (first | ((with_reducible refine gate_dst (N := 1) rfl ?_); refine bx 1 #[.int .i64 a0_0, .int .i64 a0_1, .int .i64 a0_2] 23 fun qa hg w2 q0 hb => ?_; have qv := gw hg HB; have qn := gw hg HB; replace HB := bst HB hb; clear hb hg))
 (try simp only [Act.put, List.setIfInBounds_toArray, List.set_cons_zero, List.set_cons_succ])
 go_loopg [3, 6] k (fun kq v3 v6 w' => ∃ (x3_1 : List (S25)) (x6_1 : Int), v6 = .int .i64 x6_1 ∧ Aside0 (grids_group.l0 kq x3_1 x6_1 a0_0 a0_1 a0_2 = some r) ∧ Aside0 (kq ≤ k) ∧ Aside0 (Kd.R k25 25 w' w.heap.size (fun _ => True) v3 x3_1) ∧ Aside0 (w'.heap[qa]? = some (.cells #[.int .i64 a0_0, .int .i64 a0_1, .int .i64 a0_2] 23 (0, 0))) ∧ Aside0 (Below w.heap.size w w'))
 case atStart => exact ⟨(([] : List (S25))), (0), (by first | rfl | (simp; done) | (simp [*]; done)), H', ⟨Nat.le_refl _⟩, ⟨by first | exact Kd.R_nil _ _ _ _ _ | exact Kd.N_nil _ _ _ _ _ | exact Kd.V_nil _ _ _ _ _ | exact Kd.Q_nil _ _ _ _ _ | exact Kd.S_nil _ _ _ _ _⟩, ⟨pk q0⟩, ⟨bnow HB⟩⟩
 case round =>
  clear H'
  try clear p2
  obtain ⟨x3_1, x6_1, rfl, HA, HK1, HO_3, q0, HB⟩ := hrel
  cases gk with
  | zero => exact absurd HA.out (by simp [grids_group.l0])
  | succ k1 =>
   have H := HA.out
   clear HA
   simp only [grids_group.l0] at H
   by_cases c3 : x6_1 < 81
   ·rw [if_pos c3] at H
    have qu : decide (x6_1 < 81) = true := decide_eq_true c3
    clear c3
    obtain ⟨qh, E40, H⟩ := oc H
    obtain ⟨q3, E50, H⟩ := oc H
    have E5w : (IntKind.i64.wrap (qh - 1)) = q3 := (i64_w _).trans E50
    obtain ⟨qi, E60, H⟩ := oc H
    have E6w : (IntKind.i64.wrap (Int.tdiv x6_1 3)) = qi := (i64_w _).trans E60
    obtain ⟨qj, E70, H⟩ := oc H
    obtain ⟨q4, E80, H⟩ := oc H
    have E8w : (IntKind.i64.wrap (qj - 1)) = q4 := (i64_w _).trans E80
    obtain ⟨qk, E90, H⟩ := oc H
    have E9w : (IntKind.i64.wrap (Int.tdiv x6_1 9)) = qk := (i64_w _).trans E90
    obtain ⟨ql, E100, H⟩ := oc H
    obtain ⟨q5, E110, H⟩ := oc H
    have E11w : (IntKind.i64.wrap (ql - 1)) = q5 := (i64_w _).trans E110
    obtain ⟨qc, E120, H⟩ := oc H
    have E12w : (IntKind.i64.wrap (Int.tdiv x6_1 27)) = qc := (i64_w _).trans E120
    obtain ⟨q6, E130, H⟩ := oc H
    have E13w : (IntKind.i64.wrap (qc - 1)) = q6 := (i64_w _).trans E130
    obtain ⟨⟨q7, q8, q9⟩, A14, H⟩ := ob H
    by_cases c15 : (q7 == a0_0 && (q8 == a0_1 && (q9 == a0_2))) = true
    ·rw [if_pos c15] at H
     have qr : (q7 == a0_0 && (q8 == a0_1 && (q9 == a0_2))) = true := c15
     (try (have qs : decide (q7 = a0_0 && (q8 == a0_1 && (q9 == a0_2))) = true := by simpa using c15))
     (try (have qt : (q7 == a0_0 && (q8 == a0_1 && (q9 == a0_2))) = true := by simpa using c15))
     clear c15
     by_cases c16 : x3_1.length < 4398046511104
     ·rw [if_pos c16] at H
      have LMc16 := Aside0.mk c16
      clear c16
      obtain ⟨qm, hy183⟩ : ∃ y_ : List (S25), y_ = (x3_1 ++ [(⟨q3, q4, q5, q6⟩ : S25)]) := ⟨_, rfl⟩
      replace H : ((some (wrap64 (x6_1 + 1))).bind fun qb => (grids_group.l0 k1 qm qb a0_0 a0_1 a0_2)) = some r := by first | (rw [hy183]; with_reducible exact H) | (have H2_ := (Option.bind_some _ _).symm.trans H; rw [hy183]; with_reducible exact H2_) | (have H2_ := (Option.bind_some _ _).symm.trans H; with_reducible exact H2_) | with_reducible exact H | (rw [hy183]; exact H) | exact H
      have Ny183 := Aside0.mk hy183
      clear hy183
      obtain ⟨qb, E170, H⟩ := oc H
      have E17w : (IntKind.i64.wrap (x6_1 + 1)) = qb := (i64_w _).trans E170
      have H' := Aside0.mk H
      clear H
      try go_wp2_with (first | ((with_reducible refine gate_dst (N := 5) rfl ?_); refine box_event ?hg (N := 5) ?hd (cs := #[.int .i64 0, .int .i64 0, .int .i64 0, .int .i64 0]) (t := 25) ?hr ?_; (case hd => rfl); (case hg => rfl); (case hr => first | (go_simp; done) | (go_simp; rfl)); intro q2 hg w18 hbox hb; have q1 := Aside0.mk (hbox); have qp := gw hg HB; have qo := gw hg HB; have qe := nlt hg q0; have qf := ngt hg q0; replace HO_3 := Aside0.mk (Kd.R_below (Kd.R_elderB (by (with_reducible repeat (first | apply Kd.R_alloc | apply Kd.R_drewN | apply Kd.R_drew)); exact HO_3.out) q2 (Nat.le_of_eq hg.symm)) hb); replace q0 := bb q0 hb; replace HB := bst HB hb; clear hb hg; have qV := qf.out; have qX := qe.out; have ⟨qx, qy, qz, qA, qJ, qK, qL, qM⟩ := cf4 q1) | ((with_reducible refine gate_store (t := 25) (p := 5) rfl ?_); refine sx 25 5 (((((w18.setCell ⟨q2, 0, none⟩ (.int .i64 q3)).setCell ⟨q2, 1, none⟩ (.int .i64 q4)).setCell ⟨q2, 2, none⟩ (.int .i64 q5)).setCell ⟨q2, 3, none⟩ (.int .i64 q6))) fun w21 hw => ?_; have n0_ : Aside0 (Kd.R k25 25 w21 w.heap.size (fun k_ => k_ ≠ q2) u3 x3_1) := ⟨(by rw [hw]; exact (by (with_reducible repeat (first | apply Kd.R_alloc | apply Kd.R_drewN | apply Kd.R_drew)); exact Kd.R_mono (Kd.R_far (p := ⟨q2, 3, none⟩) (Kd.R_far (p := ⟨q2, 2, none⟩) (Kd.R_far (p := ⟨q2, 1, none⟩) (Kd.R_far (p := ⟨q2, 0, none⟩) (Kd.R_mono HO_3.out (fun k_ hk => (⟨hk, hk.2⟩ : _ ∧ k_ ≠ q2))) (fun _ hk => hk.2) (.int .i64 q3)) (fun _ hk => hk.2) (.int .i64 q4)) (fun _ hk => hk.2) (.int .i64 q5)) (fun _ hk => hk.2) (.int .i64 q6)) (fun _ hk => hk.1.2)))⟩; have n1_ := fw hw q0; have n2_ := pw4 hw q1; have n3_ := bw hw HB; clear hw; clear HO_3; clear q0; clear q1; clear HB; have HO_3 := n0_; have q0 := n1_; have q1 := n2_; have HB := n3_; clear n0_ n1_ n2_ n3_))
      replace HO_3 := Aside0.mk (Kd.R_drew HO_3.out)
      replace q0 := bd q0
      replace q1 := bd q1
      replace HB := bdn HB
      refine start_ (n := 5) (S := fun w' => w'.cell? ⟨qa, 0, none⟩ = some (.int .i64 a0_0) ∧ w'.cell? ⟨qa, 1, none⟩ = some (.int .i64 a0_1) ∧ w'.cell? ⟨qa, 2, none⟩ = some (.int .i64 a0_2) ∧ w'.cell? ⟨q2, 0, none⟩ = some (.int .i64 q3) ∧ w'.cell? ⟨q2, 1, none⟩ = some (.int .i64 q4) ∧ w'.cell? ⟨q2, 2, none⟩ = some (.int .i64 q5) ∧ w'.cell? ⟨q2, 3, none⟩ = some (.int .i64 q6)) (ds := []) #[false, false, false, false, false] (by kernel_rfl) rfl rfl ⟨(blk_cell q0.out 0).trans rfl, (blk_cell q0.out 1).trans rfl, (blk_cell q0.out 2).trans rfl, (blk_cell q1.out 0).trans rfl, (blk_cell q1.out 1).trans rfl, (blk_cell q1.out 2).trans rfl, (blk_cell q1.out 3).trans rfl⟩ (fun hHeld => ?_)
      generalize w21.drew = w22 at HO_3 q0 q1 HB hHeld ⊢
      refine take_ (i := 0) (N := some 24) (v := ?_) (a' := ?_) #[true, false, false, false, false] rfl rfl (by kernel_rfl) (fun _ _ _ h => h) (Or.inl ⟨by rfl, ?_⟩) hHeld ?_ ?_
      rotate_left
      ·rintro w' ⟨s0, s1, s2, s3, s4, s5, s6⟩
       go_simp
       with_reducible rfl
      rotate_left
      ·simp only [Act.put, List.setIfInBounds_toArray, List.set_cons_zero, List.set_cons_succ, i64_w, i32_w]
       rfl
      refine take_ (i := 1) (N := some 25) (v := ?_) (a' := ?_) #[true, true, false, false, false] rfl rfl (by kernel_rfl) (fun _ _ _ h => h) (Or.inl ⟨by rfl, ?_⟩) hHeld ?_ ?_
      rotate_left
      ·rintro w' ⟨s0, s1, s2, s3, s4, s5, s6⟩
       go_simp
       with_reducible rfl
      rotate_left
      ·simp only [Act.put, List.setIfInBounds_toArray, List.set_cons_zero, List.set_cons_succ, i64_w, i32_w]
       rfl
      refine take_ (i := 3) (N := some 27) (v := ?_) (a' := ?_) #[true, true, false, true, false] rfl rfl (by kernel_rfl) (fun _ _ _ h => h) (Or.inl ⟨by rfl, ?_⟩) hHeld ?_ ?_
      rotate_left
      ·rintro w' ⟨s0, s1, s2, s3, s4, s5, s6⟩
       go_simp
       with_reducible rfl
      rotate_left
      ·simp only [Act.put, List.setIfInBounds_toArray, List.set_cons_zero, List.set_cons_succ, i64_w, i32_w]
       rfl
      refine one_ (i := 2) (N := some 26) #[true, true, true, true, false] rfl rfl (by kernel_rfl) (by decide) (fun K hK => ?_)
      refine gs _ Try.func60 (grids_lead.calls a0_0 a0_1 a0_2 q3 q4 q5 q6 q7 q8 q9 _ A14.out) ?_
      rintro e w23 ⟨rfl, hb⟩
      refine ⟨_, rfl, ?_⟩
      have n0_ := Aside0.mk (Kd.R_below (by (with_reducible repeat (first | apply Kd.R_alloc | apply Kd.R_drewN | apply Kd.R_drew)); exact HO_3.out) hb)
      have n1_ := bb q0 hb
      have n2_ := bb q1 hb
      have n3_ := bst HB hb
      clear HO_3
      clear q0
      clear q1
      clear HB
      have HO_3 := n0_
      have q0 := n1_
      have q1 := n2_
      have HB := n3_
      clear n0_ n1_ n2_ n3_
      (try clear hb)
      (try clear hb2)
      (try clear hk)
      (try clear hi)
      refine hK.out _ _ ⟨(blk_cell q0.out 0).trans rfl, (blk_cell q0.out 1).trans rfl, (blk_cell q0.out 2).trans rfl, (blk_cell q1.out 0).trans rfl, (blk_cell q1.out 1).trans rfl, (blk_cell q1.out 2).trans rfl, (blk_cell q1.out 3).trans rfl⟩ (fun hHeld => ?_)
      clear hK K
      refine norm_ (a' := ?_) ?_ ?_
      rotate_left
      ·show Act.put _ (some 26) _ = _
       simp only [Act.put, List.setIfInBounds_toArray, List.set_cons_zero, List.set_cons_succ, i64_w, i32_w]
       rfl
      refine pure_ (i := 4) (N := some 28) (v := ?_) (a' := ?_) #[true, true, true, true, true] rfl rfl (by kernel_rfl) (fun _ _ _ h => h) (Or.inl ⟨by rfl, ?_⟩) ?_ ?_
      rotate_left
      ·intro w'
       go_simp
       with_reducible rfl
      rotate_left
      ·simp only [Act.put, List.setIfInBounds_toArray, List.set_cons_zero, List.set_cons_succ, i64_w, i32_w]
       rfl
      refine done_ (by kernel_rfl) ?_
      have ⟨qB, qC, qD, qE, qN, qO, qP, qQ⟩ := cf4 q1
      try go_wp2_with (first | ((with_reducible refine gate_builtin (b := .append) (xs := #[.tmp 29, .tmp 31]) rfl ?_); at_builtin; refine Kd.R_append k25 (w0 := w) w.heap.size rfl (.tmp 29) (.tmp 31) 48 25 (.agg #[(.int .i64 0), (.int .i64 0), (.int .i64 0), (.int .i64 0)]) 32 rfl Try.underlying48 info25 rfl (by decide) (by omega) u3 x3_1 (⟨q3, q4, q5, q6⟩ : S25) [.int .i64 q3, .int .i64 q4, .int .i64 q5, .int .i64 q6] (fun k_ => k_ ≠ q2) (fun _ => False) rfl rfl ?aP (fun _ hk => hk.elim) ?aF ?aO ?aB ?aS ?aL ?_; (case aP => exact k25_mkM _ _ _ (⟨q3, q4, q5, q6⟩ : S25)); (case aB => exact (bnow HB)); (case aF => exact (fun k_ hk => Kd.freshB (g := q2) (o := .cells #[.int .i64 q3, .int .i64 q4, .int .i64 q5, .int .i64 q6] 25 (0, 0)) (pk q1) k_ hk)); (case aO => exact (by (with_reducible repeat (first | apply Kd.R_alloc | apply Kd.R_drewN | apply Kd.R_drew)); exact HO_3.out)); (case aS => exact (below_size (bnow HB))); (case aL => have := LMc16.out; omega); intro v184 w25 ho hb hg hat; rw [← Ny183.out] at ho; have n0_ := Aside0.mk (blk_grown (g := qa) (o := .cells #[.int .i64 a0_0, .int .i64 a0_1, .int .i64 a0_2] 23 (0, 0)) (pk q0) hg (Kd.R_ne HO_3.out q0.out (by decide))); have n1_ := Aside0.mk (blk_grown (g := q2) (o := .cells #[.int .i64 q3, .int .i64 q4, .int .i64 q5, .int .i64 q6] 25 (0, 0)) (pk q1) hg (Kd.R_away HO_3.out (fun _ hk => hk))); have n2_ := Aside0.mk (hb); have n3_ := Aside0.mk (ho); clear q0; clear q1; clear HB; clear HO_3; have q0 := n0_; have q1 := n1_; have HB := n2_; have qq := n3_; clear n0_ n1_ n2_ n3_; clear ho hb hg hat))
      go_roundg k1
      case measure => have := HK1.out; omega
      case rel => exact ⟨(qm), (qb), (by first | rfl | (simp; done) | (simp [*]; done)), H', ⟨by have := HK1.out; omega⟩, ⟨by (with_reducible repeat (first | apply Kd.R_alloc | apply Kd.R_drewN | apply Kd.R_drew)); exact Kd.R_mono qq.out (fun _ hk => trivial)⟩, ⟨pk q0⟩, ⟨bnow HB⟩⟩
     ·rw [if_neg c16] at H
      exact absurd H (by simp)
    ·rw [if_neg c15] at H
     have qr : (q7 == a0_0 && (q8 == a0_1 && (q9 == a0_2))) = false := by simpa using c15
     (try (have qs : decide (q7 = a0_0 && (q8 == a0_1 && (q9 == a0_2))) = false := by simpa using c15))
     (try (have qt : (q7 == a0_0 && (q8 == a0_1 && (q9 == a0_2))) = false := by simpa using c15))
     (try (have qw : ¬ (q7 = a0_0 && (q8 == a0_1 && (q9 == a0_2))) := by simpa using c15))
     clear c15
     obtain ⟨qd, E260, H⟩ := oc H
     have E26w : (IntKind.i64.wrap (x6_1 + 1)) = qd := (i64_w _).trans E260
     have H' := Aside0.mk H
     clear H
     try go_wp2_with (first | ((with_reducible refine gate_dst (N := 5) rfl ?_); refine box_event ?hg (N := 5) ?hd (cs := #[.int .i64 0, .int .i64 0, .int .i64 0, .int .i64 0]) (t := 25) ?hr ?_; (case hd => rfl); (case hg => rfl); (case hr => first | (go_simp; done) | (go_simp; rfl)); intro q2 hg w27 hbox hb; have q1 := Aside0.mk (hbox); have qp := gw hg HB; have qo := gw hg HB; have qe := nlt hg q0; have qf := ngt hg q0; replace HO_3 := Aside0.mk (Kd.R_below (Kd.R_elderB (by (with_reducible repeat (first | apply Kd.R_alloc | apply Kd.R_drewN | apply Kd.R_drew)); exact HO_3.out) q2 (Nat.le_of_eq hg.symm)) hb); replace q0 := bb q0 hb; replace HB := bst HB hb; clear hb hg; have qW := qf.out; have qY := qe.out; have ⟨qF, qG, qH, qI, qR, qS, qT, qU⟩ := cf4 q1) | ((with_reducible refine gate_store (t := 25) (p := 5) rfl ?_); refine sx 25 5 (((((w27.setCell ⟨q2, 0, none⟩ (.int .i64 q3)).setCell ⟨q2, 1, none⟩ (.int .i64 q4)).setCell ⟨q2, 2, none⟩ (.int .i64 q5)).setCell ⟨q2, 3, none⟩ (.int .i64 q6))) fun w30 hw => ?_; have n0_ : Aside0 (Kd.R k25 25 w30 w.heap.size (fun k_ => k_ ≠ q2) u3 x3_1) := ⟨(by rw [hw]; exact (by (with_reducible repeat (first | apply Kd.R_alloc | apply Kd.R_drewN | apply Kd.R_drew)); exact Kd.R_mono (Kd.R_far (p := ⟨q2, 3, none⟩) (Kd.R_far (p := ⟨q2, 2, none⟩) (Kd.R_far (p := ⟨q2, 1, none⟩) (Kd.R_far (p := ⟨q2, 0, none⟩) (Kd.R_mono HO_3.out (fun k_ hk => (⟨hk, hk.2⟩ : _ ∧ k_ ≠ q2))) (fun _ hk => hk.2) (.int .i64 q3)) (fun _ hk => hk.2) (.int .i64 q4)) (fun _ hk => hk.2) (.int .i64 q5)) (fun _ hk => hk.2) (.int .i64 q6)) (fun _ hk => hk.1.2)))⟩; have n1_ := fw hw q0; have n2_ := pw4 hw q1; have n3_ := bw hw HB; clear hw; clear HO_3; clear q0; clear q1; clear HB; have HO_3 := n0_; have q0 := n1_; have q1 := n2_; have HB := n3_; clear n0_ n1_ n2_ n3_))
     replace HO_3 := Aside0.mk (Kd.R_drew HO_3.out)
     replace q0 := bd q0
     replace q1 := bd q1
     replace HB := bdn HB
     refine start_ (n := 5) (S := fun w' => w'.cell? ⟨qa, 0, none⟩ = some (.int .i64 a0_0) ∧ w'.cell? ⟨qa, 1, none⟩ = some (.int .i64 a0_1) ∧ w'.cell? ⟨qa, 2, none⟩ = some (.int .i64 a0_2) ∧ w'.cell? ⟨q2, 0, none⟩ = some (.int .i64 q3) ∧ w'.cell? ⟨q2, 1, none⟩ = some (.int .i64 q4) ∧ w'.cell? ⟨q2, 2, none⟩ = some (.int .i64 q5) ∧ w'.cell? ⟨q2, 3, none⟩ = some (.int .i64 q6)) (ds := []) #[false, false, false, false, false] (by kernel_rfl) rfl rfl ⟨(blk_cell q0.out 0).trans rfl, (blk_cell q0.out 1).trans rfl, (blk_cell q0.out 2).trans rfl, (blk_cell q1.out 0).trans rfl, (blk_cell q1.out 1).trans rfl, (blk_cell q1.out 2).trans rfl, (blk_cell q1.out 3).trans rfl⟩ (fun hHeld => ?_)
     generalize w30.drew = w31 at HO_3 q0 q1 HB hHeld ⊢
     refine take_ (i := 0) (N := some 24) (v := ?_) (a' := ?_) #[true, false, false, false, false] rfl rfl (by kernel_rfl) (fun _ _ _ h => h) (Or.inl ⟨by rfl, ?_⟩) hHeld ?_ ?_
     rotate_left
     ·rintro w' ⟨s0, s1, s2, s3, s4, s5, s6⟩
      go_simp
      with_reducible rfl
     rotate_left
     ·simp only [Act.put, List.setIfInBounds_toArray, List.set_cons_zero, List.set_cons_succ, i64_w, i32_w]
      rfl
     refine take_ (i := 1) (N := some 25) (v := ?_) (a' := ?_) #[true, true, false, false, false] rfl rfl (by kernel_rfl) (fun _ _ _ h => h) (Or.inl ⟨by rfl, ?_⟩) hHeld ?_ ?_
     rotate_left
     ·rintro w' ⟨s0, s1, s2, s3, s4, s5, s6⟩
      go_simp
      with_reducible rfl
     rotate_left
     ·simp only [Act.put, List.setIfInBounds_toArray, List.set_cons_zero, List.set_cons_succ, i64_w, i32_w]
      rfl
     refine take_ (i := 3) (N := some 27) (v := ?_) (a' := ?_) #[true, true, false, true, false] rfl rfl (by kernel_rfl) (fun _ _ _ h => h) (Or.inl ⟨by rfl, ?_⟩) hHeld ?_ ?_
     rotate_left
     ·rintro w' ⟨s0, s1, s2, s3, s4, s5, s6⟩
      go_simp
      with_reducible rfl
     rotate_left
     ·simp only [Act.put, List.setIfInBounds_toArray, List.set_cons_zero, List.set_cons_succ, i64_w, i32_w]
      rfl
     refine one_ (i := 2) (N := some 26) #[true, true, true, true, false] rfl rfl (by kernel_rfl) (by decide) (fun K hK => ?_)
     refine gs _ Try.func60 (grids_lead.calls a0_0 a0_1 a0_2 q3 q4 q5 q6 q7 q8 q9 _ A14.out) ?_
     rintro e w32 ⟨rfl, hb⟩
     refine ⟨_, rfl, ?_⟩
     have n0_ := Aside0.mk (Kd.R_below (by (with_reducible repeat (first | apply Kd.R_alloc | apply Kd.R_drewN | apply Kd.R_drew)); exact HO_3.out) hb)
     have n1_ := bb q0 hb
     have n2_ := bb q1 hb
     have n3_ := bst HB hb
     clear HO_3
     clear q0
     clear q1
     clear HB
     have HO_3 := n0_
     have q0 := n1_
     have q1 := n2_
     have HB := n3_
     clear n0_ n1_ n2_ n3_
     (try clear hb)
     (try clear hb2)
     (try clear hk)
     (try clear hi)
     refine hK.out _ _ ⟨(blk_cell q0.out 0).trans rfl, (blk_cell q0.out 1).trans rfl, (blk_cell q0.out 2).trans rfl, (blk_cell q1.out 0).trans rfl, (blk_cell q1.out 1).trans rfl, (blk_cell q1.out 2).trans rfl, (blk_cell q1.out 3).trans rfl⟩ (fun hHeld => ?_)
     clear hK K
     refine norm_ (a' := ?_) ?_ ?_
     rotate_left
     ·show Act.put _ (some 26) _ = _
      simp only [Act.put, List.setIfInBounds_toArray, List.set_cons_zero, List.set_cons_succ, i64_w, i32_w]
      rfl
     refine pure_ (i := 4) (N := some 28) (v := ?_) (a' := ?_) #[true, true, true, true, true] rfl rfl (by kernel_rfl) (fun _ _ _ h => h) (Or.inl ⟨by rfl, ?_⟩) ?_ ?_
     rotate_left
     ·intro w'
      go_simp
      with_reducible rfl
     rotate_left
     ·simp only [Act.put, List.setIfInBounds_toArray, List.set_cons_zero, List.set_cons_succ, i64_w, i32_w]
      rfl
     refine done_ (by kernel_rfl) ?_
     try go_wp2
     go_roundg k1
     case measure => have := HK1.out; omega
     case rel => exact ⟨(x3_1), (qd), (by first | rfl | (simp; done) | (simp [*]; done)), H', ⟨by have := HK1.out; omega⟩, ⟨by (with_reducible repeat (first | apply Kd.R_alloc | apply Kd.R_drewN | apply Kd.R_drew)); exact Kd.R_mono HO_3.out (fun _ hk => trivial)⟩, ⟨pk q0⟩, ⟨bnow HB⟩⟩
   ·rw [if_neg c3] at H
    have qu : decide (x6_1 < 81) = false := decide_eq_false c3
    clear c3
    obtain rfl := Option.some.inj H
    go_wp2
    go_ret
    exact ⟨_, by first | rfl | (simp [errW_none, errW_some] <;> rfl) | (simp [*, errW_none, errW_some] <;> rfl), by (with_reducible repeat (first | apply Kd.R_alloc | apply Kd.R_drewN | apply Kd.R_drew)); exact HO_3.out, by repeat (first | (with_reducible first | exact HB.out | apply below_alloc | apply pw_below_drewN | apply below_drew1 | refine below_set ?_ qn.out) | exact HB.out)⟩
end
section
/-! ### grids_det: function 68 -/
def grids_det.f (a0_0 : Int) (a0_1 : Int) (a0_2 : Int) (a0_3 : Int) : Option (Int) := (some (wrap64 (a0_0 * a0_3))).bind fun q0 => ((some (wrap64 (a0_1 * a0_2))).bind fun q1 => ((some (wrap64 (q0 - q1))).bind fun q2 => (some q2)))
set_option maxHeartbeats 8000000 in
set_option maxRecDepth 100000 in
theorem grids_det.calls (a0_0 : Int) (a0_1 : Int) (a0_2 : Int) (a0_3 : Int) (r : Int) (w : World) (h : grids_det.f a0_0 a0_1 a0_2 a0_3 = some r) :
  Calls Try.prog 68 #[.agg #[.int .i64 a0_0, .int .i64 a0_1, .int .i64 a0_2, .int .i64 a0_3]] w fun e w' => e = .returned (.int .i64 r) ∧ Below w.heap.size w w' := by
 have hu25 := Try.underlying25
 have HB := Aside0.mk (Below.refl w.heap.size w)
 have H : ((some (wrap64 (a0_0 * a0_3))).bind fun q0 => ((some (wrap64 (a0_1 * a0_2))).bind fun q1 => ((some (wrap64 (q0 - q1))).bind fun q2 => (some q2)))) = some r := h
 clear h
 obtain ⟨q0, E20, H⟩ := oc H
 have E2w : (IntKind.i64.wrap (a0_0 * a0_3)) = q0 := (i64_w _).trans E20
 obtain ⟨q1, E30, H⟩ := oc H
 have E3w : (IntKind.i64.wrap (a0_1 * a0_2)) = q1 := (i64_w _).trans E30
 obtain ⟨q2, E40, H⟩ := oc H
 have E4w : (IntKind.i64.wrap (q0 - q1)) = q2 := (i64_w _).trans E40
 obtain rfl := Option.some.inj H
 go_enter Try.func68, Try.ntmps68
 go_wp2_with (first | ((with_reducible refine gate_dst (N := 1) rfl ?_); refine bx 1 #[.int .i64 a0_0, .int .i64 a0_1, .int .i64 a0_2, .int .i64 a0_3] 25 fun q6 hg w5 q3 hb => ?_; have q5 := gw hg HB; have q4 := gw hg HB; replace HB := bst HB hb; clear hb hg; have ⟨q7, q8, q9, qa, qb, qc, qd, qe⟩ := cf4 q3))
 go_ret
 exact rt HB
end
section
/-! ### grids_inverse: function 57 -/
def grids_inverse.f (a0_0 : Int) (a0_1 : Int) (a0_2 : Int) (a0_3 : Int) : Option (Int × Int × Int × Int) := (grids_det.f a0_0 a0_1 a0_2 a0_3).bind fun q0 => ((some (wrap64 (q0 * a0_3))).bind fun q3 => ((some (wrap64 (-q0))).bind fun q2 => ((some (wrap64 (q2 * a0_1))).bind fun q4 => ((some (wrap64 (q2 * a0_2))).bind fun q5 => ((some (wrap64 (q0 * a0_0))).bind fun q6 => (some (q3, q4, q5, q6)))))))
set_option maxHeartbeats 8000000 in
set_option maxRecDepth 100000 in
theorem grids_inverse.calls (a0_0 : Int) (a0_1 : Int) (a0_2 : Int) (a0_3 : Int) (r1 : Int) (r2 : Int) (r3 : Int) (r4 : Int) (w : World) (h : grids_inverse.f a0_0 a0_1 a0_2 a0_3 = some (r1, r2, r3, r4)) :
  Calls Try.prog 57 #[.agg #[.int .i64 a0_0, .int .i64 a0_1, .int .i64 a0_2, .int .i64 a0_3]] w fun e w' => e = .returned (.agg #[.int .i64 r1, .int .i64 r2, .int .i64 r3, .int .i64 r4]) ∧ Below w.heap.size w w' := by
 have hu25 := Try.underlying25
 have HB := Aside0.mk (Below.refl w.heap.size w)
 have H : ((grids_det.f a0_0 a0_1 a0_2 a0_3).bind fun q0 => ((some (wrap64 (q0 * a0_3))).bind fun q3 => ((some (wrap64 (-q0))).bind fun q2 => ((some (wrap64 (q2 * a0_1))).bind fun q4 => ((some (wrap64 (q2 * a0_2))).bind fun q5 => ((some (wrap64 (q0 * a0_0))).bind fun q6 => (some (q3, q4, q5, q6)))))))) = some (r1, r2, r3, r4) := h
 clear h
 obtain ⟨q0, A2, H⟩ := ob H
 obtain ⟨q3, E30, H⟩ := oc H
 have E3w : (IntKind.i64.wrap (q0 * a0_3)) = q3 := (i64_w _).trans E30
 obtain ⟨q2, E40, H⟩ := oc H
 have E4w : (IntKind.i64.wrap (-q0)) = q2 := (i64_w _).trans E40
 obtain ⟨q4, E50, H⟩ := oc H
 have E5w : (IntKind.i64.wrap (q2 * a0_1)) = q4 := (i64_w _).trans E50
 obtain ⟨q5, E60, H⟩ := oc H
 have E6w : (IntKind.i64.wrap (q2 * a0_2)) = q5 := (i64_w _).trans E60
 obtain ⟨q6, E70, H⟩ := oc H
 have E7w : (IntKind.i64.wrap (q0 * a0_0)) = q6 := (i64_w _).trans E70
 simp only [Option.some.injEq, Prod.mk.injEq] at H
 obtain ⟨rfl, rfl, rfl, rfl⟩ := H
 go_enter Try.func57, Try.ntmps57
 go_wp2_with (first | ((with_reducible refine gate_dst (N := 1) rfl ?_); refine bx 1 #[.int .i64 a0_0, .int .i64 a0_1, .int .i64 a0_2, .int .i64 a0_3] 25 fun qf hg w8 q1 hb => ?_; have qd := gw hg HB; have qb := gw hg HB; replace HB := bst HB hb; clear hb hg) | ((with_reducible refine gate_dst (N := 2) rfl ?_); refine bx 2 #[.int .i64 0, .int .i64 0, .int .i64 0, .int .i64 0] 25 fun q8 hg w9 q7 hb => ?_; have qe := gw hg HB; have qc := gw hg HB; have q9 := nlt hg q1; have qa := ngt hg q1; replace q1 := bb q1 hb; replace HB := bst HB hb; clear hb hg; have qE := q9.out; have qF := qa.out; have ⟨qg, qh, qi, qj, qs, qt, qu, qv⟩ := cf4 q1) | ((with_reducible refine gate_callee (f := 68) rfl ?_); refine gl 5 Try.func68 (grids_det.calls a0_0 a0_1 a0_2 a0_3 q0 _ A2.out) ?_; rintro e w12 ⟨rfl, hb⟩; refine ⟨_, rfl, ?_⟩; replace q1 := bb q1 hb; replace q7 := bb q7 hb; replace HB := bst HB hb; clear hb; have ⟨qk, ql, qm, qn, qw, qx, qy, qz⟩ := cf4 q1; have ⟨qo, qp, qq, qr, qA, qB, qC, qD⟩ := cf4 q7) | ((with_reducible refine gate_store (t := 25) (p := 2) rfl ?_); refine sx 25 2 (((((w12.setCell ⟨q8, 0, none⟩ (.int .i64 q3)).setCell ⟨q8, 1, none⟩ (.int .i64 q4)).setCell ⟨q8, 2, none⟩ (.int .i64 q5)).setCell ⟨q8, 3, none⟩ (.int .i64 q6))) fun w15 hw => ?_; replace q1 := fw hw q1; replace q7 := pw4 hw q7; replace HB := bw hw HB; clear hw))
 refine bodyPost_ret (results_cell_row rfl _ _ q8 25 #[.int .i64 q3, .int .i64 q4, .int .i64 q5, .int .i64 q6] (0, 0) _ rfl (pk q7) Try.underlying25 rfl (by kernel_rfl)) rfl ?_
 exact rt HB
end
section
/-! ### bits_Len: function 82 -/
/-- How many bits a number below 16 has; beyond, nothing is told. -/
def bits_Len.f (a0 : Int) : Option (Int) := if 0 ≤ a0 then if a0 < 1 then some 0 else if a0 < 2 then some 1 else if a0 < 4 then some 2 else if a0 < 8 then some 3 else if a0 < 16 then some 4 else none else none
set_option maxHeartbeats 8000000 in
set_option maxRecDepth 100000 in
theorem bits_Len.calls (a0 : Int) (r : Int) (w : World) (h : bits_Len.f a0 = some r) :
  Calls Try.prog 82 #[.int .u64 a0] w fun e w' => e = .returned (.int .i64 r) ∧ Drawn0 w w' := by
 unfold bits_Len.f at h
 have hr : 0 ≤ a0 ∧ a0 < 16 := by
  repeat' split at h
  all_goals first | omega | (exact absurd h (by simp))
 have hc : a0 = 0 ∨ a0 = 1 ∨ a0 = 2 ∨ a0 = 3 ∨ a0 = 4 ∨ a0 = 5 ∨ a0 = 6 ∨ a0 = 7 ∨ a0 = 8 ∨ a0 = 9 ∨ a0 = 10 ∨ a0 = 11 ∨ a0 = 12 ∨ a0 = 13 ∨ a0 = 14 ∨ a0 = 15 := by omega
 clear hr
 rcases hc with rfl | rfl | rfl | rfl | rfl | rfl | rfl | rfl | rfl | rfl | rfl | rfl | rfl | rfl | rfl | rfl
 all_goals
  simp at h
  subst h
  go_enter Try.func82, Try.ntmps82
  go_wp2
  go_ret
  exact ⟨by kernel_rfl, by repeat (first | exact Drawn0.refl _ | apply Drawn0.step)⟩
end
section
/-! ### cmp_Or_int: function 51 -/
def cmp_Or_int.l0 : Nat → Int → List Int → Int → Int → Option (Int)
 | 0, _, _, _, _ => none
 | k + 1, x3, x6, x7, x8 => if x8 < x7 then (if 0 ≤ x8 then (if x8 < (x6.length : Int) then (if (rd x6 x8) = x3 then ((some (wrap64 (x8 + 1))).bind fun q2 => (cmp_Or_int.l0 k x3 x6 x7 q2)) else (some (rd x6 x8))) else (none)) else (none)) else (some x3)
def cmp_Or_int.f (k : Nat) (l0 : List Int) : Option (Int) := cmp_Or_int.l0 k 0 l0 (l0.length : Int) 0
theorem cmp_Or_int.mono_l : ∀ k, (∀ y0 y1 y2 y3, LeO (cmp_Or_int.l0 k y0 y1 y2 y3) (cmp_Or_int.l0 (k + 1) y0 y1 y2 y3))
 | 0 => fun _ _ _ _ r h => by simp [cmp_Or_int.l0] at h
 | k + 1 => by
  have ih0 := cmp_Or_int.mono_l k
  ·intro y0 y1 y2 y3
   unfold cmp_Or_int.l0
   repeat' first
   | (with_reducible exact ih0 _ _ _ _)
   | (with_reducible exact LeO.refl _)
   | (with_reducible exact LeO.none _)
   | (with_reducible refine LeO.ite ?_ ?_)
   | (with_reducible refine LeO.bind ?_ (fun _ => ?_))
   | exact ih0 _ _ _ _
   | exact LeO.none _
   | refine LeO.ite ?_ ?_
   | refine LeO.bind ?_ (fun _ => ?_)
theorem cmp_Or_int.mono : ∀ a0 k, LeO (cmp_Or_int.f k a0) (cmp_Or_int.f (k + 1) a0) := by
 intro a0 k
 have ih0 := cmp_Or_int.mono_l k
 unfold cmp_Or_int.f
 repeat' first
   | (with_reducible exact ih0 _ _ _ _)
   | (with_reducible exact LeO.refl _)
   | (with_reducible exact LeO.none _)
   | (with_reducible refine LeO.ite ?_ ?_)
   | (with_reducible refine LeO.bind ?_ (fun _ => ?_))
   | exact ih0 _ _ _ _
   | exact LeO.none _
   | refine LeO.ite ?_ ?_
   | refine LeO.bind ?_ (fun _ => ?_)
set_option maxHeartbeats 8000000 in
set_option maxRecDepth 100000 in
theorem cmp_Or_int.calls (k : Nat) (A0 : Option Addr) (c0 : Nat) (l0 : List Int) (r : Int) (w : World) (hr0 : Kd.C (Kd.int .i64) w A0 l0.length l0) (hc0 : l0.length ≤ c0) (h : cmp_Or_int.f k l0 = some r) :
  Calls Try.prog 51 #[.slice A0 l0.length c0] w fun e w' => e = .returned (.int .i64 r) ∧ Drawn0 w w' := by
 have HR0 := Aside0.mk hr0
 have HC0 := Aside0.mk hc0
 clear hr0 hc0
 have H : (cmp_Or_int.l0 k 0 l0 (l0.length : Int) 0) = some r := h
 clear h
 have H' := Aside0.mk H
 clear H
 go_enter Try.func51, Try.ntmps51
 go_wp2
 go_loopg [8] k (fun kq v8 w' => ∃ (x8_1 : Int), v8 = .int .i64 x8_1 ∧ Aside0 (cmp_Or_int.l0 kq 0 l0 (l0.length : Int) x8_1 = some r) ∧ Aside0 (kq ≤ k) ∧ Drawn0 w w')
 case atStart => exact ⟨(0), (by first | rfl | (simp; done) | (simp [*]; done)), H', ⟨Nat.le_refl _⟩, by repeat (first | exact Drawn0.refl _ | apply Drawn0.step)⟩
 case round =>
  clear H'
  obtain ⟨x8_1, rfl, HA, HK1, ⟨m1, rfl⟩⟩ := hrel
  cases gk with
  | zero => exact absurd HA.out (by simp [cmp_Or_int.l0])
  | succ k1 =>
   have H := HA.out
   clear HA
   simp only [cmp_Or_int.l0] at H
   by_cases c2 : x8_1 < (l0.length : Int)
   ·rw [if_pos c2] at H
    have q5 : decide (x8_1 < (l0.length : Int)) = true := decide_eq_true c2
    clear c2
    by_cases c3 : 0 ≤ x8_1
    ·rw [if_pos c3] at H
     have q9 : decide (0 ≤ x8_1) = true := decide_eq_true c3
     clear c3
     by_cases c4 : x8_1 < (l0.length : Int)
     ·rw [if_pos c4] at H
      have qa : decide (x8_1 < (l0.length : Int)) = true := decide_eq_true c4
      clear c4
      by_cases c5 : (rd l0 x8_1) = 0
      ·rw [if_pos c5] at H
       have q6 : ((rd l0 x8_1) == 0) = true := beq_iff_eq.mpr c5
       have q7 : ((rd l0 x8_1) != 0) = false := bne_eq_false_iff_eq.mpr c5
       clear c5
       obtain ⟨q2, E60, H⟩ := oc H
       have E6w : (IntKind.i64.wrap (x8_1 + 1)) = q2 := (i64_w _).trans E60
       have H' := Aside0.mk H
       clear H
       have q0 : 0 ≤ (x8_1 : Int) := of_decide_eq_true (by first | (with_reducible assumption) | assumption)
       have q1 : x8_1 < (l0.length : Int) := of_decide_eq_true (by first | (with_reducible assumption) | assumption)
       obtain ⟨q4, q3, q8⟩ := Kd.at_int HR0.out x8_1 q0 q1
       cases q3
       replace q0 := eq_true q0
       replace q1 := eq_true q1
       go_wp2
       go_roundg k1
       case measure => have := HK1.out; omega
       case rel => exact ⟨(q2), (by first | rfl | (simp; done) | (simp [*]; done)), H', ⟨by have := HK1.out; omega⟩, by repeat (first | exact Drawn0.refl _ | apply Drawn0.step)⟩
      ·rw [if_neg c5] at H
       have q6 : ((rd l0 x8_1) == 0) = false := beq_eq_false_iff_ne.mpr c5
       have q7 : ((rd l0 x8_1) != 0) = true := bne_iff_ne.mpr c5
       obtain rfl := Option.some.inj H
       have q0 : 0 ≤ (x8_1 : Int) := of_decide_eq_true (by first | (with_reducible assumption) | assumption)
       have q1 : x8_1 < (l0.length : Int) := of_decide_eq_true (by first | (with_reducible assumption) | assumption)
       obtain ⟨q4, q3, q8⟩ := Kd.at_int HR0.out x8_1 q0 q1
       cases q3
       replace q0 := eq_true q0
       replace q1 := eq_true q1
       go_wp2
       go_ret
       exact ⟨by first | rfl | (simp; done) | (simp [*]; done), by repeat (first | exact Drawn0.refl _ | apply Drawn0.step)⟩
     ·rw [if_neg c4] at H
      exact absurd H (by simp)
    ·rw [if_neg c3] at H
     exact absurd H (by simp)
   ·rw [if_neg c2] at H
    have q5 : decide (x8_1 < (l0.length : Int)) = false := decide_eq_false c2
    clear c2
    obtain rfl := Option.some.inj H
    go_wp2
    go_ret
    exact ⟨by first | rfl | (simp; done) | (simp [*]; done), by repeat (first | exact Drawn0.refl _ | apply Drawn0.step)⟩
end
section
/-! ### grids_order: function 42 -/
def grids_order.f (k : Nat) (a0_0 : Int) (a0_1 : Int) (a0_2 : Int) (a0_3 : Int) (a1_0 : Int) (a1_1 : Int) (a1_2 : Int) (a1_3 : Int) : Option (Int) := (cmp_Compare_int64.f a0_0 a1_0).bind fun q2 => ((cmp_Compare_int64.f a0_1 a1_1).bind fun q3 => ((cmp_Compare_int64.f a0_2 a1_2).bind fun q4 => ((cmp_Compare_int64.f a0_3 a1_3).bind fun q5 => ((cmp_Or_int.f k (([q2, q3, q4, q5] : List Int))).bind fun q6 => (some q6)))))
theorem grids_order.mono : ∀ a0 a1 a2 a3 a4 a5 a6 a7 k, LeO (grids_order.f k a0 a1 a2 a3 a4 a5 a6 a7) (grids_order.f (k + 1) a0 a1 a2 a3 a4 a5 a6 a7) := by
 intro a0 a1 a2 a3 a4 a5 a6 a7 k
 unfold grids_order.f
 repeat' first
   | (with_reducible exact cmp_Or_int.mono _ _)
   | (with_reducible exact LeO.refl _)
   | (with_reducible exact LeO.none _)
   | (with_reducible refine LeO.ite ?_ ?_)
   | (with_reducible refine LeO.bind ?_ (fun _ => ?_))
   | exact cmp_Or_int.mono _ _
   | exact LeO.none _
   | refine LeO.ite ?_ ?_
   | refine LeO.bind ?_ (fun _ => ?_)
def grids_order.T1 : Bool × List (List Nat × List Nat) := (true, [([], []), ([0], [0]), ([], []), ([2], [2]), ([1, 3], [1, 3]), ([], []), ([5], [5]), ([], []), ([7], [7]), ([6, 8, 4], [6, 8]), ([], []), ([10], [10]), ([], []), ([12], [12]), ([11, 13, 9], [11, 13]), ([], []), ([15], [15]), ([], []), ([17], [17]), ([16, 18, 14], [16, 18]), ([4, 9, 14, 19], [4, 9, 14, 19]), ([20, 19], [20]), ([21, 21, 0, 1, 2, 3, 4, 5, 6, 7, 8, 9, 10, 11, 12, 13, 14, 15, 16, 17, 18, 19, 20, 21], [21])])
def grids_order.B1 : List Nat := [0, 1, 0, 4, 15, 0, 32, 0, 128, 511, 0, 1024, 0, 4096, 16383, 0, 32768, 0, 131072, 524287, 1048575, 2097151, 4194303]
theorem grids_order.tab1 : rtab .any (opsOf Try.f42 1) = grids_order.T1 := by kernel_rfl
theorem grids_order.bits1 : waitsOk grids_order.T1.2 grids_order.B1 = true := by kernel_rfl
set_option maxHeartbeats 8000000 in
set_option maxRecDepth 100000 in
theorem grids_order.calls (k : Nat) (a0_0 : Int) (a0_1 : Int) (a0_2 : Int) (a0_3 : Int) (a1_0 : Int) (a1_1 : Int) (a1_2 : Int) (a1_3 : Int) (r : Int) (w : World) (h : grids_order.f k a0_0 a0_1 a0_2 a0_3 a1_0 a1_1 a1_2 a1_3 = some r) :
  Calls Try.prog 42 #[.agg #[.int .i64 a0_0, .int .i64 a0_1, .int .i64 a0_2, .int .i64 a0_3], .agg #[.int .i64 a1_0, .int .i64 a1_1, .int .i64 a1_2, .int .i64 a1_3]] w fun e w' => e = .returned (.int .i64 r) ∧ Below w.heap.size w w' := by
 have hu25 := Try.underlying25
 have HB := Aside0.mk (Below.refl w.heap.size w)
 have H : ((cmp_Compare_int64.f a0_0 a1_0).bind fun q2 => ((cmp_Compare_int64.f a0_1 a1_1).bind fun q3 => ((cmp_Compare_int64.f a0_2 a1_2).bind fun q4 => ((cmp_Compare_int64.f a0_3 a1_3).bind fun q5 => ((cmp_Or_int.f k (([q2, q3, q4, q5] : List Int))).bind fun q6 => (some q6)))))) = some r := h
 clear h
 obtain ⟨q2, A3, H⟩ := ob H
 obtain ⟨q3, A4, H⟩ := ob H
 obtain ⟨q4, A5, H⟩ := ob H
 obtain ⟨q5, A6, H⟩ := ob H
 obtain ⟨qc, hy198⟩ : ∃ y_ : List Int, y_ = (([q2, q3, q4, q5] : List Int)) := ⟨_, rfl⟩
 replace H : ((cmp_Or_int.f k qc).bind fun q6 => (some q6)) = some r := by first | (rw [hy198]; with_reducible exact H) | (have H2_ := (Option.bind_some _ _).symm.trans H; rw [hy198]; with_reducible exact H2_) | (have H2_ := (Option.bind_some _ _).symm.trans H; with_reducible exact H2_) | with_reducible exact H | (rw [hy198]; exact H) | exact H
 have Ny198 := Aside0.mk hy198
 clear hy198
 obtain ⟨q6, A7, H⟩ := ob H
 obtain rfl := Option.some.inj H
 go_enter Try.func42, Try.ntmps42
 try go_wp2_with (first | ((with_reducible refine gate_dst (N := 2) rfl ?_); refine bx 2 #[.int .i64 a0_0, .int .i64 a0_1, .int .i64 a0_2, .int .i64 a0_3] 25 fun q8 hg w8 q0 hb => ?_; have qg := gw hg HB; have qe := gw hg HB; replace HB := bst HB hb; clear hb hg) | ((with_reducible refine gate_dst (N := 3) rfl ?_); refine bx 3 #[.int .i64 a1_0, .int .i64 a1_1, .int .i64 a1_2, .int .i64 a1_3] 25 fun q9 hg w9 q1 hb => ?_; have qh := gw hg HB; have qf := gw hg HB; have qi := nlt hg q0; have qj := ngt hg q0; replace q0 := bb q0 hb; replace HB := bst HB hb; clear hb hg))
 replace q0 := bd q0
 replace q1 := bd q1
 replace HB := bdn HB
 refine start_ (n := 23) (S := fun w' => w'.cell? ⟨q8, 0, none⟩ = some (.int .i64 a0_0) ∧ w'.cell? ⟨q8, 1, none⟩ = some (.int .i64 a0_1) ∧ w'.cell? ⟨q8, 2, none⟩ = some (.int .i64 a0_2) ∧ w'.cell? ⟨q8, 3, none⟩ = some (.int .i64 a0_3) ∧ w'.cell? ⟨q9, 0, none⟩ = some (.int .i64 a1_0) ∧ w'.cell? ⟨q9, 1, none⟩ = some (.int .i64 a1_1) ∧ w'.cell? ⟨q9, 2, none⟩ = some (.int .i64 a1_2) ∧ w'.cell? ⟨q9, 3, none⟩ = some (.int .i64 a1_3)) (ds := []) #[false, false, false, false, false, false, false, false, false, false, false, false, false, false, false, false, false, false, false, false, false, false, false] (by kernel_rfl) rfl rfl ⟨(blk_cell q0.out 0).trans rfl, (blk_cell q0.out 1).trans rfl, (blk_cell q0.out 2).trans rfl, (blk_cell q0.out 3).trans rfl, (blk_cell q1.out 0).trans rfl, (blk_cell q1.out 1).trans rfl, (blk_cell q1.out 2).trans rfl, (blk_cell q1.out 3).trans rfl⟩ (fun hHeld => ?_); refine with_tabW grids_order.tab1 grids_order.bits1 (fun HT_ HW_ => ?_)
 generalize w9.drew = w10 at q0 q1 HB hHeld ⊢
 refine pz 0 5 HT_ ?_
 refine pz 2 7 HT_ ?_
 refine pz 5 10 HT_ ?_
 refine pz 7 12 HT_ ?_
 refine pz 10 15 HT_ ?_
 refine pz 12 17 HT_ ?_
 refine pz 15 20 HT_ ?_
 refine pz 17 22 HT_ ?_
 refine tz 1 6 HT_ HW_ hHeld ?_
 refine tz 3 8 HT_ HW_ hHeld ?_
 refine tz 6 11 HT_ HW_ hHeld ?_
 refine tz 8 13 HT_ HW_ hHeld ?_
 refine tz 11 16 HT_ HW_ hHeld ?_
 refine tz 13 18 HT_ HW_ hHeld ?_
 refine tz 16 21 HT_ HW_ hHeld ?_
 refine tz 18 23 HT_ HW_ hHeld ?_
 refine one_ (i := 4) (N := some 9) #[true, true, true, true, true, true, true, true, true, false, true, true, true, true, false, true, true, true, true, false, false, false, false] rfl rfl (one_of HT_.out (by kernel_rfl)) (by decide) (fun K hK => ?_)
 refine gs _ Try.func54 (cmp_Compare_int64.calls a0_0 a1_0 q2 _ A3.out) ?_
 rintro e w' ⟨rfl, ⟨nd, rfl⟩⟩
 refine ⟨_, rfl, ?_⟩
 refine hK.out _ _ ⟨(blk_cell q0.out 0).trans rfl, (blk_cell q0.out 1).trans rfl, (blk_cell q0.out 2).trans rfl, (blk_cell q0.out 3).trans rfl, (blk_cell q1.out 0).trans rfl, (blk_cell q1.out 1).trans rfl, (blk_cell q1.out 2).trans rfl, (blk_cell q1.out 3).trans rfl⟩ (fun hHeld => ?_)
 clear hK K
 refine norm_ (a' := ?_) ?_ ?_
 rotate_left
 ·show Act.put _ (some 9) _ = _
  simp only [Act.put, List.setIfInBounds_toArray, List.set_cons_zero, List.set_cons_succ, i64_w, i32_w]
  rfl
 refine one_ (i := 9) (N := some 14) #[true, true, true, true, true, true, true, true, true, true, true, true, true, true, false, true, true, true, true, false, false, false, false] rfl rfl (one_of HT_.out (by kernel_rfl)) (by decide) (fun K hK => ?_)
 refine gs _ Try.func54 (cmp_Compare_int64.calls a0_1 a1_1 q3 _ A4.out) ?_
 rintro e w' ⟨rfl, ⟨nd, rfl⟩⟩
 refine ⟨_, rfl, ?_⟩
 refine hK.out _ _ ⟨(blk_cell q0.out 0).trans rfl, (blk_cell q0.out 1).trans rfl, (blk_cell q0.out 2).trans rfl, (blk_cell q0.out 3).trans rfl, (blk_cell q1.out 0).trans rfl, (blk_cell q1.out 1).trans rfl, (blk_cell q1.out 2).trans rfl, (blk_cell q1.out 3).trans rfl⟩ (fun hHeld => ?_)
 clear hK K
 refine norm_ (a' := ?_) ?_ ?_
 rotate_left
 ·show Act.put _ (some 14) _ = _
  simp only [Act.put, List.setIfInBounds_toArray, List.set_cons_zero, List.set_cons_succ, i64_w, i32_w]
  rfl
 refine one_ (i := 14) (N := some 19) #[true, true, true, true, true, true, true, true, true, true, true, true, true, true, true, true, true, true, true, false, false, false, false] rfl rfl (one_of HT_.out (by kernel_rfl)) (by decide) (fun K hK => ?_)
 refine gs _ Try.func54 (cmp_Compare_int64.calls a0_2 a1_2 q4 _ A5.out) ?_
 rintro e w' ⟨rfl, ⟨nd, rfl⟩⟩
 refine ⟨_, rfl, ?_⟩
 refine hK.out _ _ ⟨(blk_cell q0.out 0).trans rfl, (blk_cell q0.out 1).trans rfl, (blk_cell q0.out 2).trans rfl, (blk_cell q0.out 3).trans rfl, (blk_cell q1.out 0).trans rfl, (blk_cell q1.out 1).trans rfl, (blk_cell q1.out 2).trans rfl, (blk_cell q1.out 3).trans rfl⟩ (fun hHeld => ?_)
 clear hK K
 refine norm_ (a' := ?_) ?_ ?_
 rotate_left
 ·show Act.put _ (some 19) _ = _
  simp only [Act.put, List.setIfInBounds_toArray, List.set_cons_zero, List.set_cons_succ, i64_w, i32_w]
  rfl
 refine one_ (i := 19) (N := some 24) #[true, true, true, true, true, true, true, true, true, true, true, true, true, true, true, true, true, true, true, true, false, false, false] rfl rfl (one_of HT_.out (by kernel_rfl)) (by decide) (fun K hK => ?_)
 refine gs _ Try.func54 (cmp_Compare_int64.calls a0_3 a1_3 q5 _ A6.out) ?_
 rintro e w' ⟨rfl, ⟨nd, rfl⟩⟩
 refine ⟨_, rfl, ?_⟩
 refine hK.out _ _ ⟨(blk_cell q0.out 0).trans rfl, (blk_cell q0.out 1).trans rfl, (blk_cell q0.out 2).trans rfl, (blk_cell q0.out 3).trans rfl, (blk_cell q1.out 0).trans rfl, (blk_cell q1.out 1).trans rfl, (blk_cell q1.out 2).trans rfl, (blk_cell q1.out 3).trans rfl⟩ (fun hHeld => ?_)
 clear hK K
 refine norm_ (a' := ?_) ?_ ?_
 rotate_left
 ·show Act.put _ (some 24) _ = _
  simp only [Act.put, List.setIfInBounds_toArray, List.set_cons_zero, List.set_cons_succ, i64_w, i32_w]
  rfl
 refine one_ (i := 20) (N := some 25) #[true, true, true, true, true, true, true, true, true, true, true, true, true, true, true, true, true, true, true, true, true, false, false] rfl rfl (one_of HT_.out (by kernel_rfl)) (by decide) (fun K hK => ?_)
 refine Kd.R_lit_step (Kd.int .i64) _ 3 ?hg (N := 25) ?hd (xs := ([q2, q3, q4, q5] : List Int)) (inner := [.int .i64 q2, .int .i64 q3, .int .i64 q4, .int .i64 q5]) (ok := fun _ => True) (okp := fun _ => True) ?hr ?hp (fun _ hk => hk) trivial (Below.refl _ _) (Nat.le_refl _) (by simp) ?_; (case hd => rfl); (case hg => rfl); (case hr => first | (go_simp; done) | (go_simp; rfl)); (case hp => exact (Reps.one (show Kd.M (Kd.int .i64) _ _ _ q2 [.int .i64 q2] from rfl) (Reps.one (show Kd.M (Kd.int .i64) _ _ _ q3 [.int .i64 q3] from rfl) (Reps.one (show Kd.M (Kd.int .i64) _ _ _ q4 [.int .i64 q4] from rfl) (Reps.one (show Kd.M (Kd.int .i64) _ _ _ q5 [.int .i64 q5] from rfl) (Reps.none _ _))))))
 intro v199 w11 q7 hb hg_ hnew_
 clear hg_ hnew_
 (first | rw [← Ny198.out] at q7 | (simp only [Int.reduceToNat] at q7; rw [← Ny198.out] at q7))
 have qa := Aside0.mk (Kd.R_lower q7 (below_size (bnow HB)))
 replace q0 := bb q0 hb
 replace q1 := bb q1 hb
 replace HB := bst HB hb
 clear hb q7
 obtain ⟨qd, qk, qb⟩ := Kd.R_slice qa.out
 (first | subst qb | (injection qb with f1_ f2_ f3_; have f4_ := f1_.symm; have f5_ := f3_.symm; clear f1_ f2_ f3_; subst f4_; subst f5_))
 refine hK.out _ _ ⟨(blk_cell q0.out 0).trans rfl, (blk_cell q0.out 1).trans rfl, (blk_cell q0.out 2).trans rfl, (blk_cell q0.out 3).trans rfl, (blk_cell q1.out 0).trans rfl, (blk_cell q1.out 1).trans rfl, (blk_cell q1.out 2).trans rfl, (blk_cell q1.out 3).trans rfl⟩ (fun hHeld => ?_)
 clear hK K
 refine norm_ (a' := ?_) ?_ ?_
 rotate_left
 ·show Act.put _ (some 25) _ = _
  simp only [Act.put, List.setIfInBounds_toArray, List.set_cons_zero, List.set_cons_succ, i64_w, i32_w]
  rfl
 refine one_ (i := 21) (N := some 26) #[true, true, true, true, true, true, true, true, true, true, true, true, true, true, true, true, true, true, true, true, true, true, false] rfl rfl (one_of HT_.out (by kernel_rfl)) (by decide) (fun K hK => ?_)
 refine gs _ Try.func51 (cmp_Or_int.calls k _ _ qc q6 _ ?side1 ?side2 A7.out) ?_
 (case side1 => repeat (first | exact (Kd.R_reads' qa.out).2.2 | (with_reducible refine Kd.C_alloc ?_ _) | (with_reducible refine Kd.C_drewN ?_ _) | (with_reducible refine Kd.C_drew ?_)))
 (case side2 => exact (Kd.R_reads' qa.out).2.1)
 rintro e w' ⟨rfl, ⟨nd, rfl⟩⟩
 refine ⟨_, rfl, ?_⟩
 refine hK.out _ _ ⟨(blk_cell q0.out 0).trans rfl, (blk_cell q0.out 1).trans rfl, (blk_cell q0.out 2).trans rfl, (blk_cell q0.out 3).trans rfl, (blk_cell q1.out 0).trans rfl, (blk_cell q1.out 1).trans rfl, (blk_cell q1.out 2).trans rfl, (blk_cell q1.out 3).trans rfl⟩ (fun hHeld => ?_)
 clear hK K
 refine norm_ (a' := ?_) ?_ ?_
 rotate_left
 ·show Act.put _ (some 26) _ = _
  simp only [Act.put, List.setIfInBounds_toArray, List.set_cons_zero, List.set_cons_succ, i64_w, i32_w]
  rfl
 refine pz 22 4 HT_ ?_
 refine done_ (done_of HT_.out (by kernel_rfl)) ?_
 try go_wp2
 go_ret
 exact rt HB
end
section
/-! ### api_GrMatrix_85: function 85 -/
mutual
def api_GrMatrix_85.l0 : Nat → List (S25) → Int → Int → Int → Option ((List (S25)))
 | 0, _, _, _, _ => none
 | k + 1, x0, x1, x2, x8 => if x8 < x2 then (api_GrMatrix_85.l1 k x0 x1 x2 x8 x8) else (some x0)
def api_GrMatrix_85.l1 : Nat → List (S25) → Int → Int → Int → Int → Option ((List (S25)))
 | 0, _, _, _, _, _ => none
 | k + 1, x0, x1, x2, x8, x9 => if x9 > x1 then (if 0 ≤ x9 then (if x9 < (x0.length : Int) then ((some (wrap64 (x9 - 1))).bind fun q0 => (if 0 ≤ q0 then (if q0 < (x0.length : Int) then ((grids_order.f k ((rd_T25 x0 x9).f0) ((rd_T25 x0 x9).f1) ((rd_T25 x0 x9).f2) ((rd_T25 x0 x9).f3) ((rd_T25 x0 q0).f0) ((rd_T25 x0 q0).f1) ((rd_T25 x0 q0).f2) ((rd_T25 x0 q0).f3)).bind fun qe => (if qe < 0 then (api_GrMatrix_85.l1 k ((x0.set (x9 : Int).toNat (⟨(rd_T25 x0 q0).f0, (rd_T25 x0 q0).f1, (rd_T25 x0 q0).f2, (rd_T25 x0 q0).f3⟩ : S25)).set (q0 : Int).toNat (⟨(rd_T25 x0 x9).f0, (rd_T25 x0 x9).f1, (rd_T25 x0 x9).f2, (rd_T25 x0 x9).f3⟩ : S25)) x1 x2 x8 q0) else ((some (wrap64 (x8 + 1))).bind fun qi => (api_GrMatrix_85.l0 k x0 x1 x2 qi)))) else (none)) else (none))) else (none)) else (none)) else ((some (wrap64 (x8 + 1))).bind fun qj => (api_GrMatrix_85.l0 k x0 x1 x2 qj))
end
def api_GrMatrix_85.f (k : Nat) (l0 : List (S25)) (a1 : Int) (a2 : Int)  : Option ((List (S25))) := (some (wrap64 (a1 + 1))).bind fun qh => (api_GrMatrix_85.l0 k l0 a1 a2 qh)
theorem api_GrMatrix_85.mono_l : ∀ k, (∀ y0 y1 y2 y3, LeO (api_GrMatrix_85.l0 k y0 y1 y2 y3) (api_GrMatrix_85.l0 (k + 1) y0 y1 y2 y3)) ∧ (∀ y0 y1 y2 y3 y4, LeO (api_GrMatrix_85.l1 k y0 y1 y2 y3 y4) (api_GrMatrix_85.l1 (k + 1) y0 y1 y2 y3 y4))
 | 0 => ⟨fun _ _ _ _ r h => by simp [api_GrMatrix_85.l0] at h, fun _ _ _ _ _ r h => by simp [api_GrMatrix_85.l1] at h⟩
 | k + 1 => by
  obtain ⟨ih0, ih1⟩ := api_GrMatrix_85.mono_l k
  refine ⟨?_, ?_⟩
  ·intro y0 y1 y2 y3
   unfold api_GrMatrix_85.l0
   repeat' first
   | (with_reducible exact ih0 _ _ _ _)
   | (with_reducible exact ih1 _ _ _ _ _)
   | (with_reducible exact grids_order.mono _ _ _ _ _ _ _ _ _)
   | (with_reducible exact LeO.refl _)
   | (with_reducible exact LeO.none _)
   | (with_reducible refine LeO.ite ?_ ?_)
   | (with_reducible refine LeO.bind ?_ (fun _ => ?_))
   | exact ih0 _ _ _ _
   | exact ih1 _ _ _ _ _
   | exact grids_order.mono _ _ _ _ _ _ _ _ _
   | exact LeO.none _
   | refine LeO.ite ?_ ?_
   | refine LeO.bind ?_ (fun _ => ?_)
  ·intro y0 y1 y2 y3 y4
   unfold api_GrMatrix_85.l1
   repeat' first
   | (with_reducible exact ih0 _ _ _ _)
   | (with_reducible exact ih1 _ _ _ _ _)
   | (with_reducible exact grids_order.mono _ _ _ _ _ _ _ _ _)
   | (with_reducible exact LeO.refl _)
   | (with_reducible exact LeO.none _)
   | (with_reducible refine LeO.ite ?_ ?_)
   | (with_reducible refine LeO.bind ?_ (fun _ => ?_))
   | exact ih0 _ _ _ _
   | exact ih1 _ _ _ _ _
   | exact grids_order.mono _ _ _ _ _ _ _ _ _
   | exact LeO.none _
   | refine LeO.ite ?_ ?_
   | refine LeO.bind ?_ (fun _ => ?_)
theorem api_GrMatrix_85.mono : ∀ a0 a1 a2 k, LeO (api_GrMatrix_85.f k a0 a1 a2) (api_GrMatrix_85.f (k + 1) a0 a1 a2) := by
 intro a0 a1 a2 k
 obtain ⟨ih0, ih1⟩ := api_GrMatrix_85.mono_l k
 unfold api_GrMatrix_85.f
 repeat' first
   | (with_reducible exact ih0 _ _ _ _)
   | (with_reducible exact ih1 _ _ _ _ _)
   | (with_reducible exact grids_order.mono _ _ _ _ _ _ _ _ _)
   | (with_reducible exact LeO.refl _)
   | (with_reducible exact LeO.none _)
   | (with_reducible refine LeO.ite ?_ ?_)
   | (with_reducible refine LeO.bind ?_ (fun _ => ?_))
   | exact ih0 _ _ _ _
   | exact ih1 _ _ _ _ _
   | exact grids_order.mono _ _ _ _ _ _ _ _ _
   | exact LeO.none _
   | refine LeO.ite ?_ ?_
   | refine LeO.bind ?_ (fun _ => ?_)
def api_GrMatrix_85.T4 : Bool × List (List Nat × List Nat) := (true, [([], []), ([], []), ([0, 1], [0, 1]), ([2], [2]), ([3], [3]), ([3], [3]), ([3], [3]), ([5, 6, 3], [3, 5, 6]), ([7, 3], [3, 7]), ([3], [3]), ([3], [3]), ([10, 3], [3, 10]), ([9, 11, 3], [3, 9, 11]), ([12, 3], [3, 12]), ([4, 8, 13, 3, 3], [3, 4, 8, 13]), ([14, 3], [3, 14]), ([3, 15], [3, 15])])
def api_GrMatrix_85.B4 : List Nat := [0, 0, 3, 7, 15, 15, 15, 111, 239, 15, 15, 1039, 3599, 7695, 16383, 32767, 65535]
theorem api_GrMatrix_85.tab4 : rtab .any (opsOf Try.f85 4) = api_GrMatrix_85.T4 := by kernel_rfl
theorem api_GrMatrix_85.bits4 : waitsOk api_GrMatrix_85.T4.2 api_GrMatrix_85.B4 = true := by kernel_rfl
def api_GrMatrix_85.T6 : Bool × List (List Nat × List Nat) := (true, [([], []), ([], []), ([], []), ([], []), ([3], [3]), ([], []), ([], []), ([6], [6]), ([5, 7], [5, 7]), ([8], [8]), ([], []), ([], []), ([10, 11], [10, 11]), ([12], [12]), ([0, 1, 0, 1, 5, 6, 7, 8, 9, 13], [0, 1]), ([14, 9, 0, 1, 5, 6, 7, 8, 9, 13], [9, 14]), ([2, 4, 0, 1, 2, 3, 4, 5, 6, 7, 8, 9, 10, 11, 12, 13, 14, 15], [2, 4]), ([16, 13, 15, 0, 1, 2, 3, 4, 5, 6, 7, 8, 9, 10, 11, 12, 13, 14, 15], [13, 16])])
def api_GrMatrix_85.B6 : List Nat := [0, 0, 0, 0, 8, 0, 0, 64, 224, 480, 0, 0, 3072, 7168, 16355, 32739, 65535, 131071]
theorem api_GrMatrix_85.tab6 : rtab .any (opsOf Try.f85 6) = api_GrMatrix_85.T6 := by kernel_rfl
theorem api_GrMatrix_85.bits6 : waitsOk api_GrMatrix_85.T6.2 api_GrMatrix_85.B6 = true := by kernel_rfl
set_option maxHeartbeats 8000000 in
set_option maxRecDepth 100000 in
theorem api_GrMatrix_85.calls (k : Nat) (P0_ : Nat → Prop) (qf : Value) (l0 : List (S25)) (a1 : Int) (a2 : Int)  (r : List (S25)) (w0 w : World) (hB : Below w0.heap.size w0 w) (ho0 : Kd.R k25 25 w w0.heap.size P0_ qf l0) (h : api_GrMatrix_85.f k l0 a1 a2 = some r) :
  Calls Try.prog 85 #[qf, .int .i64 a1, .int .i64 a2, .func (.func 42) #[] #[]] w fun e w' => e = .returned (.tuple #[]) ∧ Kd.R k25 25 w' w0.heap.size (fun k_ => (P0_ k_ ∨ w.heap.size ≤ k_)) qf r ∧ Below w0.heap.size w0 w' ∧ Kept w w' (fun k_ => P0_ k_) := by
 have hu25 := Try.underlying25
 have HO0 := Aside0.mk (show Kd.R k25 25 w w0.heap.size (fun k_ => (P0_ k_ ∨ w.heap.size ≤ k_)) qf l0 from Kd.R_mono ho0 (fun k_ hk => (.inl hk)))
 have HK := Aside0.mk (Kept.refl w (fun k_ => P0_ k_))
 have HW0 := Aside0.mk hB.size
 have HB := Aside0.mk hB
 clear hB
 have H : ((some (wrap64 (a1 + 1))).bind fun qh => (api_GrMatrix_85.l0 k l0 a1 a2 qh)) = some r := h
 clear h
 obtain ⟨qh, E50, H⟩ := oc H
 have E5w : (IntKind.i64.wrap (a1 + 1)) = qh := (i64_w _).trans E50
 have H' := Aside0.mk H
 clear H
 go_enter Try.func85, Try.ntmps85
 go_wp2
 go_loopg [8] k (fun kq v8 w' => ∃ (x0_1 : List (S25)) (x8_1 : Int), v8 = .int .i64 x8_1 ∧ Aside0 (api_GrMatrix_85.l0 kq x0_1 a1 a2 x8_1 = some r) ∧ Aside0 (kq ≤ k) ∧ Aside0 (Kd.R k25 25 w' w0.heap.size (fun k_ => (P0_ k_ ∨ w.heap.size ≤ k_)) qf x0_1) ∧ Aside0 (Kept w w' (fun k_ => P0_ k_)) ∧ Aside0 (Below w0.heap.size w0 w'))
 case atStart => exact ⟨(l0), (qh), (by first | rfl | (simp; done) | (simp [*]; done)), H', ⟨Nat.le_refl _⟩, ⟨by (with_reducible repeat (first | apply Kd.R_alloc | apply Kd.R_drewN | apply Kd.R_drew)); exact HO0.out⟩, ⟨by repeat (first | (with_reducible first | exact HK.out | apply Kept.alloc | apply Kept.drewN | apply Kept.drew) | exact HK.out)⟩, ⟨bnow HB⟩⟩
 case round =>
  clear H'
  try clear p2
  obtain ⟨x0_1, x8_1, rfl, HA, HK1, HO_0, HK, HB⟩ := hrel
  cases gk with
  | zero => exact absurd HA.out (by simp [api_GrMatrix_85.l0])
  | succ k1 =>
   have H := HA.out
   clear HA
   simp only [api_GrMatrix_85.l0] at H
   by_cases c6 : x8_1 < a2
   ·rw [if_pos c6] at H
    have qH : decide (x8_1 < a2) = true := decide_eq_true c6
    clear c6
    have H' := Aside0.mk H
    clear H
    go_wp2
    go_loopg [9] k1 (fun kq v9 w' => ∃ (x0_2 : List (S25)) (x9_2 : Int), v9 = .int .i64 x9_2 ∧ Aside0 (api_GrMatrix_85.l1 kq x0_2 a1 a2 x8_1 x9_2 = some r) ∧ Aside0 (kq ≤ k1) ∧ Aside0 (Kd.R k25 25 w' w0.heap.size (fun k_ => (P0_ k_ ∨ w.heap.size ≤ k_)) qf x0_2) ∧ Aside0 (Kept w w' (fun k_ => P0_ k_)) ∧ Aside0 (Below w0.heap.size w0 w'))
    case atStart => exact ⟨(x0_1), (x8_1), (by first | rfl | (simp; done) | (simp [*]; done)), H', ⟨Nat.le_refl _⟩, ⟨by (with_reducible repeat (first | apply Kd.R_alloc | apply Kd.R_drewN | apply Kd.R_drew)); exact HO_0.out⟩, ⟨by repeat (first | (with_reducible first | exact HK.out | apply Kept.alloc | apply Kept.drewN | apply Kept.drew) | exact HK.out)⟩, ⟨bnow HB⟩⟩
    case round =>
     clear H'
     try clear p2; try clear c6; try clear qH; try clear p6; try clear p2
     obtain ⟨x0_2, x9_2, rfl, HA, HK2, HO_0, HK, HB⟩ := hrel
     cases gk with
     | zero => exact absurd HA.out (by simp [api_GrMatrix_85.l1])
     | succ k2 =>
      have H := HA.out
      clear HA
      simp only [api_GrMatrix_85.l1] at H
      by_cases c7 : x9_2 > a1
      ·rw [if_pos c7] at H
       have qQ : decide (a1 < x9_2) = true := decide_eq_true c7
       clear c7
       by_cases c8 : 0 ≤ x9_2
       ·rw [if_pos c8] at H
        have j5 : decide (0 ≤ x9_2) = true := decide_eq_true c8
        clear c8
        by_cases c9 : x9_2 < (x0_2.length : Int)
        ·rw [if_pos c9] at H
         have j6 : decide (x9_2 < (x0_2.length : Int)) = true := decide_eq_true c9
         clear c9
         obtain ⟨q0, E100, H⟩ := oc H
         have E10w : (IntKind.i64.wrap (x9_2 - 1)) = q0 := (i64_w _).trans E100
         by_cases c11 : 0 ≤ q0
         ·rw [if_pos c11] at H
          have j3 : decide (0 ≤ q0) = true := decide_eq_true c11
          clear c11
          by_cases c12 : q0 < (x0_2.length : Int)
          ·rw [if_pos c12] at H
           have j4 : decide (q0 < (x0_2.length : Int)) = true := decide_eq_true c12
           clear c12
           obtain ⟨qe, A13, H⟩ := ob H
           by_cases c14 : qe < 0
           ·rw [if_pos c14] at H
            have qP : decide (qe < 0) = true := decide_eq_true c14
            clear c14
            obtain ⟨qg, hy498⟩ : ∃ y_ : List (S25), y_ = (x0_2.set (x9_2 : Int).toNat (⟨(rd_T25 x0_2 q0).f0, (rd_T25 x0_2 q0).f1, (rd_T25 x0_2 q0).f2, (rd_T25 x0_2 q0).f3⟩ : S25)) := ⟨_, rfl⟩
            replace H : (api_GrMatrix_85.l1 k2 (qg.set (q0 : Int).toNat (⟨(rd_T25 x0_2 x9_2).f0, (rd_T25 x0_2 x9_2).f1, (rd_T25 x0_2 x9_2).f2, (rd_T25 x0_2 x9_2).f3⟩ : S25)) a1 a2 x8_1 q0) = some r := by first | (rw [hy498]; with_reducible exact H) | (have H2_ := (Option.bind_some _ _).symm.trans H; rw [hy498]; with_reducible exact H2_) | (have H2_ := (Option.bind_some _ _).symm.trans H; with_reducible exact H2_) | with_reducible exact H | (rw [hy498]; exact H) | exact H
            have Ny498 := Aside0.mk hy498
            clear hy498
            obtain ⟨qM, hy499⟩ : ∃ y_ : List (S25), y_ = (qg.set (q0 : Int).toNat (⟨(rd_T25 x0_2 x9_2).f0, (rd_T25 x0_2 x9_2).f1, (rd_T25 x0_2 x9_2).f2, (rd_T25 x0_2 x9_2).f3⟩ : S25)) := ⟨_, rfl⟩
            replace H : (api_GrMatrix_85.l1 k2 qM a1 a2 x8_1 q0) = some r := by first | (rw [hy499]; with_reducible exact H) | (have H2_ := (Option.bind_some _ _).symm.trans H; rw [hy499]; with_reducible exact H2_) | (have H2_ := (Option.bind_some _ _).symm.trans H; with_reducible exact H2_) | with_reducible exact H | (rw [hy499]; exact H) | exact H
            have Ny499 := Aside0.mk hy499
            clear hy499
            have H' := Aside0.mk H
            clear H
            (try have hpz493 : q0.toNat < x9_2.toNat := wrap_pred E100 (of_decide_eq_true (by assumption)) (of_decide_eq_true (by assumption)))
            try go_wp2
            replace HO_0 := Aside0.mk (Kd.R_drew HO_0.out)
            replace HK := Aside0.mk (Kept.drew HK.out)
            replace HB := bdn HB
            obtain ⟨j1, j8, qJ⟩ := Kd.R_slice HO_0.out
            (first | subst qJ | (injection qJ with f1_ f2_ f3_; have f4_ := f1_.symm; have f5_ := f3_.symm; clear f1_ f2_ f3_; subst f4_; subst f5_))
            have qa : 0 ≤ (x9_2 : Int) := of_decide_eq_true (by first | (with_reducible assumption) | assumption)
            have qc : x9_2 < (x0_2.length : Int) := of_decide_eq_true (by first | (with_reducible assumption) | assumption)
            obtain ⟨q1, qt, q2, q3, q4, q5⟩ := at_T25 (Kd.R_reads' HO_0.out).2.2 x9_2 qa qc
            cases qt
            replace qa := eq_true qa
            replace qc := eq_true qc
            have qb : 0 ≤ (q0 : Int) := of_decide_eq_true (by first | (with_reducible assumption) | assumption)
            have qd : q0 < (x0_2.length : Int) := of_decide_eq_true (by first | (with_reducible assumption) | assumption)
            obtain ⟨qs, qu, q6, q7, q8, q9⟩ := at_T25 (Kd.R_reads' HO_0.out).2.2 q0 qb qd
            obtain rfl : q1 = qs := (by injection qu)
            replace qb := eq_true qb
            replace qd := eq_true qd
            refine start_ (n := 17) (S := fun w' => w'.cell? (q1.add ((x9_2).toNat * 4)) = some (.int .i64 ((rd_T25 x0_2 x9_2).f0)) ∧ w'.cell? ⟨(q1.add ((x9_2).toNat * 4)).block, (q1.add ((x9_2).toNat * 4)).off + 1, none⟩ = some (.int .i64 ((rd_T25 x0_2 x9_2).f1)) ∧ w'.cell? ⟨(q1.add ((x9_2).toNat * 4)).block, (q1.add ((x9_2).toNat * 4)).off + 2, none⟩ = some (.int .i64 ((rd_T25 x0_2 x9_2).f2)) ∧ w'.cell? ⟨(q1.add ((x9_2).toNat * 4)).block, (q1.add ((x9_2).toNat * 4)).off + 3, none⟩ = some (.int .i64 ((rd_T25 x0_2 x9_2).f3)) ∧ w'.cell? (q1.add ((q0).toNat * 4)) = some (.int .i64 ((rd_T25 x0_2 q0).f0)) ∧ w'.cell? ⟨(q1.add ((q0).toNat * 4)).block, (q1.add ((q0).toNat * 4)).off + 1, none⟩ = some (.int .i64 ((rd_T25 x0_2 q0).f1)) ∧ w'.cell? ⟨(q1.add ((q0).toNat * 4)).block, (q1.add ((q0).toNat * 4)).off + 2, none⟩ = some (.int .i64 ((rd_T25 x0_2 q0).f2)) ∧ w'.cell? ⟨(q1.add ((q0).toNat * 4)).block, (q1.add ((q0).toNat * 4)).off + 3, none⟩ = some (.int .i64 ((rd_T25 x0_2 q0).f3))) (ds := []) #[false, false, false, false, false, false, false, false, false, false, false, false, false, false, false, false, false] (by kernel_rfl) rfl rfl ⟨q2, q3, q4, q5, q6, q7, q8, q9⟩ (fun hHeld => ?_); refine with_tabW api_GrMatrix_85.tab4 api_GrMatrix_85.bits4 (fun HT_ HW_ => ?_)
            generalize wr.drew = w17 at HO_0 HK HB q2 q3 q4 q5 q6 q7 q8 q9 hHeld ⊢
            refine pz 0 18 HT_ ?_
            refine pz 1 19 HT_ ?_
            refine pz 2 20 HT_ ?_
            refine pz 3 21 HT_ ?_
            refine pz 4 22 HT_ ?_
            refine pz 5 23 HT_ ?_
            refine pz 6 24 HT_ ?_
            refine pz 7 25 HT_ ?_
            refine pz 9 27 HT_ ?_
            refine pz 10 28 HT_ ?_
            refine pz 11 29 HT_ ?_
            refine pz 12 30 HT_ ?_
            refine tz 8 26 HT_ HW_ hHeld ?_
            refine tz 13 31 HT_ HW_ hHeld ?_
            refine one_ (i := 14) (N := some 32) #[true, true, true, true, true, true, true, true, true, true, true, true, true, true, true, false, false] rfl rfl (one_of HT_.out (by kernel_rfl)) (by decide) (fun K hK => ?_)
            refine goesV_ Try.func42 (by kernel_rfl) rfl #[.agg #[.int .i64 ((rd_T25 x0_2 x9_2).f0), .int .i64 ((rd_T25 x0_2 x9_2).f1), .int .i64 ((rd_T25 x0_2 x9_2).f2), .int .i64 ((rd_T25 x0_2 x9_2).f3)], .agg #[.int .i64 ((rd_T25 x0_2 q0).f0), .int .i64 ((rd_T25 x0_2 q0).f1), .int .i64 ((rd_T25 x0_2 q0).f2), .int .i64 ((rd_T25 x0_2 q0).f3)]] (by rfl) rfl rfl (by rfl) am ?_
            with_reducible refine (grids_order.calls k2 ((rd_T25 x0_2 x9_2).f0) ((rd_T25 x0_2 x9_2).f1) ((rd_T25 x0_2 x9_2).f2) ((rd_T25 x0_2 x9_2).f3) ((rd_T25 x0_2 q0).f0) ((rd_T25 x0_2 q0).f1) ((rd_T25 x0_2 q0).f2) ((rd_T25 x0_2 q0).f3) qe _ A13.out).mono ?_
            rintro e w19 ⟨rfl, hb⟩
            have qk := (hb.cell (World.block_lt_of_cell? _ _ (hHeld.1))).trans (hHeld.1)
            have ql := (hb.cell (World.block_lt_of_cell? _ _ (hHeld.2.1))).trans (hHeld.2.1)
            have qm := (hb.cell (World.block_lt_of_cell? _ _ (hHeld.2.2.1))).trans (hHeld.2.2.1)
            have qn := (hb.cell (World.block_lt_of_cell? _ _ (hHeld.2.2.2.1))).trans (hHeld.2.2.2.1)
            have qo := (hb.cell (World.block_lt_of_cell? _ _ (hHeld.2.2.2.2.1))).trans (hHeld.2.2.2.2.1)
            have qp := (hb.cell (World.block_lt_of_cell? _ _ (hHeld.2.2.2.2.2.1))).trans (hHeld.2.2.2.2.2.1)
            have qq := (hb.cell (World.block_lt_of_cell? _ _ (hHeld.2.2.2.2.2.2.1))).trans (hHeld.2.2.2.2.2.2.1)
            have qr := (hb.cell (World.block_lt_of_cell? _ _ (hHeld.2.2.2.2.2.2.2))).trans (hHeld.2.2.2.2.2.2.2)
            refine ⟨_, rfl, ?_⟩
            have n0_ := Aside0.mk (Kd.R_below (by (with_reducible repeat (first | apply Kd.R_alloc | apply Kd.R_drewN | apply Kd.R_drew)); exact HO_0.out) hb)
            have n1_ := Aside0.mk (Kept.below (S := (fun k_ => P0_ k_)) (by repeat (first | (with_reducible first | exact HK.out | apply Kept.alloc | apply Kept.drewN | apply Kept.drew) | exact HK.out)) hb)
            have n2_ := bst HB hb
            clear HO_0
            clear HK
            clear HB
            have HO_0 := n0_
            have HK := n1_
            have HB := n2_
            clear n0_ n1_ n2_
            (try clear hb)
            (try clear hb2)
            (try clear hk)
            (try clear hi)
            refine hK.out _ _ ⟨qk, ql, qm, qn, qo, qp, qq, qr⟩ (fun hHeld => ?_)
            clear hK K
            refine norm_ (a' := ?_) ?_ ?_
            rotate_left
            ·show Act.put _ (some 32) _ = _
             simp only [Act.put, List.setIfInBounds_toArray, List.set_cons_zero, List.set_cons_succ, i64_w, i32_w]
             rfl
            refine pz 15 33 HT_ ?_
            refine pz 16 34 HT_ ?_
            refine done_ (done_of HT_.out (by kernel_rfl)) ?_
            try go_wp2
            replace HO_0 := Aside0.mk (Kd.R_drew HO_0.out)
            replace HK := Aside0.mk (Kept.drew HK.out)
            replace HB := bdn HB
            have qD : 0 ≤ (q0 : Int) := of_decide_eq_true (by first | (with_reducible assumption) | assumption)
            have qF : q0 < (x0_2.length : Int) := of_decide_eq_true (by first | (with_reducible assumption) | assumption)
            obtain ⟨qN, qR, qv, qw, qx, qy⟩ := at_T25 (Kd.R_reads' HO_0.out).2.2 q0 qD qF
            obtain rfl : q1 = qN := (by injection qR)
            replace qD := eq_true qD
            replace qF := eq_true qF
            have qE : 0 ≤ (x9_2 : Int) := of_decide_eq_true (by first | (with_reducible assumption) | assumption)
            have qG : x9_2 < (x0_2.length : Int) := of_decide_eq_true (by first | (with_reducible assumption) | assumption)
            obtain ⟨qO, qS, qz, qA, qB, qC⟩ := at_T25 (Kd.R_reads' HO_0.out).2.2 x9_2 qE qG
            obtain rfl : q1 = qO := (by injection qS)
            replace qE := eq_true qE
            replace qG := eq_true qG
            have p15 : 0 ≤ (x9_2 : Int) := of_decide_eq_true (by first | (with_reducible assumption) | assumption)
            have q15 : (x9_2 : Int) < ((x0_2.length : Int) : Int) := of_decide_eq_true (by first | (with_reducible assumption) | assumption)
            obtain ⟨go15, j7, qI, qL, gl15, cl15, HG15⟩ := Kd.R_form HO_0.out (by omega)
            (first | cases qI | (injection qI with ea_ en_ ec_; (first | subst ea_ | (injection ea_ with ea_; subst ea_)); subst ec_; clear en_))
            have GB15 := Aside0.mk qL
            have GG15 := Aside0.mk HG15
            clear qL gl15 HG15
            have HMgo15 := Aside0.mk (show (P0_ go15 ∨ w.heap.size ≤ go15) from (HO_0.out.1 _ rfl))
            (first | simp only [add_plain] at q2 | skip)
            (first | simp only [add_plain] at q3 | skip)
            (first | simp only [add_plain] at q4 | skip)
            (first | simp only [add_plain] at q5 | skip)
            (first | simp only [add_plain] at q6 | skip)
            (first | simp only [add_plain] at q7 | skip)
            (first | simp only [add_plain] at q8 | skip)
            (first | simp only [add_plain] at q9 | skip)
            (first | simp only [add_plain] at qv | skip)
            (first | simp only [add_plain] at qw | skip)
            (first | simp only [add_plain] at qx | skip)
            (first | simp only [add_plain] at qy | skip)
            (first | simp only [add_plain] at qz | skip)
            (first | simp only [add_plain] at qA | skip)
            (first | simp only [add_plain] at qB | skip)
            (first | simp only [add_plain] at qC | skip)
            obtain ⟨ce15, hcl15, hM15, hcc15, hfr15⟩ := Kd.R_elem HO_0.out z25 (x9_2 : Int) p15 q15
            obtain rfl := k25_openM hM15
            have qT : World.cell? _ ⟨go15, (x9_2 : Int).toNat * 4, none⟩ = some (.int .i64 ((rd_T25 x0_2 x9_2).f0)) := hcc15 0 _ rfl
            have qU : World.cell? _ ⟨go15, (x9_2 : Int).toNat * 4 + 1, none⟩ = some (.int .i64 ((rd_T25 x0_2 x9_2).f1)) := hcc15 1 _ rfl
            have qV : World.cell? _ ⟨go15, (x9_2 : Int).toNat * 4 + 2, none⟩ = some (.int .i64 ((rd_T25 x0_2 x9_2).f2)) := hcc15 2 _ rfl
            have qW : World.cell? _ ⟨go15, (x9_2 : Int).toNat * 4 + 3, none⟩ = some (.int .i64 ((rd_T25 x0_2 x9_2).f3)) := hcc15 3 _ rfl
            have hf15_0 : World.frozen? _ ⟨go15, (x9_2 : Int).toNat * 4, none⟩ = false := hfr15 0
            have hf15_1 : World.frozen? _ ⟨go15, (x9_2 : Int).toNat * 4 + 1, none⟩ = false := hfr15 1
            have hf15_2 : World.frozen? _ ⟨go15, (x9_2 : Int).toNat * 4 + 2, none⟩ = false := hfr15 2
            have hf15_3 : World.frozen? _ ⟨go15, (x9_2 : Int).toNat * 4 + 3, none⟩ = false := hfr15 3
            (try rw [World.frozen?_setCells] at hf15_0)
            (try rw [World.frozen?_setCells] at hf15_1)
            (try rw [World.frozen?_setCells] at hf15_2)
            (try rw [World.frozen?_setCells] at hf15_3)
            clear hcl15 hcc15 hfr15 hM15
            replace p15 := eq_true p15
            replace q15 := eq_true q15
            obtain ⟨ce21, hcl21, hM21, hcc21, hfr21⟩ := Kd.R_elem HO_0.out z25 (x9_2 : Int) (of_decide_eq_true (by first | (with_reducible assumption) | assumption)) (by have h_ : (x9_2 : Int) < ((x0_2.length : Int) : Int) := of_decide_eq_true (by first | (with_reducible assumption) | assumption); first | exact h_ | (have e_ := (Kd.R_reads' HO_0.out).1; omega) | simpa using h_)
            obtain rfl := k25_openM hM21
            have HP21 := (Kd.R_seg HO_0.out (x9_2 : Int) (of_decide_eq_true (by first | (with_reducible assumption) | assumption)) (by have h_ : (x9_2 : Int) < ((x0_2.length : Int) : Int) := of_decide_eq_true (by first | (with_reducible assumption) | assumption); first | exact h_ | (have e_ := (Kd.R_reads' HO_0.out).1; omega) | simpa using h_) (seg := [.int .i64 ((rd_T25 x0_2 q0).f0), .int .i64 ((rd_T25 x0_2 q0).f1), .int .i64 ((rd_T25 x0_2 q0).f2), .int .i64 ((rd_T25 x0_2 q0).f3)]) (j := 0) hcl21 hcc21 (show 4 ≤ 4 from by decide) (x' := (⟨(rd_T25 x0_2 q0).f0, (rd_T25 x0_2 q0).f1, (rd_T25 x0_2 q0).f2, (rd_T25 x0_2 q0).f3⟩ : S25)) (k25_mkM _ _ _ (⟨(rd_T25 x0_2 q0).f0, (rd_T25 x0_2 q0).f1, (rd_T25 x0_2 q0).f2, (rd_T25 x0_2 q0).f3⟩ : S25) ) (fun _ hk => hk)).1
            rw [← Ny498.out] at HP21
            have HQ21 := Aside0.mk HP21
            clear hcl21 hcc21 hfr21 hM21 HP21
            have p16 : 0 ≤ (q0 : Int) := of_decide_eq_true (by first | (with_reducible assumption) | assumption)
            have q16 : (q0 : Int) < ((x0_2.length : Int) : Int) := of_decide_eq_true (by first | (with_reducible assumption) | assumption)
            obtain ⟨ce16, hcl16, hM16, hcc16, hfr16⟩ := Kd.R_elem HQ21.out z25 (q0 : Int) p16 q16
            obtain rfl := k25_openM hM16
            have qX : World.cell? _ ⟨go15, (q0 : Int).toNat * 4, none⟩ = some (.int .i64 ((rd_T25 qg q0).f0)) := hcc16 0 _ rfl
            have qY : World.cell? _ ⟨go15, (q0 : Int).toNat * 4 + 1, none⟩ = some (.int .i64 ((rd_T25 qg q0).f1)) := hcc16 1 _ rfl
            have qZ : World.cell? _ ⟨go15, (q0 : Int).toNat * 4 + 2, none⟩ = some (.int .i64 ((rd_T25 qg q0).f2)) := hcc16 2 _ rfl
            have j0 : World.cell? _ ⟨go15, (q0 : Int).toNat * 4 + 3, none⟩ = some (.int .i64 ((rd_T25 qg q0).f3)) := hcc16 3 _ rfl
            have hf16_0 : World.frozen? _ ⟨go15, (q0 : Int).toNat * 4, none⟩ = false := hfr16 0
            have hf16_1 : World.frozen? _ ⟨go15, (q0 : Int).toNat * 4 + 1, none⟩ = false := hfr16 1
            have hf16_2 : World.frozen? _ ⟨go15, (q0 : Int).toNat * 4 + 2, none⟩ = false := hfr16 2
            have hf16_3 : World.frozen? _ ⟨go15, (q0 : Int).toNat * 4 + 3, none⟩ = false := hfr16 3
            (try rw [World.frozen?_setCells] at hf16_0)
            (try rw [World.frozen?_setCells] at hf16_1)
            (try rw [World.frozen?_setCells] at hf16_2)
            (try rw [World.frozen?_setCells] at hf16_3)
            clear hcl16 hcc16 hfr16 hM16
            replace p16 := eq_true p16
            replace q16 := eq_true q16
            obtain ⟨ce22, hcl22, hM22, hcc22, hfr22⟩ := Kd.R_elem HQ21.out z25 (q0 : Int) (of_decide_eq_true (by first | (with_reducible assumption) | assumption)) (by have h_ : (q0 : Int) < ((x0_2.length : Int) : Int) := of_decide_eq_true (by first | (with_reducible assumption) | assumption); first | exact h_ | (have e_ := (Kd.R_reads' HO_0.out).1; omega) | simpa using h_)
            obtain rfl := k25_openM hM22
            have HP22 := (Kd.R_seg HQ21.out (q0 : Int) (of_decide_eq_true (by first | (with_reducible assumption) | assumption)) (by have h_ : (q0 : Int) < ((x0_2.length : Int) : Int) := of_decide_eq_true (by first | (with_reducible assumption) | assumption); first | exact h_ | (have e_ := (Kd.R_reads' HO_0.out).1; omega) | simpa using h_) (seg := [.int .i64 ((rd_T25 x0_2 x9_2).f0), .int .i64 ((rd_T25 x0_2 x9_2).f1), .int .i64 ((rd_T25 x0_2 x9_2).f2), .int .i64 ((rd_T25 x0_2 x9_2).f3)]) (j := 0) hcl22 hcc22 (show 4 ≤ 4 from by decide) (x' := (⟨(rd_T25 x0_2 x9_2).f0, (rd_T25 x0_2 x9_2).f1, (rd_T25 x0_2 x9_2).f2, (rd_T25 x0_2 x9_2).f3⟩ : S25)) (k25_mkM _ _ _ (⟨(rd_T25 x0_2 x9_2).f0, (rd_T25 x0_2 x9_2).f1, (rd_T25 x0_2 x9_2).f2, (rd_T25 x0_2 x9_2).f3⟩ : S25) ) (fun _ hk => hk)).1
            rw [← Ny499.out] at HP22
            have HQ22 := Aside0.mk HP22
            clear hcl22 hcc22 hfr22 hM22 HP22
            refine start_ (n := 18) (S := fun w' => w'.cell? ⟨go15, ((q0).toNat * 4), none⟩ = some (.int .i64 ((rd_T25 x0_2 q0).f0)) ∧ w'.cell? ⟨go15, ((q0).toNat * 4) + 1, none⟩ = some (.int .i64 ((rd_T25 x0_2 q0).f1)) ∧ w'.cell? ⟨go15, ((q0).toNat * 4) + 2, none⟩ = some (.int .i64 ((rd_T25 x0_2 q0).f2)) ∧ w'.cell? ⟨go15, ((q0).toNat * 4) + 3, none⟩ = some (.int .i64 ((rd_T25 x0_2 q0).f3)) ∧ w'.cell? ⟨go15, ((x9_2).toNat * 4), none⟩ = some (.int .i64 ((rd_T25 x0_2 x9_2).f0)) ∧ w'.cell? ⟨go15, ((x9_2).toNat * 4) + 1, none⟩ = some (.int .i64 ((rd_T25 x0_2 x9_2).f1)) ∧ w'.cell? ⟨go15, ((x9_2).toNat * 4) + 2, none⟩ = some (.int .i64 ((rd_T25 x0_2 x9_2).f2)) ∧ w'.cell? ⟨go15, ((x9_2).toNat * 4) + 3, none⟩ = some (.int .i64 ((rd_T25 x0_2 x9_2).f3))) (ds := [15, 17]) #[false, false, false, false, false, false, false, false, false, false, false, false, false, false, false, false, false, false] (by kernel_rfl) rfl rfl ⟨qv, qw, qx, qy, qz, qA, qB, qC⟩ (fun hHeld => ?_); refine with_tabW api_GrMatrix_85.tab6 api_GrMatrix_85.bits6 (fun HT_ HW_ => ?_)
            generalize w19.drew = w20 at HO_0 HK HB GG15 HQ21 HQ22 hf15_0 hf15_1 hf15_2 hf15_3 hf16_0 hf16_1 hf16_2 hf16_3 qT qU qV qW qX qY qZ j0 q2 q3 q4 q5 q6 q7 q8 q9 qv qw qx qy qz qA qB qC hHeld ⊢
            refine pz 0 37 HT_ ?_
            refine pz 1 38 HT_ ?_
            refine pz 2 39 HT_ ?_
            refine pz 3 40 HT_ ?_
            refine pz 4 41 HT_ ?_
            refine pz 5 42 HT_ ?_
            refine pz 6 43 HT_ ?_
            refine pz 7 44 HT_ ?_
            refine pz 8 45 HT_ ?_
            refine pz 10 47 HT_ ?_
            refine pz 11 48 HT_ ?_
            refine pz 12 49 HT_ ?_
            refine tz 9 46 HT_ HW_ hHeld ?_
            refine tz 13 50 HT_ HW_ hHeld ?_
            refine pz 14 51 HT_ ?_
            refine last_ (i := 15) (N := none) #[true, true, true, true, true, true, true, true, true, true, true, true, true, true, true, true, false, false] rfl rfl (one_of HT_.out (by kernel_rfl)) (by decide) (fun K hK => ?_)
            refine skip_ (w1 := ?_) (by rfl) rfl ?_ ?_
            rotate_left
            ·go_simp
             rfl
            refine hK.out _ _ ?_
            clear hK K
            refine pz 16 52 HT_ ?_
            refine last_ (i := 17) (N := none) #[true, true, true, true, true, true, true, true, true, true, true, true, true, true, true, true, true, true] rfl rfl (one_of HT_.out (by kernel_rfl)) (by decide) (fun K hK => ?_)
            refine skip_ (w1 := ?_) (by rfl) rfl ?_ ?_
            rotate_left
            ·go_simp
             rfl
            refine hK.out _ _ ?_
            clear hK K
            refine done_ (done_of HT_.out (by kernel_rfl)) ?_
            try go_wp2
            go_roundg k2
            case measure => have := HK1.out; have := HK2.out; omega
            case rel => exact ⟨(qM), (q0), (by first | rfl | (simp; done) | (simp [*]; done)), H', ⟨by have := HK1.out; have := HK2.out; omega⟩, ⟨by (with_reducible repeat (first | apply Kd.R_alloc | apply Kd.R_drewN | apply Kd.R_drew)); exact HQ22.out⟩, ⟨by repeat (first | (with_reducible first | exact HK.out | apply Kept.alloc | apply Kept.drewN | apply Kept.drew | refine Kept.setCell ?_ HMgo15.out _ | refine Kept.setCell ?_ HMgo15.out _ | refine Kept.setCell ?_ HMgo15.out _ | refine Kept.setCell ?_ HMgo15.out _ | refine Kept.setCell ?_ HMgo15.out _ | refine Kept.setCell ?_ HMgo15.out _ | refine Kept.setCell ?_ HMgo15.out _ | refine Kept.setCell ?_ HMgo15.out _) | exact HK.out)⟩, ⟨by repeat (first | (with_reducible first | exact HB.out | apply below_alloc | apply pw_below_drewN | apply below_drew1 | refine below_set ?_ GB15.out | refine below_set ?_ GB15.out | refine below_set ?_ GB15.out | refine below_set ?_ GB15.out | refine below_set ?_ GB15.out | refine below_set ?_ GB15.out | refine below_set ?_ GB15.out | refine below_set ?_ GB15.out) | exact HB.out)⟩⟩
           ·rw [if_neg c14] at H
            have qP : decide (qe < 0) = false := decide_eq_false c14
            clear c14
            obtain ⟨qi, E230, H⟩ := oc H
            have E23w : (IntKind.i64.wrap (x8_1 + 1)) = qi := (i64_w _).trans E230
            have H' := Aside0.mk H
            clear H
            (try have hpz493 : q0.toNat < x9_2.toNat := wrap_pred E100 (of_decide_eq_true (by assumption)) (of_decide_eq_true (by assumption)))
            try go_wp2
            replace HO_0 := Aside0.mk (Kd.R_drew HO_0.out)
            replace HK := Aside0.mk (Kept.drew HK.out)
            replace HB := bdn HB
            obtain ⟨j2, j9, qK⟩ := Kd.R_slice HO_0.out
            (first | subst qK | (injection qK with f1_ f2_ f3_; have f4_ := f1_.symm; have f5_ := f3_.symm; clear f1_ f2_ f3_; subst f4_; subst f5_))
            have qa : 0 ≤ (x9_2 : Int) := of_decide_eq_true (by first | (with_reducible assumption) | assumption)
            have qc : x9_2 < (x0_2.length : Int) := of_decide_eq_true (by first | (with_reducible assumption) | assumption)
            obtain ⟨q1, qt, q2, q3, q4, q5⟩ := at_T25 (Kd.R_reads' HO_0.out).2.2 x9_2 qa qc
            cases qt
            replace qa := eq_true qa
            replace qc := eq_true qc
            have qb : 0 ≤ (q0 : Int) := of_decide_eq_true (by first | (with_reducible assumption) | assumption)
            have qd : q0 < (x0_2.length : Int) := of_decide_eq_true (by first | (with_reducible assumption) | assumption)
            obtain ⟨qs, qu, q6, q7, q8, q9⟩ := at_T25 (Kd.R_reads' HO_0.out).2.2 q0 qb qd
            obtain rfl : q1 = qs := (by injection qu)
            replace qb := eq_true qb
            replace qd := eq_true qd
            refine start_ (n := 17) (S := fun w' => w'.cell? (q1.add ((x9_2).toNat * 4)) = some (.int .i64 ((rd_T25 x0_2 x9_2).f0)) ∧ w'.cell? ⟨(q1.add ((x9_2).toNat * 4)).block, (q1.add ((x9_2).toNat * 4)).off + 1, none⟩ = some (.int .i64 ((rd_T25 x0_2 x9_2).f1)) ∧ w'.cell? ⟨(q1.add ((x9_2).toNat * 4)).block, (q1.add ((x9_2).toNat * 4)).off + 2, none⟩ = some (.int .i64 ((rd_T25 x0_2 x9_2).f2)) ∧ w'.cell? ⟨(q1.add ((x9_2).toNat * 4)).block, (q1.add ((x9_2).toNat * 4)).off + 3, none⟩ = some (.int .i64 ((rd_T25 x0_2 x9_2).f3)) ∧ w'.cell? (q1.add ((q0).toNat * 4)) = some (.int .i64 ((rd_T25 x0_2 q0).f0)) ∧ w'.cell? ⟨(q1.add ((q0).toNat * 4)).block, (q1.add ((q0).toNat * 4)).off + 1, none⟩ = some (.int .i64 ((rd_T25 x0_2 q0).f1)) ∧ w'.cell? ⟨(q1.add ((q0).toNat * 4)).block, (q1.add ((q0).toNat * 4)).off + 2, none⟩ = some (.int .i64 ((rd_T25 x0_2 q0).f2)) ∧ w'.cell? ⟨(q1.add ((q0).toNat * 4)).block, (q1.add ((q0).toNat * 4)).off + 3, none⟩ = some (.int .i64 ((rd_T25 x0_2 q0).f3))) (ds := []) #[false, false, false, false, false, false, false, false, false, false, false, false, false, false, false, false, false] (by kernel_rfl) rfl rfl ⟨q2, q3, q4, q5, q6, q7, q8, q9⟩ (fun hHeld => ?_); refine with_tabW api_GrMatrix_85.tab4 api_GrMatrix_85.bits4 (fun HT_ HW_ => ?_)
            generalize wr.drew = w24 at HO_0 HK HB q2 q3 q4 q5 q6 q7 q8 q9 hHeld ⊢
            refine pz 0 18 HT_ ?_
            refine pz 1 19 HT_ ?_
            refine pz 2 20 HT_ ?_
            refine pz 3 21 HT_ ?_
            refine pz 4 22 HT_ ?_
            refine pz 5 23 HT_ ?_
            refine pz 6 24 HT_ ?_
            refine pz 7 25 HT_ ?_
            refine pz 9 27 HT_ ?_
            refine pz 10 28 HT_ ?_
            refine pz 11 29 HT_ ?_
            refine pz 12 30 HT_ ?_
            refine tz 8 26 HT_ HW_ hHeld ?_
            refine tz 13 31 HT_ HW_ hHeld ?_
            refine one_ (i := 14) (N := some 32) #[true, true, true, true, true, true, true, true, true, true, true, true, true, true, true, false, false] rfl rfl (one_of HT_.out (by kernel_rfl)) (by decide) (fun K hK => ?_)
            refine goesV_ Try.func42 (by kernel_rfl) rfl #[.agg #[.int .i64 ((rd_T25 x0_2 x9_2).f0), .int .i64 ((rd_T25 x0_2 x9_2).f1), .int .i64 ((rd_T25 x0_2 x9_2).f2), .int .i64 ((rd_T25 x0_2 x9_2).f3)], .agg #[.int .i64 ((rd_T25 x0_2 q0).f0), .int .i64 ((rd_T25 x0_2 q0).f1), .int .i64 ((rd_T25 x0_2 q0).f2), .int .i64 ((rd_T25 x0_2 q0).f3)]] (by rfl) rfl rfl (by rfl) am ?_
            with_reducible refine (grids_order.calls k2 ((rd_T25 x0_2 x9_2).f0) ((rd_T25 x0_2 x9_2).f1) ((rd_T25 x0_2 x9_2).f2) ((rd_T25 x0_2 x9_2).f3) ((rd_T25 x0_2 q0).f0) ((rd_T25 x0_2 q0).f1) ((rd_T25 x0_2 q0).f2) ((rd_T25 x0_2 q0).f3) qe _ A13.out).mono ?_
            rintro e w26 ⟨rfl, hb⟩
            have qk := (hb.cell (World.block_lt_of_cell? _ _ (hHeld.1))).trans (hHeld.1)
            have ql := (hb.cell (World.block_lt_of_cell? _ _ (hHeld.2.1))).trans (hHeld.2.1)
            have qm := (hb.cell (World.block_lt_of_cell? _ _ (hHeld.2.2.1))).trans (hHeld.2.2.1)
            have qn := (hb.cell (World.block_lt_of_cell? _ _ (hHeld.2.2.2.1))).trans (hHeld.2.2.2.1)
            have qo := (hb.cell (World.block_lt_of_cell? _ _ (hHeld.2.2.2.2.1))).trans (hHeld.2.2.2.2.1)
            have qp := (hb.cell (World.block_lt_of_cell? _ _ (hHeld.2.2.2.2.2.1))).trans (hHeld.2.2.2.2.2.1)
            have qq := (hb.cell (World.block_lt_of_cell? _ _ (hHeld.2.2.2.2.2.2.1))).trans (hHeld.2.2.2.2.2.2.1)
            have qr := (hb.cell (World.block_lt_of_cell? _ _ (hHeld.2.2.2.2.2.2.2))).trans (hHeld.2.2.2.2.2.2.2)
            refine ⟨_, rfl, ?_⟩
            have n0_ := Aside0.mk (Kd.R_below (by (with_reducible repeat (first | apply Kd.R_alloc | apply Kd.R_drewN | apply Kd.R_drew)); exact HO_0.out) hb)
            have n1_ := Aside0.mk (Kept.below (S := (fun k_ => P0_ k_)) (by repeat (first | (with_reducible first | exact HK.out | apply Kept.alloc | apply Kept.drewN | apply Kept.drew) | exact HK.out)) hb)
            have n2_ := bst HB hb
            clear HO_0
            clear HK
            clear HB
            have HO_0 := n0_
            have HK := n1_
            have HB := n2_
            clear n0_ n1_ n2_
            (try clear hb)
            (try clear hb2)
            (try clear hk)
            (try clear hi)
            refine hK.out _ _ ⟨qk, ql, qm, qn, qo, qp, qq, qr⟩ (fun hHeld => ?_)
            clear hK K
            refine norm_ (a' := ?_) ?_ ?_
            rotate_left
            ·show Act.put _ (some 32) _ = _
             simp only [Act.put, List.setIfInBounds_toArray, List.set_cons_zero, List.set_cons_succ, i64_w, i32_w]
             rfl
            refine pz 15 33 HT_ ?_
            refine pz 16 34 HT_ ?_
            refine done_ (done_of HT_.out (by kernel_rfl)) ?_
            try go_wp2
            go_roundg k2
            case measure => have := HK1.out; have := HK2.out; omega
            case rel => exact ⟨(x0_2), (qi), (by first | rfl | (simp; done) | (simp [*]; done)), H', ⟨by have := HK1.out; have := HK2.out; omega⟩, ⟨by (with_reducible repeat (first | apply Kd.R_alloc | apply Kd.R_drewN | apply Kd.R_drew)); exact HO_0.out⟩, ⟨by repeat (first | (with_reducible first | exact HK.out | apply Kept.alloc | apply Kept.drewN | apply Kept.drew) | exact HK.out)⟩, ⟨bnow HB⟩⟩
          ·rw [if_neg c12] at H
           exact absurd H (by simp)
         ·rw [if_neg c11] at H
          exact absurd H (by simp)
        ·rw [if_neg c9] at H
         exact absurd H (by simp)
       ·rw [if_neg c8] at H
        exact absurd H (by simp)
      ·rw [if_neg c7] at H
       have qQ : decide (a1 < x9_2) = false := decide_eq_false c7
       clear c7
       obtain ⟨qj, E270, H⟩ := oc H
       have E27w : (IntKind.i64.wrap (x8_1 + 1)) = qj := (i64_w _).trans E270
       have H' := Aside0.mk H
       clear H
       try go_wp2
       replace HO_0 := Aside0.mk (Kd.R_drew HO_0.out)
       replace HK := Aside0.mk (Kept.drew HK.out)
       replace HB := bdn HB
       refine start_ (n := 17) (S := fun w' => True) (ds := []) #[false, false, false, false, false, false, false, false, false, false, false, false, false, false, false, false, false] (by kernel_rfl) rfl rfl trivial (fun hHeld => ?_); refine with_tabW api_GrMatrix_85.tab4 api_GrMatrix_85.bits4 (fun HT_ HW_ => ?_)
       generalize wr.drew = w28 at HO_0 HK HB hHeld ⊢
       refine pz 0 18 HT_ ?_
       refine pz 1 19 HT_ ?_
       refine pz 2 20 HT_ ?_
       refine pz 3 21 HT_ ?_
       refine pu 4 22 HT_ ?_
       refine pu 5 23 HT_ ?_
       refine pu 6 24 HT_ ?_
       refine pu 7 25 HT_ ?_
       refine pu 8 26 HT_ ?_
       refine pu 9 27 HT_ ?_
       refine pu 10 28 HT_ ?_
       refine pu 11 29 HT_ ?_
       refine pu 12 30 HT_ ?_
       refine pu 13 31 HT_ ?_
       refine pu 14 32 HT_ ?_
       refine pu 15 33 HT_ ?_
       refine pz 16 34 HT_ ?_
       refine done_ (done_of HT_.out (by kernel_rfl)) ?_
       try go_wp2
       go_roundg k2
       case measure => have := HK1.out; have := HK2.out; omega
       case rel => exact ⟨(x0_2), (qj), (by first | rfl | (simp; done) | (simp [*]; done)), H', ⟨by have := HK1.out; have := HK2.out; omega⟩, ⟨by (with_reducible repeat (first | apply Kd.R_alloc | apply Kd.R_drewN | apply Kd.R_drew)); exact HO_0.out⟩, ⟨by repeat (first | (with_reducible first | exact HK.out | apply Kept.alloc | apply Kept.drewN | apply Kept.drew) | exact HK.out)⟩, ⟨bnow HB⟩⟩
   ·rw [if_neg c6] at H
    have qH : decide (x8_1 < a2) = false := decide_eq_false c6
    clear c6
    obtain rfl := Option.some.inj H
    go_wp2
    first | go_end0 | ((try simp only [Exit.inBlock, Exit.then]); refine bodyPost_ret (results_none rfl _ _ _) rfl ?_)
    exact ⟨by first | rfl | (simp [errW_none, errW_some] <;> rfl) | (simp [*, errW_none, errW_some] <;> rfl), by (with_reducible repeat (first | apply Kd.R_alloc | apply Kd.R_drewN | apply Kd.R_drew)); exact HO_0.out, by repeat (first | (with_reducible first | exact HB.out | apply below_alloc | apply pw_below_drewN | apply below_drew1) | exact HB.out), by repeat (first | (with_reducible first | exact HK.out | apply Kept.alloc | apply Kept.drewN | apply Kept.drew) | exact HK.out)⟩
end
section
/-! ### api_GrMatrix_81: function 81 -/
mutual
def api_GrMatrix_81.l0 : Nat → List (S25) → Int → Int → Int → Bool → Option ((List (S25)))
 | 0, _, _, _, _, _ => none
 | k + 1, x0, x1, x2, x3, x10 => (some (wrap64 (x2 - x1))).bind fun q1 => (if q1 ≤ 12 then ((api_GrMatrix_85.f k x0 x1 x2).bind fun q2 => (some q2)) else (if x3 = 0 then (none) else (if x10 = true then (none) else (none))))
def api_GrMatrix_81.f : Nat → List (S25) → Int → Int → Int → Option ((List (S25)))
 | 0, _, _, _, _ => none
 | k + 1, l0, a1, a2, a3 => api_GrMatrix_81.l0 k l0 a1 a2 a3 true
end
theorem api_GrMatrix_81.mono_l : ∀ k, (∀ y0 y1 y2 y3, LeO (api_GrMatrix_81.f k y0 y1 y2 y3) (api_GrMatrix_81.f (k + 1) y0 y1 y2 y3)) ∧ (∀ y0 y1 y2 y3 y4, LeO (api_GrMatrix_81.l0 k y0 y1 y2 y3 y4) (api_GrMatrix_81.l0 (k + 1) y0 y1 y2 y3 y4))
 | 0 => ⟨fun _ _ _ _ r h => by simp [api_GrMatrix_81.f] at h, fun _ _ _ _ _ r h => by simp [api_GrMatrix_81.l0] at h⟩
 | k + 1 => by
  obtain ⟨ih0, ih1⟩ := api_GrMatrix_81.mono_l k
  refine ⟨?_, ?_⟩
  ·intro y0 y1 y2 y3
   unfold api_GrMatrix_81.f
   repeat' first
   | (with_reducible exact ih0 _ _ _ _)
   | (with_reducible exact ih1 _ _ _ _ _)
   | (with_reducible exact api_GrMatrix_85.mono _ _ _ _)
   | (with_reducible exact LeO.refl _)
   | (with_reducible exact LeO.none _)
   | (with_reducible refine LeO.ite ?_ ?_)
   | (with_reducible refine LeO.bind ?_ (fun _ => ?_))
   | exact ih0 _ _ _ _
   | exact ih1 _ _ _ _ _
   | exact api_GrMatrix_85.mono _ _ _ _
   | exact LeO.none _
   | refine LeO.ite ?_ ?_
   | refine LeO.bind ?_ (fun _ => ?_)
  ·intro y0 y1 y2 y3 y4
   unfold api_GrMatrix_81.l0
   repeat' first
   | (with_reducible exact ih0 _ _ _ _)
   | (with_reducible exact ih1 _ _ _ _ _)
   | (with_reducible exact api_GrMatrix_85.mono _ _ _ _)
   | (with_reducible exact LeO.refl _)
   | (with_reducible exact LeO.none _)
   | (with_reducible refine LeO.ite ?_ ?_)
   | (with_reducible refine LeO.bind ?_ (fun _ => ?_))
   | exact ih0 _ _ _ _
   | exact ih1 _ _ _ _ _
   | exact api_GrMatrix_85.mono _ _ _ _
   | exact LeO.none _
   | refine LeO.ite ?_ ?_
   | refine LeO.bind ?_ (fun _ => ?_)
theorem api_GrMatrix_81.mono : ∀ a0 a1 a2 a3 k, LeO (api_GrMatrix_81.f k a0 a1 a2 a3) (api_GrMatrix_81.f (k + 1) a0 a1 a2 a3) := by
 intro a0 a1 a2 a3 k
 obtain ⟨ih0, ih1⟩ := api_GrMatrix_81.mono_l k
 exact ih0 a0 a1 a2 a3
set_option maxHeartbeats 8000000 in
set_option maxRecDepth 100000 in
theorem api_GrMatrix_81.calls (k : Nat) : ∀ (P0_ : Nat → Prop) (q0 : Value) (l0 : List (S25)) (a1 : Int) (a2 : Int) (a3 : Int)  (r : List (S25)) (w0 w : World) (hB : Below w0.heap.size w0 w) (ho0 : Kd.R k25 25 w w0.heap.size P0_ q0 l0) (h : api_GrMatrix_81.f k l0 a1 a2 a3 = some r),
  Calls Try.prog 81 #[q0, .int .i64 a1, .int .i64 a2, .int .i64 a3, .func (.func 42) #[] #[]] w fun e w' => e = .returned (.tuple #[]) ∧ Kd.R k25 25 w' w0.heap.size (fun k_ => (P0_ k_ ∨ w.heap.size ≤ k_)) q0 r ∧ Below w0.heap.size w0 w' ∧ Kept w w' (fun k_ => P0_ k_) := by
 induction k using Nat.strongRecOn with
 | _ k ih =>
 intro P0_ q0 l0 a1 a2 a3 r w0 w hB ho0 h
 cases k with
 | zero => exact absurd h (by simp [api_GrMatrix_81.f])
 | succ k =>
 simp only [api_GrMatrix_81.f] at h
 have hu25 := Try.underlying25
 have HO0 := Aside0.mk (show Kd.R k25 25 w w0.heap.size (fun k_ => (P0_ k_ ∨ w.heap.size ≤ k_)) q0 l0 from Kd.R_mono ho0 (fun k_ hk => (.inl hk)))
 have HK := Aside0.mk (Kept.refl w (fun k_ => P0_ k_))
 have HW0 := Aside0.mk hB.size
 have HB := Aside0.mk hB
 clear hB
 have H : (api_GrMatrix_81.l0 k l0 a1 a2 a3 true) = some r := h
 clear h
 have H' := Aside0.mk H
 clear H
 go_enter Try.func81, Try.ntmps81
 go_wp2
 go_loopg [1, 2, 3, 10] k (fun kq v1 v2 v3 v10 w' => ∃ (x0_1 : List (S25)) (x1_1 : Int) (x2_1 : Int) (x3_1 : Int) (x10_1 : Bool), v1 = .int .i64 x1_1 ∧ v2 = .int .i64 x2_1 ∧ v3 = .int .i64 x3_1 ∧ v10 = .bool x10_1 ∧ Aside0 (api_GrMatrix_81.l0 kq x0_1 x1_1 x2_1 x3_1 x10_1 = some r) ∧ Aside0 (kq ≤ k) ∧ Aside0 (Kd.R k25 25 w' w0.heap.size (fun k_ => (P0_ k_ ∨ w.heap.size ≤ k_)) q0 x0_1) ∧ Aside0 (Kept w w' (fun k_ => P0_ k_)) ∧ Aside0 (Below w0.heap.size w0 w'))
 case atStart => exact ⟨(l0), (a1), (a2), (a3), (true), (by first | rfl | (simp; done) | (simp [*]; done)), (by first | rfl | (simp; done) | (simp [*]; done)), (by first | rfl | (simp; done) | (simp [*]; done)), (by first | rfl | (simp; done) | (simp [*]; done)), H', ⟨Nat.le_refl _⟩, ⟨by (with_reducible repeat (first | apply Kd.R_alloc | apply Kd.R_drewN | apply Kd.R_drew)); exact HO0.out⟩, ⟨by repeat (first | (with_reducible first | exact HK.out | apply Kept.alloc | apply Kept.drewN | apply Kept.drew) | exact HK.out)⟩, ⟨bnow HB⟩⟩
 case round =>
  clear H'
  try clear p2
  obtain ⟨x0_1, x1_1, x2_1, x3_1, x10_1, rfl, rfl, rfl, rfl, HA, HK1, HO_0, HK, HB⟩ := hrel
  cases gk with
  | zero => exact absurd HA.out (by simp [api_GrMatrix_81.l0])
  | succ k1 =>
   have H := HA.out
   clear HA
   simp only [api_GrMatrix_81.l0] at H
   obtain ⟨q1, E60, H⟩ := oc H
   have E6w : (IntKind.i64.wrap (x2_1 - x1_1)) = q1 := (i64_w _).trans E60
   by_cases c7 : q1 ≤ 12
   ·rw [if_pos c7] at H
    have q3 : decide (q1 ≤ 12) = true := decide_eq_true c7
    clear c7
    obtain ⟨q2, A8, H⟩ := ob H
    obtain rfl := Option.some.inj H
    obtain ⟨Ao9, co9, eo9⟩ := Kd.R_slice HO_0.out
    subst eo9
    go_wp2_with (first | ((with_reducible refine gate_callee (f := 85) rfl ?_); refine goesL_ (some 30) rfl rfl Try.func85 (by kernel_rfl) rfl #[.slice Ao9 x0_1.length co9, .int .i64 x1_1, .int .i64 x2_1, .func (.func 42) #[] #[]] rfl am ?_; (with_reducible refine (api_GrMatrix_85.calls k1 (fun k_ => some k_ = (.slice Ao9 x0_1.length co9 : Value).ownBlock) (.slice Ao9 x0_1.length co9) x0_1 x1_1 x2_1  q2 w0 _ ?side1 ?side2 A8.out).mono ?_); (case side1 => repeat (first | (with_reducible first | exact HB.out | apply below_alloc | apply pw_below_drewN | apply below_drew1) | exact HB.out)); (case side2 => exact Kd.R_tight rfl HO_0.out); rintro e w10 ⟨rfl, hy0, hb, hkp⟩; refine ⟨_, rfl, ?_⟩; have n0_ := Aside0.mk (Kd.R_reok rfl hy0 (fun k_ e_ => HO_0.out.1 k_ e_)); have n1_ := Aside0.mk (Kept.then_ (S := (fun k_ => P0_ k_)) (by repeat (first | (with_reducible first | exact HK.out | apply Kept.alloc | apply Kept.drewN | apply Kept.drew) | exact HK.out)) hkp (fun k_ hs_ => (fun e_ => (HO_0.out.1 k_ e_.symm)) hs_)); have n2_ := Aside0.mk (hb); clear HO_0; clear HK; clear HB; have HO_0 := n0_; have HK := n1_; have HB := n2_; clear n0_ n1_ n2_; (try clear hb); (try clear hkp); (try clear hy0)))
    first | go_end0 | ((try simp only [Exit.inBlock, Exit.then]); refine bodyPost_ret (results_none rfl _ _ _) rfl ?_)
    exact ⟨by first | rfl | (simp [errW_none, errW_some] <;> rfl) | (simp [*, errW_none, errW_some] <;> rfl), by (with_reducible repeat (first | apply Kd.R_alloc | apply Kd.R_drewN | apply Kd.R_drew)); exact HO_0.out, by repeat (first | (with_reducible first | exact HB.out | apply below_alloc | apply pw_below_drewN | apply below_drew1) | exact HB.out), by repeat (first | (with_reducible first | exact HK.out | apply Kept.alloc | apply Kept.drewN | apply Kept.drew) | exact HK.out)⟩
   ·rw [if_neg c7] at H
    have q3 : decide (q1 ≤ 12) = false := decide_eq_false c7
    clear c7
    by_cases c11 : x3_1 = 0
    ·rw [if_pos c11] at H
     exact absurd H (by simp)
    ·rw [if_neg c11] at H
     have q4 : (x3_1 == 0) = false := beq_eq_false_iff_ne.mpr c11
     have q5 : (x3_1 != 0) = true := bne_iff_ne.mpr c11
     by_cases c12 : x10_1 = true
     ·subst c12
      have H1 : (none) = some r := by rw [if_pos rfl] at H; exact H
      clear H
      have H := H1
      clear H1
      exact absurd H (by simp)
     ·replace c12 := Bool.eq_false_iff.mpr c12
      subst c12
      have H1 : (none) = some r := by rw [if_neg (show ¬ (false = true) by decide)] at H; exact H
      clear H
      have H := H1
      clear H1
      exact absurd H (by simp)
end
section
/-! ### api_GrMatrix_58: function 58 -/
def api_GrMatrix_58.f (k : Nat) (l0 : List (S25))  : Option ((List (S25))) := (bits_Len.f (IntKind.u64.wrap ((l0.length : Int)))).bind fun q0 => ((api_GrMatrix_81.f k l0 0 (l0.length : Int) q0).bind fun q1 => (some q1))
theorem api_GrMatrix_58.mono : ∀ a0 k, LeO (api_GrMatrix_58.f k a0) (api_GrMatrix_58.f (k + 1) a0) := by
 intro a0 k
 unfold api_GrMatrix_58.f
 repeat' first
   | (with_reducible exact api_GrMatrix_81.mono _ _ _ _ _)
   | (with_reducible exact LeO.refl _)
   | (with_reducible exact LeO.none _)
   | (with_reducible refine LeO.ite ?_ ?_)
   | (with_reducible refine LeO.bind ?_ (fun _ => ?_))
   | exact api_GrMatrix_81.mono _ _ _ _ _
   | exact LeO.none _
   | refine LeO.ite ?_ ?_
   | refine LeO.bind ?_ (fun _ => ?_)
set_option maxHeartbeats 8000000 in
set_option maxRecDepth 100000 in
theorem api_GrMatrix_58.calls (k : Nat) (P0_ : Nat → Prop) (q2 : Value) (l0 : List (S25))  (r : List (S25)) (w0 w : World) (hB : Below w0.heap.size w0 w) (ho0 : Kd.R k25 25 w w0.heap.size P0_ q2 l0) (h : api_GrMatrix_58.f k l0 = some r) :
  Calls Try.prog 58 #[q2, .func (.func 42) #[] #[]] w fun e w' => e = .returned (.tuple #[]) ∧ Kd.R k25 25 w' w0.heap.size (fun k_ => (P0_ k_ ∨ w.heap.size ≤ k_)) q2 r ∧ Below w0.heap.size w0 w' ∧ Kept w w' (fun k_ => P0_ k_) := by
 have HO0 := Aside0.mk (show Kd.R k25 25 w w0.heap.size (fun k_ => (P0_ k_ ∨ w.heap.size ≤ k_)) q2 l0 from Kd.R_mono ho0 (fun k_ hk => (.inl hk)))
 have HK := Aside0.mk (Kept.refl w (fun k_ => P0_ k_))
 have HW0 := Aside0.mk hB.size
 have HB := Aside0.mk hB
 clear hB
 have H : ((bits_Len.f (IntKind.u64.wrap ((l0.length : Int)))).bind fun q0 => ((api_GrMatrix_81.f k l0 0 (l0.length : Int) q0).bind fun q1 => (some q1))) = some r := h
 clear h
 obtain ⟨q0, A3, H⟩ := ob H
 obtain ⟨q1, A4, H⟩ := ob H
 obtain rfl := Option.some.inj H
 obtain ⟨Ao5, co5, eo5⟩ := Kd.R_slice HO0.out
 subst eo5
 go_enter Try.func58, Try.ntmps58
 go_wp2_with (first | ((with_reducible refine gate_callee (f := 82) rfl ?_); refine goesL_ (some 11) rfl rfl Try.func82 (by kernel_rfl) rfl #[.int .u64 (IntKind.u64.wrap ((l0.length : Int)))] rfl am ?_; (with_reducible refine (bits_Len.calls (IntKind.u64.wrap ((l0.length : Int))) q0 _ A3.out).mono ?_); rintro e w' ⟨rfl, ⟨nd, rfl⟩⟩; refine ⟨_, rfl, ?_⟩) | ((with_reducible refine gate_callee (f := 81) rfl ?_); refine goesL_ (some 13) rfl rfl Try.func81 (by kernel_rfl) rfl #[.slice Ao5 l0.length co5, .int .i64 0, .int .i64 (l0.length : Int), .int .i64 q0, .func (.func 42) #[] #[]] rfl am ?_; (with_reducible refine (api_GrMatrix_81.calls k (fun k_ => some k_ = (.slice Ao5 l0.length co5 : Value).ownBlock) (.slice Ao5 l0.length co5) l0 0 (l0.length : Int) q0  q1 w0 _ ?side1 ?side2 A4.out).mono ?_); (case side1 => repeat (first | (with_reducible first | exact HB.out | apply below_alloc | apply pw_below_drewN | apply below_drew1) | exact HB.out)); (case side2 => exact Kd.R_tight rfl HO0.out); rintro e w6 ⟨rfl, hy0, hb, hkp⟩; refine ⟨_, rfl, ?_⟩; have n0_ := Aside0.mk (Kd.R_reok rfl hy0 (fun k_ e_ => HO0.out.1 k_ e_)); have n1_ := Aside0.mk (Kept.then_ (S := (fun k_ => P0_ k_)) (by repeat (first | (with_reducible first | exact HK.out | apply Kept.alloc | apply Kept.drewN | apply Kept.drew) | exact HK.out)) hkp (fun k_ hs_ => (fun e_ => (HO0.out.1 k_ e_.symm)) hs_)); have n2_ := Aside0.mk (hb); clear HO0; clear HK; clear HB; have HO0 := n0_; have HK := n1_; have HB := n2_; clear n0_ n1_ n2_; (try clear hb); (try clear hkp); (try clear hy0)))
 first | go_end0 | ((try simp only [Exit.inBlock, Exit.then]); refine bodyPost_ret (results_none rfl _ _ _) rfl ?_)
 exact ⟨by first | rfl | (simp [errW_none, errW_some] <;> rfl) | (simp [*, errW_none, errW_some] <;> rfl), by (with_reducible repeat (first | apply Kd.R_alloc | apply Kd.R_drewN | apply Kd.R_drew)); exact HO0.out, by repeat (first | (with_reducible first | exact HB.out | apply below_alloc | apply pw_below_drewN | apply below_drew1) | exact HB.out), by repeat (first | (with_reducible first | exact HK.out | apply Kept.alloc | apply Kept.drewN | apply Kept.drew) | exact HK.out)⟩
end
end Go.Proofs.Ytmcajdepoohlhaa.G
