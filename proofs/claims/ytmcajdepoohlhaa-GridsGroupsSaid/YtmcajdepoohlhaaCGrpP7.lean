/- Functions of the program as plain Lean functions, and their contracts (printed by a program of this session). No condition beyond what each states. -/
import Derived.Test.YtmcajdepoohlhaaCGrpY
import Derived.Test.YtmcajdepoohlhaaCGrpP0
import Derived.Test.YtmcajdepoohlhaaCGrpP5
import Derived.Test.YtmcajdepoohlhaaCGrpP6
import Derived.Test.YtmcajdepoohlhaaCGrpP4
namespace Go.Proofs.Ytmcajdepoohlhaa.G
open Go.RowKit Go.Proofs.YtmcajdepoohlhaaW.PrintWords Go.Proofs.YtmcajdepoohlhaaW.PrintLast Go.Proofs.YtmcajdepoohlhaaW.PrintMore
attribute [local go_sem] max2_int min2_int max_two min_two max_three min_three max_four min_four
set_option linter.unusedVariables false
set_option linter.unusedSimpArgs false
section
/-! ### torchonref06_Group: function 23 -/
def torchonref06_Group.f (k : Nat) (a0_0 : Int) (a0_1 : Int) (a0_2 : Int) : Option ((List (S25)) × Int) := (torchonref06_Check.f k a0_0 a0_1 a0_2).bind fun q0 => (if q0 = 0 then ((torchonref06_Leading.f k a0_0 a0_1 a0_2 a0_0 a0_1 a0_2).bind fun q2 => (some (q2, 0))) else (some (([] : List (S25)), 2)))
theorem torchonref06_Group.mono : ∀ a0 a1 a2 k, LeO (torchonref06_Group.f k a0 a1 a2) (torchonref06_Group.f (k + 1) a0 a1 a2) := by
 intro a0 a1 a2 k
 unfold torchonref06_Group.f
 repeat' first
   | (with_reducible exact torchonref06_Check.mono _ _ _ _)
   | (with_reducible exact torchonref06_Leading.mono _ _ _ _ _ _ _)
   | (with_reducible exact LeO.refl _)
   | (with_reducible exact LeO.none _)
   | (with_reducible refine LeO.ite ?_ ?_)
   | (with_reducible refine LeO.bind ?_ (fun _ => ?_))
   | exact torchonref06_Check.mono _ _ _ _
   | exact torchonref06_Leading.mono _ _ _ _ _ _ _
   | exact LeO.none _
   | refine LeO.ite ?_ ?_
   | refine LeO.bind ?_ (fun _ => ?_)
set_option maxHeartbeats 8000000 in
set_option maxRecDepth 100000 in
theorem torchonref06_Group.calls (k : Nat) (a0_0 : Int) (a0_1 : Int) (a0_2 : Int) (r1 : List (S25)) (r2 : Int) (w : World) (h : torchonref06_Group.f k a0_0 a0_1 a0_2 = some (r1, r2)) :
  Calls Try.prog 23 #[.agg #[.int .i64 a0_0, .int .i64 a0_1, .int .i64 a0_2]] w fun e w' => ∃ v0_ : Value, e = .returned (.tuple #[v0_, .int .i64 r2]) ∧ Kd.R k25 25 w' w.heap.size (fun _ => True) v0_ r1 ∧ Below w.heap.size w w' := by
 have hu23 := Try.underlying23
 have HB := Aside0.mk (Below.refl w.heap.size w)
 have H : ((torchonref06_Check.f k a0_0 a0_1 a0_2).bind fun q0 => (if q0 = 0 then ((torchonref06_Leading.f k a0_0 a0_1 a0_2 a0_0 a0_1 a0_2).bind fun q2 => (some (q2, 0))) else (some (([] : List (S25)), 2)))) = some (r1, r2) := h
 clear h
 obtain ⟨q0, A2, H⟩ := ob H
 by_cases c3 : q0 = 0
 ·rw [if_pos c3] at H
  have q6 : (q0 == 0) = true := beq_iff_eq.mpr c3
  have q7 : (q0 != 0) = false := bne_eq_false_iff_eq.mpr c3
  clear c3
  obtain ⟨q2, A4, H⟩ := ob H
  simp only [Option.some.injEq, Prod.mk.injEq] at H
  obtain ⟨rfl, rfl⟩ := H
  go_enter Try.func23, Try.ntmps23
  go_wp2_with (first | ((with_reducible refine gate_dst (N := 1) rfl ?_); refine bx 1 #[.int .i64 a0_0, .int .i64 a0_1, .int .i64 a0_2] 23 fun q8 hg w5 q1 hb => ?_; have q4 := gw hg HB; have q3 := gw hg HB; replace HB := bst HB hb; clear hb hg; have ⟨qc, qd, qe, ql, qm, qn⟩ := cf3 q1) | ((with_reducible refine gate_callee (f := 43) rfl ?_); refine gl 5 Try.func43 (torchonref06_Check.calls k a0_0 a0_1 a0_2 q0 _ A2.out) ?_; rintro e w7 ⟨rfl, hb⟩; refine ⟨_, rfl, ?_⟩; replace q1 := bb q1 hb; replace HB := bst HB hb; clear hb; have ⟨qf, qg, qh, qo, qp, qq⟩ := cf3 q1) | ((with_reducible refine gate_callee (f := 45) rfl ?_); refine goesL_ (some 9) rfl rfl Try.func45 (by kernel_rfl) rfl #[.agg #[.int .i64 a0_0, .int .i64 a0_1, .int .i64 a0_2], .agg #[.int .i64 a0_0, .int .i64 a0_1, .int .i64 a0_2]] rfl am ?_; (with_reducible refine (torchonref06_Leading.calls k a0_0 a0_1 a0_2 a0_0 a0_1 a0_2 q2 _ A4.out).mono ?_); rintro e w9 ⟨v794, rfl, ho0, hb⟩; refine ⟨_, rfl, ?_⟩; have q5 := Aside0.mk (Kd.R_lower ho0 (below_size (bnow HB))); replace q1 := bb q1 hb; replace HB := bst HB hb; (try clear hb); (try clear hb2); (try clear hk); (try clear hi); (try clear ho0)))
  go_ret2
  exact ⟨_, by first | rfl | (simp [errW_none, errW_some] <;> rfl) | (simp [*, errW_none, errW_some] <;> rfl), by (with_reducible repeat (first | apply Kd.R_alloc | apply Kd.R_drewN | apply Kd.R_drew)); exact q5.out, by repeat (first | (with_reducible first | exact HB.out | apply below_alloc | apply pw_below_drewN | apply below_drew1 | refine below_set ?_ q3.out) | exact HB.out)⟩
 ·rw [if_neg c3] at H
  have q6 : (q0 == 0) = false := beq_eq_false_iff_ne.mpr c3
  have q7 : (q0 != 0) = true := bne_iff_ne.mpr c3
  simp only [Option.some.injEq, Prod.mk.injEq] at H
  obtain ⟨rfl, rfl⟩ := H
  go_enter Try.func23, Try.ntmps23
  go_wp2_with (first | ((with_reducible refine gate_dst (N := 1) rfl ?_); refine bx 1 #[.int .i64 a0_0, .int .i64 a0_1, .int .i64 a0_2] 23 fun q8 hg w10 q1 hb => ?_; have q4 := gw hg HB; have q3 := gw hg HB; replace HB := bst HB hb; clear hb hg; have ⟨q9, qa, qb, qi, qj, qk⟩ := cf3 q1) | ((with_reducible refine gate_callee (f := 43) rfl ?_); refine gl 5 Try.func43 (torchonref06_Check.calls k a0_0 a0_1 a0_2 q0 _ A2.out) ?_; rintro e w12 ⟨rfl, hb⟩; refine ⟨_, rfl, ?_⟩; replace q1 := bb q1 hb; replace HB := bst HB hb; clear hb))
  go_ret2
  exact ⟨_, by first | rfl | (simp [errW_none, errW_some] <;> rfl) | (simp [*, errW_none, errW_some] <;> rfl), by first | exact Kd.R_nil _ _ _ _ _ | exact Kd.N_nil _ _ _ _ _ | exact Kd.V_nil _ _ _ _ _ | exact Kd.Q_nil _ _ _ _ _ | exact Kd.S_nil _ _ _ _ _, by repeat (first | (with_reducible first | exact HB.out | apply below_alloc | apply pw_below_drewN | apply below_drew1 | refine below_set ?_ q3.out) | exact HB.out)⟩
end
section
attribute [local go_sem high] eqA23
/-! ### grids_Keeps: function 24 -/
def grids_Keeps.f (k : Nat) (a0_0 : Int) (a0_1 : Int) (a0_2 : Int) (a1_0 : Int) (a1_1 : Int) (a1_2 : Int) (a1_3 : Int) : Option (Bool × Int) := (grids_Check.f k a0_0 a0_1 a0_2).bind fun q2 => (if q2 = 0 then ((grids_matrix.f a1_0 a1_1 a1_2 a1_3).bind fun q8 => (if q8 = true then ((grids_lead.f a0_0 a0_1 a0_2 a1_0 a1_1 a1_2 a1_3).bind fun q3 => (some ((q3.1 == a0_0 && (q3.2.1 == a0_1 && (q3.2.2 == a0_2))), 0))) else (some (false, 2)))) else (some (false, 2)))
theorem grids_Keeps.mono : ∀ a0 a1 a2 a3 a4 a5 a6 k, LeO (grids_Keeps.f k a0 a1 a2 a3 a4 a5 a6) (grids_Keeps.f (k + 1) a0 a1 a2 a3 a4 a5 a6) := by
 intro a0 a1 a2 a3 a4 a5 a6 k
 unfold grids_Keeps.f
 repeat' first
   | (with_reducible exact grids_Check.mono _ _ _ _)
   | (with_reducible exact LeO.refl _)
   | (with_reducible exact LeO.none _)
   | (with_reducible refine LeO.ite ?_ ?_)
   | (with_reducible refine LeO.bind ?_ (fun _ => ?_))
   | exact grids_Check.mono _ _ _ _
   | exact LeO.none _
   | refine LeO.ite ?_ ?_
   | refine LeO.bind ?_ (fun _ => ?_)
set_option maxHeartbeats 8000000 in
set_option maxRecDepth 100000 in
theorem grids_Keeps.calls (k : Nat) (a0_0 : Int) (a0_1 : Int) (a0_2 : Int) (a1_0 : Int) (a1_1 : Int) (a1_2 : Int) (a1_3 : Int) (r1 : Bool) (r2 : Int) (w : World) (h : grids_Keeps.f k a0_0 a0_1 a0_2 a1_0 a1_1 a1_2 a1_3 = some (r1, r2)) :
  Calls Try.prog 24 #[.agg #[.int .i64 a0_0, .int .i64 a0_1, .int .i64 a0_2], .agg #[.int .i64 a1_0, .int .i64 a1_1, .int .i64 a1_2, .int .i64 a1_3]] w fun e w' => e = .returned (.tuple #[.bool r1, .int .i64 r2]) ∧ Below w.heap.size w w' := by
 have hu23 := Try.underlying23
 have hu25 := Try.underlying25
 have HB := Aside0.mk (Below.refl w.heap.size w)
 have H : ((grids_Check.f k a0_0 a0_1 a0_2).bind fun q2 => (if q2 = 0 then ((grids_matrix.f a1_0 a1_1 a1_2 a1_3).bind fun q8 => (if q8 = true then ((grids_lead.f a0_0 a0_1 a0_2 a1_0 a1_1 a1_2 a1_3).bind fun q3 => (some ((q3.1 == a0_0 && (q3.2.1 == a0_1 && (q3.2.2 == a0_2))), 0))) else (some (false, 2)))) else (some (false, 2)))) = some (r1, r2) := h
 clear h
 obtain ⟨q2, A3, H⟩ := ob H
 by_cases c4 : q2 = 0
 ·rw [if_pos c4] at H
  have qd : (q2 == 0) = true := beq_iff_eq.mpr c4
  have qe : (q2 != 0) = false := bne_eq_false_iff_eq.mpr c4
  clear c4
  obtain ⟨q8, A5, H⟩ := ob H
  by_cases c6 : q8 = true
  ·subst c6
   have H1 : ((grids_lead.f a0_0 a0_1 a0_2 a1_0 a1_1 a1_2 a1_3).bind fun q3 => (some ((q3.1 == a0_0 && (q3.2.1 == a0_1 && (q3.2.2 == a0_2))), 0))) = some (r1, r2) := by rw [if_pos rfl] at H; exact H
   clear H
   have H := H1
   clear H1
   obtain ⟨⟨qf, qg, qh⟩, A7, H⟩ := ob H
   simp only [Option.some.injEq, Prod.mk.injEq] at H
   obtain ⟨rfl, rfl⟩ := H
   go_enter Try.func24, Try.ntmps24
   try go_wp2_with (first | ((with_reducible refine gate_dst (N := 2) rfl ?_); refine bx 2 #[.int .i64 a0_0, .int .i64 a0_1, .int .i64 a0_2] 23 fun q7 hg w8 q0 hb => ?_; have qb := gw hg HB; have q9 := gw hg HB; replace HB := bst HB hb; clear hb hg) | ((with_reducible refine gate_dst (N := 3) rfl ?_); refine bx 3 #[.int .i64 a1_0, .int .i64 a1_1, .int .i64 a1_2, .int .i64 a1_3] 25 fun q4 hg w9 q1 hb => ?_; have qc := gw hg HB; have qa := gw hg HB; have q5 := nlt hg q0; have q6 := ngt hg q0; replace q0 := bb q0 hb; replace HB := bst HB hb; clear hb hg; have qQ := q5.out; have qT := q6.out; have ⟨qi, qj, qk, qz, qA, qB⟩ := cf3 q0) | ((with_reducible refine gate_callee (f := 14) rfl ?_); refine gl 7 Try.func14 (grids_Check.calls k a0_0 a0_1 a0_2 q2 _ A3.out) ?_; rintro e w12 ⟨rfl, hb⟩; refine ⟨_, rfl, ?_⟩; replace q0 := bb q0 hb; replace q1 := bb q1 hb; replace HB := bst HB hb; clear hb; have ⟨ql, qm, qn, qo, qC, qD, qE, qF⟩ := cf4 q1) | (go_at_call 59; (with_reducible refine (grids_matrix.calls a1_0 a1_1 a1_2 a1_3 true _ A5.out).mono ?_); rintro e w14 ⟨rfl, hb⟩; replace q0 := bb q0 hb; replace q1 := bb q1 hb; replace HB := bst HB hb; clear hb))
   replace q0 := bd q0
   replace q1 := bd q1
   replace HB := bdn HB
   refine start_ (n := 7) (S := fun w' => w'.cell? ⟨q7, 0, none⟩ = some (.int .i64 a0_0) ∧ w'.cell? ⟨q7, 1, none⟩ = some (.int .i64 a0_1) ∧ w'.cell? ⟨q7, 2, none⟩ = some (.int .i64 a0_2) ∧ w'.cell? ⟨q4, 0, none⟩ = some (.int .i64 a1_0) ∧ w'.cell? ⟨q4, 1, none⟩ = some (.int .i64 a1_1) ∧ w'.cell? ⟨q4, 2, none⟩ = some (.int .i64 a1_2) ∧ w'.cell? ⟨q4, 3, none⟩ = some (.int .i64 a1_3)) (ds := []) #[false, false, false, false, false, false, false] (by kernel_rfl) rfl rfl ⟨(blk_cell q0.out 0).trans rfl, (blk_cell q0.out 1).trans rfl, (blk_cell q0.out 2).trans rfl, (blk_cell q1.out 0).trans rfl, (blk_cell q1.out 1).trans rfl, (blk_cell q1.out 2).trans rfl, (blk_cell q1.out 3).trans rfl⟩ (fun hHeld => ?_)
   generalize w14.drew = w15 at q0 q1 HB hHeld ⊢
   refine take_ (i := 0) (N := some 14) (v := ?_) (a' := ?_) #[true, false, false, false, false, false, false] rfl rfl (by kernel_rfl) (fun _ _ _ h => h) (Or.inl ⟨by rfl, ?_⟩) hHeld ?_ ?_
   rotate_left
   ·rintro w' ⟨s0, s1, s2, s3, s4, s5, s6⟩
    go_simp
    with_reducible rfl
   rotate_left
   ·simp only [Act.put, List.setIfInBounds_toArray, List.set_cons_zero, List.set_cons_succ, i64_w, i32_w]
    rfl
   refine take_ (i := 1) (N := some 15) (v := ?_) (a' := ?_) #[true, true, false, false, false, false, false] rfl rfl (by kernel_rfl) (fun _ _ _ h => h) (Or.inl ⟨by rfl, ?_⟩) hHeld ?_ ?_
   rotate_left
   ·rintro w' ⟨s0, s1, s2, s3, s4, s5, s6⟩
    go_simp
    with_reducible rfl
   rotate_left
   ·simp only [Act.put, List.setIfInBounds_toArray, List.set_cons_zero, List.set_cons_succ, i64_w, i32_w]
    rfl
   refine take_ (i := 3) (N := some 17) (v := ?_) (a' := ?_) #[true, true, false, true, false, false, false] rfl rfl (by kernel_rfl) (fun _ _ _ h => h) (Or.inl ⟨by rfl, ?_⟩) hHeld ?_ ?_
   rotate_left
   ·rintro w' ⟨s0, s1, s2, s3, s4, s5, s6⟩
    go_simp
    with_reducible rfl
   rotate_left
   ·simp only [Act.put, List.setIfInBounds_toArray, List.set_cons_zero, List.set_cons_succ, i64_w, i32_w]
    rfl
   refine one_ (i := 2) (N := some 16) #[true, true, true, true, false, false, false] rfl rfl (by kernel_rfl) (by decide) (fun K hK => ?_)
   refine gs _ Try.func60 (grids_lead.calls a0_0 a0_1 a0_2 a1_0 a1_1 a1_2 a1_3 qf qg qh _ A7.out) ?_
   rintro e w16 ⟨rfl, hb⟩
   refine ⟨_, rfl, ?_⟩
   replace q0 := bb q0 hb
   replace q1 := bb q1 hb
   replace HB := bst HB hb
   (try clear hb)
   (try clear hb2)
   (try clear hk)
   (try clear hi)
   refine hK.out _ _ ⟨(blk_cell q0.out 0).trans rfl, (blk_cell q0.out 1).trans rfl, (blk_cell q0.out 2).trans rfl, (blk_cell q1.out 0).trans rfl, (blk_cell q1.out 1).trans rfl, (blk_cell q1.out 2).trans rfl, (blk_cell q1.out 3).trans rfl⟩ (fun hHeld => ?_)
   clear hK K
   refine norm_ (a' := ?_) ?_ ?_
   rotate_left
   ·show Act.put _ (some 16) _ = _
    simp only [Act.put, List.setIfInBounds_toArray, List.set_cons_zero, List.set_cons_succ, i64_w, i32_w]
    rfl
   refine pure_ (i := 4) (N := some 18) (v := ?_) (a' := ?_) #[true, true, true, true, true, false, false] rfl rfl (by kernel_rfl) (fun _ _ _ h => h) (Or.inl ⟨by rfl, ?_⟩) ?_ ?_
   rotate_left
   ·intro w'
    go_simp
    with_reducible rfl
   rotate_left
   ·simp only [Act.put, List.setIfInBounds_toArray, List.set_cons_zero, List.set_cons_succ, i64_w, i32_w]
    rfl
   refine pure_ (i := 5) (N := some 4) (v := ?_) (a' := ?_) #[true, true, true, true, true, true, false] rfl rfl (by kernel_rfl) (fun _ _ _ h => h) (Or.inl ⟨by rfl, ?_⟩) ?_ ?_
   rotate_left
   ·intro w'
    go_simp
    with_reducible rfl
   rotate_left
   ·simp only [Act.put, List.setIfInBounds_toArray, List.set_cons_zero, List.set_cons_succ, i64_w, i32_w]
    rfl
   refine pure_ (i := 6) (N := some 5) (v := ?_) (a' := ?_) #[true, true, true, true, true, true, true] rfl rfl (by kernel_rfl) (fun _ _ _ h => h) (Or.inl ⟨by rfl, ?_⟩) ?_ ?_
   rotate_left
   ·intro w'
    go_simp
    with_reducible rfl
   rotate_left
   ·simp only [Act.put, List.setIfInBounds_toArray, List.set_cons_zero, List.set_cons_succ, i64_w, i32_w]
    rfl
   refine done_ (by kernel_rfl) ?_
   try go_wp2
   go_ret2
   exact rt HB
  ·replace c6 := Bool.eq_false_iff.mpr c6
   subst c6
   have H1 : (some (false, 2)) = some (r1, r2) := by rw [if_neg (show ¬ (false = true) by decide)] at H; exact H
   clear H
   have H := H1
   clear H1
   simp only [Option.some.injEq, Prod.mk.injEq] at H
   obtain ⟨rfl, rfl⟩ := H
   go_enter Try.func24, Try.ntmps24
   go_wp2_with (first | ((with_reducible refine gate_dst (N := 2) rfl ?_); refine bx 2 #[.int .i64 a0_0, .int .i64 a0_1, .int .i64 a0_2] 23 fun q7 hg w17 q0 hb => ?_; have qb := gw hg HB; have q9 := gw hg HB; replace HB := bst HB hb; clear hb hg) | ((with_reducible refine gate_dst (N := 3) rfl ?_); refine bx 3 #[.int .i64 a1_0, .int .i64 a1_1, .int .i64 a1_2, .int .i64 a1_3] 25 fun q4 hg w18 q1 hb => ?_; have qc := gw hg HB; have qa := gw hg HB; have q5 := nlt hg q0; have q6 := ngt hg q0; replace q0 := bb q0 hb; replace HB := bst HB hb; clear hb hg; have qR := q5.out; have qU := q6.out; have ⟨qp, qq, qr, qG, qH, qI⟩ := cf3 q0) | ((with_reducible refine gate_callee (f := 14) rfl ?_); refine gl 7 Try.func14 (grids_Check.calls k a0_0 a0_1 a0_2 q2 _ A3.out) ?_; rintro e w21 ⟨rfl, hb⟩; refine ⟨_, rfl, ?_⟩; replace q0 := bb q0 hb; replace q1 := bb q1 hb; replace HB := bst HB hb; clear hb; have ⟨qs, qt, qu, qv, qJ, qK, qL, qM⟩ := cf4 q1) | (go_at_call 59; (with_reducible refine (grids_matrix.calls a1_0 a1_1 a1_2 a1_3 false _ A5.out).mono ?_); rintro e w23 ⟨rfl, hb⟩; replace q0 := bb q0 hb; replace q1 := bb q1 hb; replace HB := bst HB hb; clear hb))
   go_ret2
   exact rt HB
 ·rw [if_neg c4] at H
  have qd : (q2 == 0) = false := beq_eq_false_iff_ne.mpr c4
  have qe : (q2 != 0) = true := bne_iff_ne.mpr c4
  simp only [Option.some.injEq, Prod.mk.injEq] at H
  obtain ⟨rfl, rfl⟩ := H
  go_enter Try.func24, Try.ntmps24
  go_wp2_with (first | ((with_reducible refine gate_dst (N := 2) rfl ?_); refine bx 2 #[.int .i64 a0_0, .int .i64 a0_1, .int .i64 a0_2] 23 fun q7 hg w24 q0 hb => ?_; have qb := gw hg HB; have q9 := gw hg HB; replace HB := bst HB hb; clear hb hg) | ((with_reducible refine gate_dst (N := 3) rfl ?_); refine bx 3 #[.int .i64 a1_0, .int .i64 a1_1, .int .i64 a1_2, .int .i64 a1_3] 25 fun q4 hg w25 q1 hb => ?_; have qc := gw hg HB; have qa := gw hg HB; have q5 := nlt hg q0; have q6 := ngt hg q0; replace q0 := bb q0 hb; replace HB := bst HB hb; clear hb hg; have qS := q5.out; have qV := q6.out; have ⟨qw, qx, qy, qN, qO, qP⟩ := cf3 q0) | ((with_reducible refine gate_callee (f := 14) rfl ?_); refine gl 7 Try.func14 (grids_Check.calls k a0_0 a0_1 a0_2 q2 _ A3.out) ?_; rintro e w28 ⟨rfl, hb⟩; refine ⟨_, rfl, ?_⟩; replace q0 := bb q0 hb; replace q1 := bb q1 hb; replace HB := bst HB hb; clear hb))
  go_ret2
  exact rt HB
end
section
/-! ### torchonref06_Matrix: function 15 -/
def torchonref06_Matrix.f (a0_0 : Int) (a0_1 : Int) (a0_2 : Int) (a0_3 : Int) : Option (Bool) := (torchonref06_from.f a0_0 (-10000) 10000).bind fun q4 => (if q4 = true then ((torchonref06_from.f a0_1 (-10000) 10000).bind fun q3 => (if q3 = true then ((torchonref06_from.f a0_2 (-10000) 10000).bind fun q1 => (if q1 = true then ((torchonref06_from.f a0_3 (-10000) 10000).bind fun q0 => (some q0)) else (some false))) else (some false))) else (some false))
set_option maxHeartbeats 8000000 in
set_option maxRecDepth 100000 in
theorem torchonref06_Matrix.calls (a0_0 : Int) (a0_1 : Int) (a0_2 : Int) (a0_3 : Int) (r : Bool) (w : World) (h : torchonref06_Matrix.f a0_0 a0_1 a0_2 a0_3 = some r) :
  Calls Try.prog 15 #[.agg #[.int .i64 a0_0, .int .i64 a0_1, .int .i64 a0_2, .int .i64 a0_3]] w fun e w' => e = .returned (.bool r) ∧ Below w.heap.size w w' := by
 have hu25 := Try.underlying25
 have HB := Aside0.mk (Below.refl w.heap.size w)
 have H : ((torchonref06_from.f a0_0 (-10000) 10000).bind fun q4 => (if q4 = true then ((torchonref06_from.f a0_1 (-10000) 10000).bind fun q3 => (if q3 = true then ((torchonref06_from.f a0_2 (-10000) 10000).bind fun q1 => (if q1 = true then ((torchonref06_from.f a0_3 (-10000) 10000).bind fun q0 => (some q0)) else (some false))) else (some false))) else (some false))) = some r := h
 clear h
 obtain ⟨q4, A2, H⟩ := ob H
 by_cases c3 : q4 = true
 ·subst c3
  have H1 : ((torchonref06_from.f a0_1 (-10000) 10000).bind fun q3 => (if q3 = true then ((torchonref06_from.f a0_2 (-10000) 10000).bind fun q1 => (if q1 = true then ((torchonref06_from.f a0_3 (-10000) 10000).bind fun q0 => (some q0)) else (some false))) else (some false))) = some r := by rw [if_pos rfl] at H; exact H
  clear H
  have H := H1
  clear H1
  obtain ⟨q3, A4, H⟩ := ob H
  by_cases c5 : q3 = true
  ·subst c5
   have H1 : ((torchonref06_from.f a0_2 (-10000) 10000).bind fun q1 => (if q1 = true then ((torchonref06_from.f a0_3 (-10000) 10000).bind fun q0 => (some q0)) else (some false))) = some r := by rw [if_pos rfl] at H; exact H
   clear H
   have H := H1
   clear H1
   obtain ⟨q1, A6, H⟩ := ob H
   by_cases c7 : q1 = true
   ·subst c7
    have H1 : ((torchonref06_from.f a0_3 (-10000) 10000).bind fun q0 => (some q0)) = some r := by rw [if_pos rfl] at H; exact H
    clear H
    have H := H1
    clear H1
    obtain ⟨q0, A8, H⟩ := ob H
    obtain rfl := Option.some.inj H
    go_enter Try.func15, Try.ntmps15
    go_wp2_with (first | ((with_reducible refine gate_dst (N := 1) rfl ?_); refine bx 1 #[.int .i64 a0_0, .int .i64 a0_1, .int .i64 a0_2, .int .i64 a0_3] 25 fun q7 hg w9 q2 hb => ?_; have q6 := gw hg HB; have q5 := gw hg HB; replace HB := bst HB hb; clear hb hg; have ⟨q8, q9, qa, qb, qo, qp, qq, qr⟩ := cf4 q2) | ((with_reducible refine gate_callee (f := 47) rfl ?_); refine goesL_ (some 5) rfl rfl Try.func47 (by kernel_rfl) rfl #[.int .i64 a0_0, .int .i64 (-10000), .int .i64 10000] rfl am ?_; (with_reducible refine (torchonref06_from.calls a0_0 (-10000) 10000 true _ A2.out).mono ?_); rintro e w' ⟨rfl, ⟨nd, rfl⟩⟩; refine ⟨_, rfl, ?_⟩) | (go_at_call 47; (with_reducible refine (torchonref06_from.calls a0_1 (-10000) 10000 true _ A4.out).mono ?_); rintro e w' ⟨rfl, ⟨nd, rfl⟩⟩) | (go_at_call 47; (with_reducible refine (torchonref06_from.calls a0_2 (-10000) 10000 true _ A6.out).mono ?_); rintro e w' ⟨rfl, ⟨nd, rfl⟩⟩) | (go_at_call 47; (with_reducible refine (torchonref06_from.calls a0_3 (-10000) 10000 q0 _ A8.out).mono ?_); rintro e w' ⟨rfl, ⟨nd, rfl⟩⟩))
    go_ret
    exact rt HB
   ·replace c7 := Bool.eq_false_iff.mpr c7
    subst c7
    have H1 : (some false) = some r := by rw [if_neg (show ¬ (false = true) by decide)] at H; exact H
    clear H
    have H := H1
    clear H1
    obtain rfl := Option.some.inj H
    go_enter Try.func15, Try.ntmps15
    go_wp2_with (first | ((with_reducible refine gate_dst (N := 1) rfl ?_); refine bx 1 #[.int .i64 a0_0, .int .i64 a0_1, .int .i64 a0_2, .int .i64 a0_3] 25 fun q7 hg w11 q2 hb => ?_; have q6 := gw hg HB; have q5 := gw hg HB; replace HB := bst HB hb; clear hb hg; have ⟨qc, qd, qe, qf, qs, qt, qu, qv⟩ := cf4 q2) | ((with_reducible refine gate_callee (f := 47) rfl ?_); refine goesL_ (some 5) rfl rfl Try.func47 (by kernel_rfl) rfl #[.int .i64 a0_0, .int .i64 (-10000), .int .i64 10000] rfl am ?_; (with_reducible refine (torchonref06_from.calls a0_0 (-10000) 10000 true _ A2.out).mono ?_); rintro e w' ⟨rfl, ⟨nd, rfl⟩⟩; refine ⟨_, rfl, ?_⟩) | (go_at_call 47; (with_reducible refine (torchonref06_from.calls a0_1 (-10000) 10000 true _ A4.out).mono ?_); rintro e w' ⟨rfl, ⟨nd, rfl⟩⟩) | (go_at_call 47; (with_reducible refine (torchonref06_from.calls a0_2 (-10000) 10000 false _ A6.out).mono ?_); rintro e w' ⟨rfl, ⟨nd, rfl⟩⟩))
    go_ret
    exact rt HB
  ·replace c5 := Bool.eq_false_iff.mpr c5
   subst c5
   have H1 : (some false) = some r := by rw [if_neg (show ¬ (false = true) by decide)] at H; exact H
   clear H
   have H := H1
   clear H1
   obtain rfl := Option.some.inj H
   go_enter Try.func15, Try.ntmps15
   go_wp2_with (first | ((with_reducible refine gate_dst (N := 1) rfl ?_); refine bx 1 #[.int .i64 a0_0, .int .i64 a0_1, .int .i64 a0_2, .int .i64 a0_3] 25 fun q7 hg w13 q2 hb => ?_; have q6 := gw hg HB; have q5 := gw hg HB; replace HB := bst HB hb; clear hb hg; have ⟨qg, qh, qi, qj, qw, qx, qy, qz⟩ := cf4 q2) | ((with_reducible refine gate_callee (f := 47) rfl ?_); refine goesL_ (some 5) rfl rfl Try.func47 (by kernel_rfl) rfl #[.int .i64 a0_0, .int .i64 (-10000), .int .i64 10000] rfl am ?_; (with_reducible refine (torchonref06_from.calls a0_0 (-10000) 10000 true _ A2.out).mono ?_); rintro e w' ⟨rfl, ⟨nd, rfl⟩⟩; refine ⟨_, rfl, ?_⟩) | (go_at_call 47; (with_reducible refine (torchonref06_from.calls a0_1 (-10000) 10000 false _ A4.out).mono ?_); rintro e w' ⟨rfl, ⟨nd, rfl⟩⟩))
   go_ret
   exact rt HB
 ·replace c3 := Bool.eq_false_iff.mpr c3
  subst c3
  have H1 : (some false) = some r := by rw [if_neg (show ¬ (false = true) by decide)] at H; exact H
  clear H
  have H := H1
  clear H1
  obtain rfl := Option.some.inj H
  go_enter Try.func15, Try.ntmps15
  go_wp2_with (first | ((with_reducible refine gate_dst (N := 1) rfl ?_); refine bx 1 #[.int .i64 a0_0, .int .i64 a0_1, .int .i64 a0_2, .int .i64 a0_3] 25 fun q7 hg w15 q2 hb => ?_; have q6 := gw hg HB; have q5 := gw hg HB; replace HB := bst HB hb; clear hb hg; have ⟨qk, ql, qm, qn, qA, qB, qC, qD⟩ := cf4 q2) | ((with_reducible refine gate_callee (f := 47) rfl ?_); refine goesL_ (some 5) rfl rfl Try.func47 (by kernel_rfl) rfl #[.int .i64 a0_0, .int .i64 (-10000), .int .i64 10000] rfl am ?_; (with_reducible refine (torchonref06_from.calls a0_0 (-10000) 10000 false _ A2.out).mono ?_); rintro e w' ⟨rfl, ⟨nd, rfl⟩⟩; refine ⟨_, rfl, ?_⟩))
  go_ret
  exact rt HB
end
section
/-! ### torchonref06_image: function 69 -/
def torchonref06_image.f (a0_0 : Int) (a0_1 : Int) (a0_2 : Int) (a0_3 : Int) (a1_0 : Int) (a1_1 : Int) : Option (Int × Int) := (some (wrap64 (a0_0 * a1_0))).bind fun q2 => ((some (wrap64 (a0_1 * a1_1))).bind fun q3 => ((some (wrap64 (q2 + q3))).bind fun q1 => ((some (wrap64 (a0_2 * a1_0))).bind fun q4 => ((some (wrap64 (a0_3 * a1_1))).bind fun q5 => ((some (wrap64 (q4 + q5))).bind fun q6 => (some (q1, q6)))))))
set_option maxHeartbeats 8000000 in
set_option maxRecDepth 100000 in
theorem torchonref06_image.calls (a0_0 : Int) (a0_1 : Int) (a0_2 : Int) (a0_3 : Int) (a1_0 : Int) (a1_1 : Int) (r1 : Int) (r2 : Int) (w : World) (h : torchonref06_image.f a0_0 a0_1 a0_2 a0_3 a1_0 a1_1 = some (r1, r2)) :
  Calls Try.prog 69 #[.agg #[.int .i64 a0_0, .int .i64 a0_1, .int .i64 a0_2, .int .i64 a0_3], .agg #[.int .i64 a1_0, .int .i64 a1_1]] w fun e w' => e = .returned (.agg #[.int .i64 r1, .int .i64 r2]) ∧ Below w.heap.size w w' := by
 have hu25 := Try.underlying25
 have hu37 := Try.underlying37
 have HB := Aside0.mk (Below.refl w.heap.size w)
 have H : ((some (wrap64 (a0_0 * a1_0))).bind fun q2 => ((some (wrap64 (a0_1 * a1_1))).bind fun q3 => ((some (wrap64 (q2 + q3))).bind fun q1 => ((some (wrap64 (a0_2 * a1_0))).bind fun q4 => ((some (wrap64 (a0_3 * a1_1))).bind fun q5 => ((some (wrap64 (q4 + q5))).bind fun q6 => (some (q1, q6)))))))) = some (r1, r2) := h
 clear h
 obtain ⟨q2, E30, H⟩ := oc H
 have E3w : (IntKind.i64.wrap (a0_0 * a1_0)) = q2 := (i64_w _).trans E30
 obtain ⟨q3, E40, H⟩ := oc H
 have E4w : (IntKind.i64.wrap (a0_1 * a1_1)) = q3 := (i64_w _).trans E40
 obtain ⟨q1, E50, H⟩ := oc H
 have E5w : (IntKind.i64.wrap (q2 + q3)) = q1 := (i64_w _).trans E50
 obtain ⟨q4, E60, H⟩ := oc H
 have E6w : (IntKind.i64.wrap (a0_2 * a1_0)) = q4 := (i64_w _).trans E60
 obtain ⟨q5, E70, H⟩ := oc H
 have E7w : (IntKind.i64.wrap (a0_3 * a1_1)) = q5 := (i64_w _).trans E70
 obtain ⟨q6, E80, H⟩ := oc H
 have E8w : (IntKind.i64.wrap (q4 + q5)) = q6 := (i64_w _).trans E80
 simp only [Option.some.injEq, Prod.mk.injEq] at H
 obtain ⟨rfl, rfl⟩ := H
 go_enter Try.func69, Try.ntmps69
 go_wp2_with (first | ((with_reducible refine gate_dst (N := 2) rfl ?_); refine bx 2 #[.int .i64 a0_0, .int .i64 a0_1, .int .i64 a0_2, .int .i64 a0_3] 25 fun qm hg w9 q0 hb => ?_; have qj := gw hg HB; have qg := gw hg HB; replace HB := bst HB hb; clear hb hg) | ((with_reducible refine gate_dst (N := 3) rfl ?_); refine bx 3 #[.int .i64 a1_0, .int .i64 a1_1] 37 fun qn hg w10 q7 hb => ?_; have qk := gw hg HB; have qh := gw hg HB; have q9 := nlt hg q0; have qb := ngt hg q0; replace q0 := bb q0 hb; replace HB := bst HB hb; clear hb hg) | ((with_reducible refine gate_dst (N := 4) rfl ?_); refine bx 4 #[.int .i64 0, .int .i64 0] 37 fun qf hg w11 q8 hb => ?_; have ql := gw hg HB; have qi := gw hg HB; have qa := nlt hg q0; have qd := ngt hg q0; have qc := nlt hg q7; have qe := ngt hg q7; replace q0 := bb q0 hb; replace q7 := bb q7 hb; replace HB := bst HB hb; clear hb hg; have qE := q9.out; have qH := qb.out; have qF := qa.out; have qI := qd.out; have ⟨qo, qp, qq, qr, qw, qx, qy, qz⟩ := cf4 q0; have qG := qc.out; have qJ := qe.out; have ⟨qs, qt, qA, qB⟩ := cf2 q7; have ⟨qu, qv, qC, qD⟩ := cf2 q8))
 refine bodyPost_ret (results_cell_row rfl _ _ qf 37 #[.int .i64 q1, .int .i64 q6] (0, 0) _ rfl (by (with_reducible repeat (first | refine blk_drewN ?_ _ | refine blk_drew ?_ | refine blk_alloc ?_ _)); refine blk_put (cs := #[.int .i64 q1, .int .i64 0]) ?_ 1 _ rfl; (with_reducible repeat (first | refine blk_drewN ?_ _ | refine blk_drew ?_ | refine blk_alloc ?_ _)); refine blk_put (cs := #[.int .i64 0, .int .i64 0]) ?_ 0 _ rfl; (with_reducible repeat (first | refine blk_drewN ?_ _ | refine blk_drew ?_ | refine blk_alloc ?_ _)); exact q8.out) Try.underlying37 rfl (by kernel_rfl)) rfl ?_
 exact rt HB
end
section
/-! ### torchonref06_keeps: function 61 -/
def torchonref06_keeps.f (a0_0 : Int) (a0_1 : Int) (a0_2 : Int) (a1_0 : Int) (a1_1 : Int) (a1_2 : Int) (a1_3 : Int) : Option (Bool) := (torchonref06_image.f a1_0 a1_1 a1_2 a1_3 1 0).bind fun qM => ((torchonref06_image.f a1_0 a1_1 a1_2 a1_3 0 1).bind fun qN => ((torchonref06_Product.f a0_0 a0_1 a0_2 qM.1 qM.2 qM.1 qM.2).bind fun qO => (if qO = a0_0 then ((torchonref06_Product.f a0_0 a0_1 a0_2 qM.1 qM.2 qN.1 qN.2).bind fun qP => (if qP = a0_1 then ((torchonref06_Product.f a0_0 a0_1 a0_2 qN.1 qN.2 qN.1 qN.2).bind fun qS => (some (qS == a0_2))) else (some false))) else (some false))))
def torchonref06_keeps.T1 : Bool × List (List Nat × List Nat) := (true, [([], []), ([], []), ([0, 1], [0, 1]), ([], []), ([], []), ([3, 4, 2], [3, 4]), ([], []), ([], []), ([6, 2, 5, 0, 1, 2, 6, 7], [2, 6]), ([7, 5, 8, 0, 1, 2, 3, 4, 5, 6, 7, 8], [5, 7])])
def torchonref06_keeps.B1 : List Nat := [0, 0, 3, 0, 0, 31, 0, 0, 255, 511]
theorem torchonref06_keeps.tab1 : rtab .any (opsOf Try.f61 1) = torchonref06_keeps.T1 := by kernel_rfl
theorem torchonref06_keeps.bits1 : waitsOk torchonref06_keeps.T1.2 torchonref06_keeps.B1 = true := by kernel_rfl
def torchonref06_keeps.T2 : Bool × List (List Nat × List Nat) := (true, [([], []), ([], []), ([], []), ([0, 1, 2], [0, 1, 2]), ([], []), ([4], [4]), ([3, 5], [3, 5]), ([6, 3], [6]), ([7], [7]), ([7], [7]), ([7], [7]), ([8, 9, 10, 7, 7], [7, 8, 9, 10]), ([7], [7]), ([12, 7], [7, 12]), ([11, 13, 7], [7, 11, 13]), ([7, 14], [7, 14]), ([15, 11], [15]), ([16], [16]), ([16], [16]), ([16], [16]), ([17, 18, 19, 16, 16], [16, 17, 18, 19]), ([16], [16]), ([21, 16], [16, 21]), ([20, 22, 16], [16, 20, 22]), ([16, 23], [16, 23]), ([24, 20, 0, 1, 2, 3, 4, 5, 6, 7, 8, 9, 10, 11, 12, 13, 14, 15, 16, 17, 18, 19, 20, 21, 22, 23, 24], [24])])
def torchonref06_keeps.B2 : List Nat := [0, 0, 0, 7, 0, 16, 63, 127, 255, 255, 255, 2047, 255, 4351, 16383, 32767, 65535, 131071, 131071, 131071, 1048575, 131071, 2228223, 8388607, 16777215, 33554431]
theorem torchonref06_keeps.tab2 : rtab .any (opsOf Try.f61 2) = torchonref06_keeps.T2 := by kernel_rfl
theorem torchonref06_keeps.bits2 : waitsOk torchonref06_keeps.T2.2 torchonref06_keeps.B2 = true := by kernel_rfl
set_option maxHeartbeats 8000000 in
set_option maxRecDepth 100000 in
theorem torchonref06_keeps.calls (a0_0 : Int) (a0_1 : Int) (a0_2 : Int) (a1_0 : Int) (a1_1 : Int) (a1_2 : Int) (a1_3 : Int) (r : Bool) (w : World) (h : torchonref06_keeps.f a0_0 a0_1 a0_2 a1_0 a1_1 a1_2 a1_3 = some r) :
  Calls Try.prog 61 #[.agg #[.int .i64 a0_0, .int .i64 a0_1, .int .i64 a0_2], .agg #[.int .i64 a1_0, .int .i64 a1_1, .int .i64 a1_2, .int .i64 a1_3]] w fun e w' => e = .returned (.bool r) ∧ Below w.heap.size w w' := by
 have hu23 := Try.underlying23
 have hu25 := Try.underlying25
 have hu37 := Try.underlying37
 have HB := Aside0.mk (Below.refl w.heap.size w)
 have H : ((torchonref06_image.f a1_0 a1_1 a1_2 a1_3 1 0).bind fun qM => ((torchonref06_image.f a1_0 a1_1 a1_2 a1_3 0 1).bind fun qN => ((torchonref06_Product.f a0_0 a0_1 a0_2 qM.1 qM.2 qM.1 qM.2).bind fun qO => (if qO = a0_0 then ((torchonref06_Product.f a0_0 a0_1 a0_2 qM.1 qM.2 qN.1 qN.2).bind fun qP => (if qP = a0_1 then ((torchonref06_Product.f a0_0 a0_1 a0_2 qN.1 qN.2 qN.1 qN.2).bind fun qS => (some (qS == a0_2))) else (some false))) else (some false))))) = some r := h
 clear h
 obtain ⟨⟨qx, qD⟩, A3, H⟩ := ob H
 obtain ⟨⟨qE, qF⟩, A4, H⟩ := ob H
 obtain ⟨qO, A5, H⟩ := ob H
 by_cases c6 : qO = a0_0
 ·rw [if_pos c6] at H
  have qZ : (qO == a0_0) = true := beq_iff_eq.mpr c6
  have j0 : (qO != a0_0) = false := bne_eq_false_iff_eq.mpr c6
  clear c6
  obtain ⟨qP, A7, H⟩ := ob H
  by_cases c8 : qP = a0_1
  ·rw [if_pos c8] at H
   have j1 : (qP == a0_1) = true := beq_iff_eq.mpr c8
   have j2 : (qP != a0_1) = false := bne_eq_false_iff_eq.mpr c8
   clear c8
   obtain ⟨qS, A9, H⟩ := ob H
   obtain rfl := Option.some.inj H
   go_enter Try.func61, Try.ntmps61
   try go_wp2_with (first | ((with_reducible refine gate_dst (N := 2) rfl ?_); refine bx 2 #[.int .i64 a0_0, .int .i64 a0_1, .int .i64 a0_2] 23 fun qC hg w10 q2 hb => ?_; have qV := gw hg HB; have qT := gw hg HB; replace HB := bst HB hb; clear hb hg) | ((with_reducible refine gate_dst (N := 3) rfl ?_); refine bx 3 #[.int .i64 a1_0, .int .i64 a1_1, .int .i64 a1_2, .int .i64 a1_3] 25 fun qp hg w11 q3 hb => ?_; have qW := gw hg HB; have qU := gw hg HB; have qX := nlt hg q2; have qY := ngt hg q2; replace q2 := bb q2 hb; replace HB := bst HB hb; clear hb hg))
   replace q2 := bd q2
   replace q3 := bd q3
   replace HB := bdn HB
   refine start_ (n := 10) (S := fun w' => True) (ds := []) #[false, false, false, false, false, false, false, false, false, false] (by kernel_rfl) rfl rfl trivial (fun hHeld => ?_); refine with_tabW torchonref06_keeps.tab1 torchonref06_keeps.bits1 (fun HT_ HW_ => ?_)
   generalize w11.drew = w12 at q2 q3 HB hHeld ⊢
   refine inv_at [0, 1, 2, 3, 4, 5, 6, 7, 8, 9] (fun a0_ b a w' => ∃ (q0 : Nat) (q1 : Nat) (m6_ : Value) (m7_ : Value), a = putSel a0_ b [(0, 7, .agg #[.int .i64 a1_0, .int .i64 a1_1, .int .i64 a1_2, .int .i64 a1_3]), (1, 8, .agg #[.int .i64 1, .int .i64 0]), (2, 9, .agg #[.int .i64 qx, .int .i64 qD]), (3, 10, .agg #[.int .i64 a1_0, .int .i64 a1_1, .int .i64 a1_2, .int .i64 a1_3]), (4, 11, .agg #[.int .i64 0, .int .i64 1]), (5, 12, .agg #[.int .i64 qE, .int .i64 qF]), (6, 5, m6_), (7, 6, m7_)] ∧ (w'.heap[qC]? = some (.cells #[.int .i64 a0_0, .int .i64 a0_1, .int .i64 a0_2] 23 (0, 0))) ∧ (w'.heap[qp]? = some (.cells #[.int .i64 a1_0, .int .i64 a1_1, .int .i64 a1_2, .int .i64 a1_3] 25 (0, 0))) ∧ (Below w.heap.size w w') ∧ (b 6 = true → b 7 = true → q1 ≠ q0) ∧ (b 6 = true → b 7 = true → q0 ≠ q1) ∧ (b 6 = true → b 8 = false → w'.heap[q0]? = some (.cells #[.int .i64 0, .int .i64 0] 37 (0, 0))) ∧ (b 6 = true → w.heap.size ≤ q0) ∧ (b 6 = true → w.heap.size ≤ q0) ∧ (b 6 = true → qC ≠ q0) ∧ (b 6 = true → q0 ≠ qC) ∧ (b 6 = true → qp ≠ q0) ∧ (b 6 = true → q0 ≠ qp) ∧ (b 7 = true → b 9 = false → w'.heap[q1]? = some (.cells #[.int .i64 0, .int .i64 0] 37 (0, 0))) ∧ (b 7 = true → w.heap.size ≤ q1) ∧ (b 7 = true → w.heap.size ≤ q1) ∧ (b 7 = true → qC ≠ q1) ∧ (b 7 = true → q1 ≠ qC) ∧ (b 7 = true → qp ≠ q1) ∧ (b 7 = true → q1 ≠ qp) ∧ (b 8 = true → w'.heap[q0]? = some (.cells #[.int .i64 qx, .int .i64 qD] 37 (0, 0))) ∧ (b 9 = true → w'.heap[q1]? = some (.cells #[.int .i64 qE, .int .i64 qF] 37 (0, 0))) ∧ (b 6 = true → (m6_ : Value) = .pointer (some ⟨q0, 0, none⟩)) ∧ (b 7 = true → (m7_ : Value) = .pointer (some ⟨q1, 0, none⟩))) HT_.out HW_.out (by kernel_rfl) (by kernel_rfl) ?_ ?_ ?_
   ·exact ⟨0, 0, .bool false, .bool false, by simp only [putSel, Bool.false_eq_true, if_false], q2.out, q3.out, HB.out, fun h_ => absurd h_ (by decide), fun h_ => absurd h_ (by decide), fun h_ => absurd h_ (by decide), fun h_ => absurd h_ (by decide), fun h_ => absurd h_ (by decide), fun h_ => absurd h_ (by decide), fun h_ => absurd h_ (by decide), fun h_ => absurd h_ (by decide), fun h_ => absurd h_ (by decide), fun h_ => absurd h_ (by decide), fun h_ => absurd h_ (by decide), fun h_ => absurd h_ (by decide), fun h_ => absurd h_ (by decide), fun h_ => absurd h_ (by decide), fun h_ => absurd h_ (by decide), fun h_ => absurd h_ (by decide), fun h_ => absurd h_ (by decide), fun h_ => absurd h_ (by decide), fun h_ => absurd h_ (by decide), fun h_ => absurd h_ (by decide)⟩
   ·skip
    clear q2 q3 HB
    refine steps_cons ?_ ?_
    ·rintro b a w' ⟨q0, q1, m6_, m7_, ha, q4, q5, Q_HB, qn, qm, q9, qc, qa, qe, qi, qg, qj, q7, qd, qb, qf, qk, qh, ql, qo, qq, Q_X6_, Q_X7_⟩ hb_ hon hoff
     refine ⟨_, rfl, fun K hK => ?_⟩
     have e3 : a.tmps[3]? = some (.pointer (some ⟨qp, 0, none⟩)) := by rw [ha]; exact (putSel_off rfl).trans rfl
     replace ha := Aside0.mk ha
     have q2 := Aside0.mk q4
     have q3 := Aside0.mk q5
     have HB := Aside0.mk Q_HB
     have hc0_ : w'.cell? ⟨qp, 0, none⟩ = some (.int .i64 a1_0) := (blk_cell q3.out 0).trans rfl
     have hc1_ : w'.cell? ⟨qp, 1, none⟩ = some (.int .i64 a1_1) := (blk_cell q3.out 1).trans rfl
     have hc2_ : w'.cell? ⟨qp, 2, none⟩ = some (.int .i64 a1_2) := (blk_cell q3.out 2).trans rfl
     have hc3_ : w'.cell? ⟨qp, 3, none⟩ = some (.int .i64 a1_3) := (blk_cell q3.out 3).trans rfl
     refine value_ (w1 := w') (v := .agg #[.int .i64 a1_0, .int .i64 a1_1, .int .i64 a1_2, .int .i64 a1_3]) (by rfl) rfl ?_ ?_
     ·go_simp
      (try simp only [i64_w])
      try rfl
     refine hK.out _ _ ⟨q0, q1, m6_, m7_, (by rw [ha.out]; exact putSel_upk 0 hb_ rfl rfl rfl), q4, q5, Q_HB, qn, qm, q9, qc, qa, qe, qi, qg, qj, q7, qd, qb, qf, qk, qh, ql, fun h0_ => absurd ((hoff 8 (by kernel_rfl)).symm.trans h0_) (by decide), fun h0_ => absurd ((hoff 9 (by kernel_rfl)).symm.trans h0_) (by decide), Q_X6_, Q_X7_⟩
    refine steps_cons ?_ ?_
    ·rintro b a w' ⟨q0, q1, m6_, m7_, ha, q4, q5, Q_HB, qn, qm, q9, qc, qa, qe, qi, qg, qj, q7, qd, qb, qf, qk, qh, ql, qo, qq, Q_X6_, Q_X7_⟩ hb_ hon hoff
     refine ⟨_, rfl, fun K hK => ?_⟩
     replace ha := Aside0.mk ha
     have q2 := Aside0.mk q4
     have q3 := Aside0.mk q5
     have HB := Aside0.mk Q_HB
     refine value_ (w1 := w') (v := .agg #[.int .i64 1, .int .i64 0]) (by rfl) rfl ?_ ?_
     ·go_simp
      (try simp only [i64_w])
      try rfl
     refine hK.out _ _ ⟨q0, q1, m6_, m7_, (by rw [ha.out]; exact putSel_upk 1 hb_ rfl rfl rfl), q4, q5, Q_HB, qn, qm, q9, qc, qa, qe, qi, qg, qj, q7, qd, qb, qf, qk, qh, ql, fun h0_ => absurd ((hoff 8 (by kernel_rfl)).symm.trans h0_) (by decide), fun h0_ => absurd ((hoff 9 (by kernel_rfl)).symm.trans h0_) (by decide), Q_X6_, Q_X7_⟩
    refine steps_cons ?_ ?_
    ·rintro b a w' ⟨q0, q1, m6_, m7_, ha, q4, q5, Q_HB, qn, qm, q9, qc, qa, qe, qi, qg, qj, q7, qd, qb, qf, qk, qh, ql, qo, qq, Q_X6_, Q_X7_⟩ hb_ hon hoff
     refine ⟨_, rfl, fun K hK => ?_⟩
     have e7 : a.tmps[7]? = some (.agg #[.int .i64 a1_0, .int .i64 a1_1, .int .i64 a1_2, .int .i64 a1_3]) := by rw [ha]; exact putSel_on (e := (0, 7, .agg #[.int .i64 a1_0, .int .i64 a1_1, .int .i64 a1_2, .int .i64 a1_3])) 0 rfl rfl (hon 0 (by kernel_rfl)) rfl
     have e8 : a.tmps[8]? = some (.agg #[.int .i64 1, .int .i64 0]) := by rw [ha]; exact putSel_on (e := (1, 8, .agg #[.int .i64 1, .int .i64 0])) 1 rfl rfl (hon 1 (by kernel_rfl)) rfl
     replace ha := Aside0.mk ha
     have q2 := Aside0.mk q4
     have q3 := Aside0.mk q5
     have HB := Aside0.mk Q_HB
     refine goes_ Try.func69 (by kernel_rfl) rfl #[.agg #[.int .i64 a1_0, .int .i64 a1_1, .int .i64 a1_2, .int .i64 a1_3], .agg #[.int .i64 1, .int .i64 0]] (by rfl) rfl rfl (by first | (simp only [List.map_toArray, List.map_cons, List.map_nil, Act.eval, Array.getD_eq_getD_getElem?, Option.getD_some, e7, e8]; done) | (simp only [List.map_toArray, List.map_cons, List.map_nil, Act.eval, Array.getD_eq_getD_getElem?, Option.getD_some, e7, e8]; rfl)) ?_
     with_reducible refine (torchonref06_image.calls a1_0 a1_1 a1_2 a1_3 1 0 qx qD _ A3.out).mono ?_
     rintro e w13 ⟨rfl, hb⟩
     refine ⟨_, rfl, ?_⟩
     have n0_ := bb q2 hb
     have n1_ := bb q3 hb
     have n2_ := bst HB hb
     have qK := fun (h0_ : b 6 = true) (h1_ : b 8 = false) => (show w13.heap[q0]? = some (.cells #[.int .i64 0, .int .i64 0] 37 (0, 0)) from by first | exact (blk_below (g := q0) (o := .cells #[.int .i64 0, .int .i64 0] 37 (0, 0)) (by (with_reducible repeat (first | refine blk_drewN ?_ _ | refine blk_drew ?_ | refine blk_alloc ?_ _)); exact (q9 h0_ h1_)) hb))
     have qL := fun (h0_ : b 7 = true) (h1_ : b 9 = false) => (show w13.heap[q1]? = some (.cells #[.int .i64 0, .int .i64 0] 37 (0, 0)) from by first | exact (blk_below (g := q1) (o := .cells #[.int .i64 0, .int .i64 0] 37 (0, 0)) (by (with_reducible repeat (first | refine blk_drewN ?_ _ | refine blk_drew ?_ | refine blk_alloc ?_ _)); exact (q7 h0_ h1_)) hb))
     clear q2
     clear q3
     clear HB
     have q2 := n0_
     have q3 := n1_
     have HB := n2_
     clear n0_ n1_ n2_
     (try clear hb)
     (try clear hb2)
     (try clear hk)
     (try clear hi)
     refine hK.out _ _ ⟨q0, q1, m6_, m7_, (by rw [ha.out]; exact putSel_upk 2 hb_ rfl rfl rfl), (pk q2), (pk q3), (bnow HB), qn, qm, qK, qc, qa, qe, qi, qg, qj, qL, qd, qb, qf, qk, qh, ql, fun h0_ => absurd ((hoff 8 (by kernel_rfl)).symm.trans h0_) (by decide), fun h0_ => absurd ((hoff 9 (by kernel_rfl)).symm.trans h0_) (by decide), Q_X6_, Q_X7_⟩
    refine steps_cons ?_ ?_
    ·rintro b a w' ⟨q0, q1, m6_, m7_, ha, q4, q5, Q_HB, qn, qm, q9, qc, qa, qe, qi, qg, qj, q7, qd, qb, qf, qk, qh, ql, qo, qq, Q_X6_, Q_X7_⟩ hb_ hon hoff
     refine ⟨_, rfl, fun K hK => ?_⟩
     have e3 : a.tmps[3]? = some (.pointer (some ⟨qp, 0, none⟩)) := by rw [ha]; exact (putSel_off rfl).trans rfl
     replace ha := Aside0.mk ha
     have q2 := Aside0.mk q4
     have q3 := Aside0.mk q5
     have HB := Aside0.mk Q_HB
     have hc0_ : w'.cell? ⟨qp, 0, none⟩ = some (.int .i64 a1_0) := (blk_cell q3.out 0).trans rfl
     have hc1_ : w'.cell? ⟨qp, 1, none⟩ = some (.int .i64 a1_1) := (blk_cell q3.out 1).trans rfl
     have hc2_ : w'.cell? ⟨qp, 2, none⟩ = some (.int .i64 a1_2) := (blk_cell q3.out 2).trans rfl
     have hc3_ : w'.cell? ⟨qp, 3, none⟩ = some (.int .i64 a1_3) := (blk_cell q3.out 3).trans rfl
     refine value_ (w1 := w') (v := .agg #[.int .i64 a1_0, .int .i64 a1_1, .int .i64 a1_2, .int .i64 a1_3]) (by rfl) rfl ?_ ?_
     ·go_simp
      (try simp only [i64_w])
      try rfl
     refine hK.out _ _ ⟨q0, q1, m6_, m7_, (by rw [ha.out]; exact putSel_upk 3 hb_ rfl rfl rfl), q4, q5, Q_HB, qn, qm, q9, qc, qa, qe, qi, qg, qj, q7, qd, qb, qf, qk, qh, ql, fun h0_ => absurd ((hoff 8 (by kernel_rfl)).symm.trans h0_) (by decide), fun h0_ => absurd ((hoff 9 (by kernel_rfl)).symm.trans h0_) (by decide), Q_X6_, Q_X7_⟩
    refine steps_cons ?_ ?_
    ·rintro b a w' ⟨q0, q1, m6_, m7_, ha, q4, q5, Q_HB, qn, qm, q9, qc, qa, qe, qi, qg, qj, q7, qd, qb, qf, qk, qh, ql, qo, qq, Q_X6_, Q_X7_⟩ hb_ hon hoff
     refine ⟨_, rfl, fun K hK => ?_⟩
     replace ha := Aside0.mk ha
     have q2 := Aside0.mk q4
     have q3 := Aside0.mk q5
     have HB := Aside0.mk Q_HB
     refine value_ (w1 := w') (v := .agg #[.int .i64 0, .int .i64 1]) (by rfl) rfl ?_ ?_
     ·go_simp
      (try simp only [i64_w])
      try rfl
     refine hK.out _ _ ⟨q0, q1, m6_, m7_, (by rw [ha.out]; exact putSel_upk 4 hb_ rfl rfl rfl), q4, q5, Q_HB, qn, qm, q9, qc, qa, qe, qi, qg, qj, q7, qd, qb, qf, qk, qh, ql, fun h0_ => absurd ((hoff 8 (by kernel_rfl)).symm.trans h0_) (by decide), fun h0_ => absurd ((hoff 9 (by kernel_rfl)).symm.trans h0_) (by decide), Q_X6_, Q_X7_⟩
    refine steps_cons ?_ ?_
    ·rintro b a w' ⟨q0, q1, m6_, m7_, ha, q4, q5, Q_HB, qn, qm, q9, qc, qa, qe, qi, qg, qj, q7, qd, qb, qf, qk, qh, ql, qo, qq, Q_X6_, Q_X7_⟩ hb_ hon hoff
     refine ⟨_, rfl, fun K hK => ?_⟩
     have e10 : a.tmps[10]? = some (.agg #[.int .i64 a1_0, .int .i64 a1_1, .int .i64 a1_2, .int .i64 a1_3]) := by rw [ha]; exact putSel_on (e := (3, 10, .agg #[.int .i64 a1_0, .int .i64 a1_1, .int .i64 a1_2, .int .i64 a1_3])) 3 rfl rfl (hon 3 (by kernel_rfl)) rfl
     have e11 : a.tmps[11]? = some (.agg #[.int .i64 0, .int .i64 1]) := by rw [ha]; exact putSel_on (e := (4, 11, .agg #[.int .i64 0, .int .i64 1])) 4 rfl rfl (hon 4 (by kernel_rfl)) rfl
     replace ha := Aside0.mk ha
     have q2 := Aside0.mk q4
     have q3 := Aside0.mk q5
     have HB := Aside0.mk Q_HB
     refine goes_ Try.func69 (by kernel_rfl) rfl #[.agg #[.int .i64 a1_0, .int .i64 a1_1, .int .i64 a1_2, .int .i64 a1_3], .agg #[.int .i64 0, .int .i64 1]] (by rfl) rfl rfl (by first | (simp only [List.map_toArray, List.map_cons, List.map_nil, Act.eval, Array.getD_eq_getD_getElem?, Option.getD_some, e10, e11]; done) | (simp only [List.map_toArray, List.map_cons, List.map_nil, Act.eval, Array.getD_eq_getD_getElem?, Option.getD_some, e10, e11]; rfl)) ?_
     with_reducible refine (torchonref06_image.calls a1_0 a1_1 a1_2 a1_3 0 1 qE qF _ A4.out).mono ?_
     rintro e w15 ⟨rfl, hb⟩
     refine ⟨_, rfl, ?_⟩
     have n0_ := bb q2 hb
     have n1_ := bb q3 hb
     have n2_ := bst HB hb
     have qK := fun (h0_ : b 6 = true) (h1_ : b 8 = false) => (show w15.heap[q0]? = some (.cells #[.int .i64 0, .int .i64 0] 37 (0, 0)) from by first | exact (blk_below (g := q0) (o := .cells #[.int .i64 0, .int .i64 0] 37 (0, 0)) (by (with_reducible repeat (first | refine blk_drewN ?_ _ | refine blk_drew ?_ | refine blk_alloc ?_ _)); exact (q9 h0_ h1_)) hb))
     have qL := fun (h0_ : b 7 = true) (h1_ : b 9 = false) => (show w15.heap[q1]? = some (.cells #[.int .i64 0, .int .i64 0] 37 (0, 0)) from by first | exact (blk_below (g := q1) (o := .cells #[.int .i64 0, .int .i64 0] 37 (0, 0)) (by (with_reducible repeat (first | refine blk_drewN ?_ _ | refine blk_drew ?_ | refine blk_alloc ?_ _)); exact (q7 h0_ h1_)) hb))
     clear q2
     clear q3
     clear HB
     have q2 := n0_
     have q3 := n1_
     have HB := n2_
     clear n0_ n1_ n2_
     (try clear hb)
     (try clear hb2)
     (try clear hk)
     (try clear hi)
     refine hK.out _ _ ⟨q0, q1, m6_, m7_, (by rw [ha.out]; exact putSel_upk 5 hb_ rfl rfl rfl), (pk q2), (pk q3), (bnow HB), qn, qm, qK, qc, qa, qe, qi, qg, qj, qL, qd, qb, qf, qk, qh, ql, fun h0_ => absurd ((hoff 8 (by kernel_rfl)).symm.trans h0_) (by decide), fun h0_ => absurd ((hoff 9 (by kernel_rfl)).symm.trans h0_) (by decide), Q_X6_, Q_X7_⟩
    refine steps_cons ?_ ?_
    ·rintro b a w' ⟨q0, q1, m6_, m7_, ha, q4, q5, Q_HB, qn, qm, q9, qc, qa, qe, qi, qg, qj, q7, qd, qb, qf, qk, qh, ql, qo, qq, Q_X6_, Q_X7_⟩ hb_ hon hoff
     refine ⟨_, rfl, fun K hK => ?_⟩
     replace ha := Aside0.mk ha
     have q2 := Aside0.mk q4
     have q3 := Aside0.mk q5
     have HB := Aside0.mk Q_HB
     refine box_step ?hg (N := 5) ?hd (cs := #[.int .i64 0, .int .i64 0]) (t := 37) ?hr ?_; (case hd => rfl); (case hg => rfl); (case hr => first | (go_simp; done) | (go_simp; rfl))
     intro q0 hg w13 hbox hb
     have n0_ := bb q2 hb
     have n1_ := bb q3 hb
     have n2_ := bst HB hb
     have n3_ := Aside0.mk (hbox)
     have n4_ := gw hg HB
     have n5_ := gw hg HB
     have n6_ := nlt hg q2
     have n7_ := ngt hg q2
     have n8_ := nlt hg q3
     have n9_ := ngt hg q3
     have qR := fun (h0_ : up b 6 6 = true) (h1_ : up b 6 7 = true) => (show q1 ≠ q0 from (by cases hb_ : b 9 with | false => exact ((by rw [hg]; exact Nat.ne_of_lt (blk_lt (g := q1) (o := .cells #[.int .i64 0, .int .i64 0] 37 (0, 0)) (by (with_reducible repeat (first | refine blk_drewN ?_ _ | refine blk_drew ?_ | refine blk_alloc ?_ _)); exact (q7 h1_ hb_))) : q1 ≠ q0)) | true => exact ((by rw [hg]; exact Nat.ne_of_lt (blk_lt (g := q1) (by (with_reducible repeat (first | refine blk_drewN ?_ _ | refine blk_drew ?_ | refine blk_alloc ?_ _)); exact (qq hb_))) : q1 ≠ q0))))
     have qQ := fun (h0_ : up b 6 6 = true) (h1_ : up b 6 7 = true) => (show q0 ≠ q1 from (by cases hb_ : b 9 with | false => exact ((by rw [hg]; exact Nat.ne_of_gt (blk_lt (g := q1) (o := .cells #[.int .i64 0, .int .i64 0] 37 (0, 0)) (by (with_reducible repeat (first | refine blk_drewN ?_ _ | refine blk_drew ?_ | refine blk_alloc ?_ _)); exact (q7 h1_ hb_))) : q0 ≠ q1)) | true => exact ((by rw [hg]; exact Nat.ne_of_gt (blk_lt (g := q1) (by (with_reducible repeat (first | refine blk_drewN ?_ _ | refine blk_drew ?_ | refine blk_alloc ?_ _)); exact (qq hb_))) : q0 ≠ q1))))
     have qL := fun (h0_ : b 7 = true) (h1_ : b 9 = false) => (show w13.heap[q1]? = some (.cells #[.int .i64 0, .int .i64 0] 37 (0, 0)) from by first | exact (blk_below (g := q1) (o := .cells #[.int .i64 0, .int .i64 0] 37 (0, 0)) (by (with_reducible repeat (first | refine blk_drewN ?_ _ | refine blk_drew ?_ | refine blk_alloc ?_ _)); exact (q7 h0_ h1_)) hb))
     clear q2
     clear q3
     clear HB
     have q2 := n0_
     have q3 := n1_
     have HB := n2_
     have q6 := n3_
     have qI := n4_
     have qG := n5_
     have qr := n6_
     have qy := n7_
     have qt := n8_
     have qz := n9_
     clear n0_ n1_ n2_ n3_ n4_ n5_ n6_ n7_ n8_ n9_
     clear hb hg
     refine hK.out _ _ ⟨q0, q1, (.pointer (some ⟨q0, 0, none⟩)), m7_, (by rw [ha.out]; exact putSel_upk 6 hb_ rfl rfl rfl), (pk q2), (pk q3), (bnow HB), qR, qQ, fun _ _ => (pk q6), fun _ => qI.out, fun _ => qG.out, fun _ => qr.out, fun _ => qy.out, fun _ => qt.out, fun _ => qz.out, qL, qd, qb, qf, qk, qh, ql, fun h0_ => absurd ((hoff 8 (by kernel_rfl)).symm.trans h0_) (by decide), fun h0_ => absurd ((hoff 9 (by kernel_rfl)).symm.trans h0_) (by decide), fun _ => rfl, Q_X7_⟩
    refine steps_cons ?_ ?_
    ·rintro b a w' ⟨q0, q1, m6_, m7_, ha, q4, q5, Q_HB, qn, qm, q9, qc, qa, qe, qi, qg, qj, q7, qd, qb, qf, qk, qh, ql, qo, qq, Q_X6_, Q_X7_⟩ hb_ hon hoff
     refine ⟨_, rfl, fun K hK => ?_⟩
     replace ha := Aside0.mk ha
     have q2 := Aside0.mk q4
     have q3 := Aside0.mk q5
     have HB := Aside0.mk Q_HB
     refine box_step ?hg (N := 6) ?hd (cs := #[.int .i64 0, .int .i64 0]) (t := 37) ?hr ?_; (case hd => rfl); (case hg => rfl); (case hr => first | (go_simp; done) | (go_simp; rfl))
     intro q1 hg w13 hbox hb
     have n0_ := bb q2 hb
     have n1_ := bb q3 hb
     have n2_ := bst HB hb
     have n3_ := Aside0.mk (hbox)
     have n4_ := gw hg HB
     have n5_ := gw hg HB
     have n6_ := nlt hg q2
     have n7_ := ngt hg q2
     have n8_ := nlt hg q3
     have n9_ := ngt hg q3
     have qR := fun (h0_ : up b 7 6 = true) (h1_ : up b 7 7 = true) => (show q1 ≠ q0 from (by cases hb_ : b 8 with | false => exact ((by rw [hg]; exact Nat.ne_of_gt (blk_lt (g := q0) (o := .cells #[.int .i64 0, .int .i64 0] 37 (0, 0)) (by (with_reducible repeat (first | refine blk_drewN ?_ _ | refine blk_drew ?_ | refine blk_alloc ?_ _)); exact (q9 h0_ hb_))) : q1 ≠ q0)) | true => exact ((by rw [hg]; exact Nat.ne_of_gt (blk_lt (g := q0) (by (with_reducible repeat (first | refine blk_drewN ?_ _ | refine blk_drew ?_ | refine blk_alloc ?_ _)); exact (qo hb_))) : q1 ≠ q0))))
     have qQ := fun (h0_ : up b 7 6 = true) (h1_ : up b 7 7 = true) => (show q0 ≠ q1 from (by cases hb_ : b 8 with | false => exact ((by rw [hg]; exact Nat.ne_of_lt (blk_lt (g := q0) (o := .cells #[.int .i64 0, .int .i64 0] 37 (0, 0)) (by (with_reducible repeat (first | refine blk_drewN ?_ _ | refine blk_drew ?_ | refine blk_alloc ?_ _)); exact (q9 h0_ hb_))) : q0 ≠ q1)) | true => exact ((by rw [hg]; exact Nat.ne_of_lt (blk_lt (g := q0) (by (with_reducible repeat (first | refine blk_drewN ?_ _ | refine blk_drew ?_ | refine blk_alloc ?_ _)); exact (qo hb_))) : q0 ≠ q1))))
     have qK := fun (h0_ : b 6 = true) (h1_ : b 8 = false) => (show w13.heap[q0]? = some (.cells #[.int .i64 0, .int .i64 0] 37 (0, 0)) from by first | exact (blk_below (g := q0) (o := .cells #[.int .i64 0, .int .i64 0] 37 (0, 0)) (by (with_reducible repeat (first | refine blk_drewN ?_ _ | refine blk_drew ?_ | refine blk_alloc ?_ _)); exact (q9 h0_ h1_)) hb))
     clear q2
     clear q3
     clear HB
     have q2 := n0_
     have q3 := n1_
     have HB := n2_
     have q8 := n3_
     have qJ := n4_
     have qH := n5_
     have qs := n6_
     have qA := n7_
     have qu := n8_
     have qB := n9_
     clear n0_ n1_ n2_ n3_ n4_ n5_ n6_ n7_ n8_ n9_
     clear hb hg
     refine hK.out _ _ ⟨q0, q1, m6_, (.pointer (some ⟨q1, 0, none⟩)), (by rw [ha.out]; exact putSel_upk 7 hb_ rfl rfl rfl), (pk q2), (pk q3), (bnow HB), qR, qQ, qK, qc, qa, qe, qi, qg, qj, fun _ _ => (pk q8), fun _ => qJ.out, fun _ => qH.out, fun _ => qs.out, fun _ => qA.out, fun _ => qu.out, fun _ => qB.out, fun h0_ => absurd ((hoff 8 (by kernel_rfl)).symm.trans h0_) (by decide), fun h0_ => absurd ((hoff 9 (by kernel_rfl)).symm.trans h0_) (by decide), Q_X6_, fun _ => rfl⟩
    refine steps_cons ?_ ?_
    ·rintro b a w' ⟨q0, q1, m6_, m7_, ha, q4, q5, Q_HB, qn, qm, q9, qc, qa, qe, qi, qg, qj, q7, qd, qb, qf, qk, qh, ql, qo, qq, Q_X6_, Q_X7_⟩ hb_ hon hoff
     refine ⟨_, rfl, fun K hK => ?_⟩
     have e5 : a.tmps[5]? = some (m6_) := by rw [ha]; exact putSel_on (e := (6, 5, m6_)) 6 rfl rfl (hon 6 (by kernel_rfl)) rfl
     rw [Q_X6_ (hon 6 (by kernel_rfl))] at e5
     have e9 : a.tmps[9]? = some (.agg #[.int .i64 qx, .int .i64 qD]) := by rw [ha]; exact putSel_on (e := (2, 9, .agg #[.int .i64 qx, .int .i64 qD])) 2 rfl rfl (hon 2 (by kernel_rfl)) rfl
     replace ha := Aside0.mk ha
     have q2 := Aside0.mk q4
     have q3 := Aside0.mk q5
     have HB := Aside0.mk Q_HB
     have qw := Aside0.mk (qn (hon 6 (by kernel_rfl)) (hon 7 (by kernel_rfl)))
     have qv := Aside0.mk (qm (hon 6 (by kernel_rfl)) (hon 7 (by kernel_rfl)))
     have q6 := Aside0.mk (q9 (hon 6 (by kernel_rfl)) hb_)
     have qI := Aside0.mk (qc (hon 6 (by kernel_rfl)))
     have qG := Aside0.mk (qa (hon 6 (by kernel_rfl)))
     have qr := Aside0.mk (qe (hon 6 (by kernel_rfl)))
     have qy := Aside0.mk (qi (hon 6 (by kernel_rfl)))
     have qt := Aside0.mk (qg (hon 6 (by kernel_rfl)))
     have qz := Aside0.mk (qj (hon 6 (by kernel_rfl)))
     have q8 := Aside0.mk (q7 (hon 7 (by kernel_rfl)) (hoff 9 (by kernel_rfl)))
     have qJ := Aside0.mk (qd (hon 7 (by kernel_rfl)))
     have qH := Aside0.mk (qb (hon 7 (by kernel_rfl)))
     have qs := Aside0.mk (qf (hon 7 (by kernel_rfl)))
     have qA := Aside0.mk (qk (hon 7 (by kernel_rfl)))
     have qu := Aside0.mk (qh (hon 7 (by kernel_rfl)))
     have qB := Aside0.mk (ql (hon 7 (by kernel_rfl)))
     have gp : w'.cell? ⟨q0, 0, none⟩ = some (.int .i64 0) := (blk_cell q6.out 0).trans rfl
     have j3 := blk_frozen q6.out 0
     have jP := qr.out
     have jQ := qt.out
     have jR := qw.out
     have jf := qy.out
     have jg := qz.out
     have jh := qv.out
     have gq : w'.cell? ⟨q0, 1, none⟩ = some (.int .i64 0) := (blk_cell q6.out 1).trans rfl
     have j4 := blk_frozen q6.out 1
     have jS := qr.out
     have jT := qt.out
     have jU := qw.out
     have ji := qy.out
     have jj := qz.out
     have jk := qv.out
     refine skip_ (w1 := ?_) (by rfl) rfl ?_ ?_
     rotate_left
     ·go_simp
      rfl
     refine hK.out _ _ ⟨q0, q1, m6_, m7_, (by rw [ha.out]; exact putSel_none (v := undef) rfl), (by (with_reducible repeat (first | refine blk_drewN ?_ _ | refine blk_drew ?_ | refine blk_alloc ?_ _)); refine blk_far ?_ qr.out _; (with_reducible repeat (first | refine blk_drewN ?_ _ | refine blk_drew ?_ | refine blk_alloc ?_ _)); refine blk_far ?_ qr.out _; (with_reducible repeat (first | refine blk_drewN ?_ _ | refine blk_drew ?_ | refine blk_alloc ?_ _)); exact q2.out), (by (with_reducible repeat (first | refine blk_drewN ?_ _ | refine blk_drew ?_ | refine blk_alloc ?_ _)); refine blk_far ?_ qt.out _; (with_reducible repeat (first | refine blk_drewN ?_ _ | refine blk_drew ?_ | refine blk_alloc ?_ _)); refine blk_far ?_ qt.out _; (with_reducible repeat (first | refine blk_drewN ?_ _ | refine blk_drew ?_ | refine blk_alloc ?_ _)); exact q3.out), (bnow HB), fun _ _ => qw.out, fun _ _ => qv.out, fun _ h1_ => absurd ((up_self b 8).symm.trans h1_) (by decide), fun _ => qI.out, fun _ => qG.out, fun _ => qr.out, fun _ => qy.out, fun _ => qt.out, fun _ => qz.out, fun _ _ => (by (with_reducible repeat (first | refine blk_drewN ?_ _ | refine blk_drew ?_ | refine blk_alloc ?_ _)); refine blk_far ?_ qw.out _; (with_reducible repeat (first | refine blk_drewN ?_ _ | refine blk_drew ?_ | refine blk_alloc ?_ _)); refine blk_far ?_ qw.out _; (with_reducible repeat (first | refine blk_drewN ?_ _ | refine blk_drew ?_ | refine blk_alloc ?_ _)); exact q8.out), fun _ => qJ.out, fun _ => qH.out, fun _ => qs.out, fun _ => qA.out, fun _ => qu.out, fun _ => qB.out, fun _ => (by (with_reducible repeat (first | refine blk_drewN ?_ _ | refine blk_drew ?_ | refine blk_alloc ?_ _)); refine blk_put (cs := #[.int .i64 qx, .int .i64 0]) ?_ 1 _ rfl; (with_reducible repeat (first | refine blk_drewN ?_ _ | refine blk_drew ?_ | refine blk_alloc ?_ _)); refine blk_put (cs := #[.int .i64 0, .int .i64 0]) ?_ 0 _ rfl; (with_reducible repeat (first | refine blk_drewN ?_ _ | refine blk_drew ?_ | refine blk_alloc ?_ _)); exact q6.out), fun h0_ => absurd ((hoff 9 (by kernel_rfl)).symm.trans h0_) (by decide), Q_X6_, Q_X7_⟩
    refine steps_cons ?_ ?_
    ·rintro b a w' ⟨q0, q1, m6_, m7_, ha, q4, q5, Q_HB, qn, qm, q9, qc, qa, qe, qi, qg, qj, q7, qd, qb, qf, qk, qh, ql, qo, qq, Q_X6_, Q_X7_⟩ hb_ hon hoff
     refine ⟨_, rfl, fun K hK => ?_⟩
     have e6 : a.tmps[6]? = some (m7_) := by rw [ha]; exact putSel_on (e := (7, 6, m7_)) 7 rfl rfl (hon 7 (by kernel_rfl)) rfl
     rw [Q_X7_ (hon 7 (by kernel_rfl))] at e6
     have e12 : a.tmps[12]? = some (.agg #[.int .i64 qE, .int .i64 qF]) := by rw [ha]; exact putSel_on (e := (5, 12, .agg #[.int .i64 qE, .int .i64 qF])) 5 rfl rfl (hon 5 (by kernel_rfl)) rfl
     replace ha := Aside0.mk ha
     have q2 := Aside0.mk q4
     have q3 := Aside0.mk q5
     have HB := Aside0.mk Q_HB
     have qw := Aside0.mk (qn (hon 6 (by kernel_rfl)) (hon 7 (by kernel_rfl)))
     have qv := Aside0.mk (qm (hon 6 (by kernel_rfl)) (hon 7 (by kernel_rfl)))
     have qI := Aside0.mk (qc (hon 6 (by kernel_rfl)))
     have qG := Aside0.mk (qa (hon 6 (by kernel_rfl)))
     have qr := Aside0.mk (qe (hon 6 (by kernel_rfl)))
     have qy := Aside0.mk (qi (hon 6 (by kernel_rfl)))
     have qt := Aside0.mk (qg (hon 6 (by kernel_rfl)))
     have qz := Aside0.mk (qj (hon 6 (by kernel_rfl)))
     have q8 := Aside0.mk (q7 (hon 7 (by kernel_rfl)) hb_)
     have qJ := Aside0.mk (qd (hon 7 (by kernel_rfl)))
     have qH := Aside0.mk (qb (hon 7 (by kernel_rfl)))
     have qs := Aside0.mk (qf (hon 7 (by kernel_rfl)))
     have qA := Aside0.mk (qk (hon 7 (by kernel_rfl)))
     have qu := Aside0.mk (qh (hon 7 (by kernel_rfl)))
     have qB := Aside0.mk (ql (hon 7 (by kernel_rfl)))
     have q6 := Aside0.mk (qo (hon 8 (by kernel_rfl)))
     have gr : w'.cell? ⟨q1, 0, none⟩ = some (.int .i64 0) := (blk_cell q8.out 0).trans rfl
     have j5 := blk_frozen q8.out 0
     have jV := qs.out
     have jW := qu.out
     have jX := qv.out
     have jl := qA.out
     have jm := qB.out
     have jn := qw.out
     have gt : w'.cell? ⟨q1, 1, none⟩ = some (.int .i64 0) := (blk_cell q8.out 1).trans rfl
     have j6 := blk_frozen q8.out 1
     have jY := qs.out
     have jZ := qu.out
     have g0 := qv.out
     have jo := qA.out
     have jp := qB.out
     have jq := qw.out
     refine skip_ (w1 := ?_) (by rfl) rfl ?_ ?_
     rotate_left
     ·go_simp
      rfl
     refine hK.out _ _ ⟨q0, q1, m6_, m7_, (by rw [ha.out]; exact putSel_none (v := undef) rfl), (by (with_reducible repeat (first | refine blk_drewN ?_ _ | refine blk_drew ?_ | refine blk_alloc ?_ _)); refine blk_far ?_ qs.out _; (with_reducible repeat (first | refine blk_drewN ?_ _ | refine blk_drew ?_ | refine blk_alloc ?_ _)); refine blk_far ?_ qs.out _; (with_reducible repeat (first | refine blk_drewN ?_ _ | refine blk_drew ?_ | refine blk_alloc ?_ _)); exact q2.out), (by (with_reducible repeat (first | refine blk_drewN ?_ _ | refine blk_drew ?_ | refine blk_alloc ?_ _)); refine blk_far ?_ qu.out _; (with_reducible repeat (first | refine blk_drewN ?_ _ | refine blk_drew ?_ | refine blk_alloc ?_ _)); refine blk_far ?_ qu.out _; (with_reducible repeat (first | refine blk_drewN ?_ _ | refine blk_drew ?_ | refine blk_alloc ?_ _)); exact q3.out), (bnow HB), fun _ _ => qw.out, fun _ _ => qv.out, fun _ h1_ => absurd ((hon 8 (by kernel_rfl)).symm.trans h1_) (by decide), fun _ => qI.out, fun _ => qG.out, fun _ => qr.out, fun _ => qy.out, fun _ => qt.out, fun _ => qz.out, fun _ h1_ => absurd ((up_self b 9).symm.trans h1_) (by decide), fun _ => qJ.out, fun _ => qH.out, fun _ => qs.out, fun _ => qA.out, fun _ => qu.out, fun _ => qB.out, fun _ => (by (with_reducible repeat (first | refine blk_drewN ?_ _ | refine blk_drew ?_ | refine blk_alloc ?_ _)); refine blk_far ?_ qv.out _; (with_reducible repeat (first | refine blk_drewN ?_ _ | refine blk_drew ?_ | refine blk_alloc ?_ _)); refine blk_far ?_ qv.out _; (with_reducible repeat (first | refine blk_drewN ?_ _ | refine blk_drew ?_ | refine blk_alloc ?_ _)); exact q6.out), fun _ => (by (with_reducible repeat (first | refine blk_drewN ?_ _ | refine blk_drew ?_ | refine blk_alloc ?_ _)); refine blk_put (cs := #[.int .i64 qE, .int .i64 0]) ?_ 1 _ rfl; (with_reducible repeat (first | refine blk_drewN ?_ _ | refine blk_drew ?_ | refine blk_alloc ?_ _)); refine blk_put (cs := #[.int .i64 0, .int .i64 0]) ?_ 0 _ rfl; (with_reducible repeat (first | refine blk_drewN ?_ _ | refine blk_drew ?_ | refine blk_alloc ?_ _)); exact q8.out), Q_X6_, Q_X7_⟩
    exact steps_nil
   rintro b a w21 hall ⟨q0, q1, m6_, m7_, ha, q4, q5, Q_HB, qn, qm, q9, qc, qa, qe, qi, qg, qj, q7, qd, qb, qf, qk, qh, ql, qo, qq, Q_X6_, Q_X7_⟩
   clear q2 q3 HB
   have hb0_ := hall 0 (by kernel_rfl)
   have hb1_ := hall 1 (by kernel_rfl)
   have hb2_ := hall 2 (by kernel_rfl)
   have hb3_ := hall 3 (by kernel_rfl)
   have hb4_ := hall 4 (by kernel_rfl)
   have hb5_ := hall 5 (by kernel_rfl)
   have hb6_ := hall 6 (by kernel_rfl)
   have hb7_ := hall 7 (by kernel_rfl)
   have hb8_ := hall 8 (by kernel_rfl)
   have hb9_ := hall 9 (by kernel_rfl)
   subst ha
   obtain rfl := Q_X6_ hb6_
   obtain rfl := Q_X7_ hb7_
   simp only [putSel, hb0_, hb1_, hb2_, hb3_, hb4_, hb5_, hb6_, hb7_, hb8_, hb9_, if_true, Act.put, List.setIfInBounds_toArray, List.set_cons_zero, List.set_cons_succ]
   have q2 := Aside0.mk q4
   clear q4
   have q3 := Aside0.mk q5
   clear q5
   have HB := Aside0.mk Q_HB
   clear Q_HB
   have qw := Aside0.mk (qn hb6_ hb7_)
   clear qn
   have qv := Aside0.mk (qm hb6_ hb7_)
   clear qm
   clear q9
   have qI := Aside0.mk (qc hb6_)
   clear qc
   have qG := Aside0.mk (qa hb6_)
   clear qa
   have qr := Aside0.mk (qe hb6_)
   clear qe
   have qy := Aside0.mk (qi hb6_)
   clear qi
   have qt := Aside0.mk (qg hb6_)
   clear qg
   have qz := Aside0.mk (qj hb6_)
   clear qj
   clear q7
   have qJ := Aside0.mk (qd hb7_)
   clear qd
   have qH := Aside0.mk (qb hb7_)
   clear qb
   have qs := Aside0.mk (qf hb7_)
   clear qf
   have qA := Aside0.mk (qk hb7_)
   clear qk
   have qu := Aside0.mk (qh hb7_)
   clear qh
   have qB := Aside0.mk (ql hb7_)
   clear ql
   have q6 := Aside0.mk (qo hb8_)
   clear qo
   have q8 := Aside0.mk (qq hb9_)
   clear qq
   clear hall hb0_ hb1_ hb2_ hb3_ hb4_ hb5_ hb6_ hb7_ hb8_ hb9_
   try go_wp2
   replace q2 := bd q2
   replace q3 := bd q3
   replace q6 := bd q6
   replace q8 := bd q8
   replace HB := bdn HB
   refine start_ (n := 26) (S := fun w' => w'.cell? ⟨qC, 0, none⟩ = some (.int .i64 a0_0) ∧ w'.cell? ⟨qC, 1, none⟩ = some (.int .i64 a0_1) ∧ w'.cell? ⟨qC, 2, none⟩ = some (.int .i64 a0_2) ∧ w'.cell? ⟨q0, 0, none⟩ = some (.int .i64 qx) ∧ w'.cell? ⟨q0, 1, none⟩ = some (.int .i64 qD) ∧ w'.cell? ⟨q1, 0, none⟩ = some (.int .i64 qE) ∧ w'.cell? ⟨q1, 1, none⟩ = some (.int .i64 qF)) (ds := []) #[false, false, false, false, false, false, false, false, false, false, false, false, false, false, false, false, false, false, false, false, false, false, false, false, false, false] (by kernel_rfl) rfl rfl ⟨(blk_cell q2.out 0).trans rfl, (blk_cell q2.out 1).trans rfl, (blk_cell q2.out 2).trans rfl, (blk_cell q6.out 0).trans rfl, (blk_cell q6.out 1).trans rfl, (blk_cell q8.out 0).trans rfl, (blk_cell q8.out 1).trans rfl⟩ (fun hHeld => ?_); refine with_tabW torchonref06_keeps.tab2 torchonref06_keeps.bits2 (fun HT_ HW_ => ?_)
   generalize w21.drew = w22 at q2 q3 q6 q8 HB hHeld ⊢
   refine pz 4 17 HT_ ?_
   refine tz 0 13 HT_ HW_ hHeld ?_
   refine tz 1 14 HT_ HW_ hHeld ?_
   refine tz 2 15 HT_ HW_ hHeld ?_
   refine tz 5 18 HT_ HW_ hHeld ?_
   refine one_ (i := 3) (N := some 16) #[true, true, true, true, true, true, false, false, false, false, false, false, false, false, false, false, false, false, false, false, false, false, false, false, false, false] rfl rfl (one_of HT_.out (by kernel_rfl)) (by decide) (fun K hK => ?_)
   refine gs _ Try.func48 (torchonref06_Product.calls a0_0 a0_1 a0_2 qx qD qx qD qO _ A5.out) ?_
   rintro e w23 ⟨rfl, hb⟩
   refine ⟨_, rfl, ?_⟩
   replace q2 := bb q2 hb
   replace q3 := bb q3 hb
   replace q6 := bb q6 hb
   replace q8 := bb q8 hb
   replace HB := bst HB hb
   (try clear hb)
   (try clear hb2)
   (try clear hk)
   (try clear hi)
   refine hK.out _ _ ⟨(blk_cell q2.out 0).trans rfl, (blk_cell q2.out 1).trans rfl, (blk_cell q2.out 2).trans rfl, (blk_cell q6.out 0).trans rfl, (blk_cell q6.out 1).trans rfl, (blk_cell q8.out 0).trans rfl, (blk_cell q8.out 1).trans rfl⟩ (fun hHeld => ?_)
   clear hK K
   refine norm_ (a' := ?_) ?_ ?_
   rotate_left
   ·show Act.put _ (some 16) _ = _
    simp only [Act.put, List.setIfInBounds_toArray, List.set_cons_zero, List.set_cons_succ, i64_w, i32_w]
    rfl
   refine pz 6 19 HT_ ?_
   refine pz 7 20 HT_ ?_
   refine pz 12 25 HT_ ?_
   refine tz 8 21 HT_ HW_ hHeld ?_
   refine tz 9 22 HT_ HW_ hHeld ?_
   refine tz 10 23 HT_ HW_ hHeld ?_
   refine tz 13 26 HT_ HW_ hHeld ?_
   refine one_ (i := 11) (N := some 24) #[true, true, true, true, true, true, true, true, true, true, true, true, true, true, false, false, false, false, false, false, false, false, false, false, false, false] rfl rfl (one_of HT_.out (by kernel_rfl)) (by decide) (fun K hK => ?_)
   refine gs _ Try.func48 (torchonref06_Product.calls a0_0 a0_1 a0_2 qx qD qE qF qP _ A7.out) ?_
   rintro e w24 ⟨rfl, hb⟩
   refine ⟨_, rfl, ?_⟩
   replace q2 := bb q2 hb
   replace q3 := bb q3 hb
   replace q6 := bb q6 hb
   replace q8 := bb q8 hb
   replace HB := bst HB hb
   (try clear hb)
   (try clear hb2)
   (try clear hk)
   (try clear hi)
   refine hK.out _ _ ⟨(blk_cell q2.out 0).trans rfl, (blk_cell q2.out 1).trans rfl, (blk_cell q2.out 2).trans rfl, (blk_cell q6.out 0).trans rfl, (blk_cell q6.out 1).trans rfl, (blk_cell q8.out 0).trans rfl, (blk_cell q8.out 1).trans rfl⟩ (fun hHeld => ?_)
   clear hK K
   refine norm_ (a' := ?_) ?_ ?_
   rotate_left
   ·show Act.put _ (some 24) _ = _
    simp only [Act.put, List.setIfInBounds_toArray, List.set_cons_zero, List.set_cons_succ, i64_w, i32_w]
    rfl
   refine pz 14 27 HT_ ?_
   refine pz 15 28 HT_ ?_
   refine pz 16 29 HT_ ?_
   refine pz 21 34 HT_ ?_
   refine tz 17 30 HT_ HW_ hHeld ?_
   refine tz 18 31 HT_ HW_ hHeld ?_
   refine tz 19 32 HT_ HW_ hHeld ?_
   refine tz 22 35 HT_ HW_ hHeld ?_
   refine one_ (i := 20) (N := some 33) #[true, true, true, true, true, true, true, true, true, true, true, true, true, true, true, true, true, true, true, true, true, true, true, false, false, false] rfl rfl (one_of HT_.out (by kernel_rfl)) (by decide) (fun K hK => ?_)
   refine gs _ Try.func48 (torchonref06_Product.calls a0_0 a0_1 a0_2 qE qF qE qF qS _ A9.out) ?_
   rintro e w25 ⟨rfl, hb⟩
   refine ⟨_, rfl, ?_⟩
   replace q2 := bb q2 hb
   replace q3 := bb q3 hb
   replace q6 := bb q6 hb
   replace q8 := bb q8 hb
   replace HB := bst HB hb
   (try clear hb)
   (try clear hb2)
   (try clear hk)
   (try clear hi)
   refine hK.out _ _ ⟨(blk_cell q2.out 0).trans rfl, (blk_cell q2.out 1).trans rfl, (blk_cell q2.out 2).trans rfl, (blk_cell q6.out 0).trans rfl, (blk_cell q6.out 1).trans rfl, (blk_cell q8.out 0).trans rfl, (blk_cell q8.out 1).trans rfl⟩ (fun hHeld => ?_)
   clear hK K
   refine norm_ (a' := ?_) ?_ ?_
   rotate_left
   ·show Act.put _ (some 33) _ = _
    simp only [Act.put, List.setIfInBounds_toArray, List.set_cons_zero, List.set_cons_succ, i64_w, i32_w]
    rfl
   refine pz 23 36 HT_ ?_
   refine pz 24 37 HT_ ?_
   refine pz 25 4 HT_ ?_
   refine done_ (done_of HT_.out (by kernel_rfl)) ?_
   try go_wp2
   go_ret
   exact rt HB
  ·rw [if_neg c8] at H
   have j1 : (qP == a0_1) = false := beq_eq_false_iff_ne.mpr c8
   have j2 : (qP != a0_1) = true := bne_iff_ne.mpr c8
   obtain rfl := Option.some.inj H
   go_enter Try.func61, Try.ntmps61
   try go_wp2_with (first | ((with_reducible refine gate_dst (N := 2) rfl ?_); refine bx 2 #[.int .i64 a0_0, .int .i64 a0_1, .int .i64 a0_2] 23 fun qC hg w26 q2 hb => ?_; have qV := gw hg HB; have qT := gw hg HB; replace HB := bst HB hb; clear hb hg) | ((with_reducible refine gate_dst (N := 3) rfl ?_); refine bx 3 #[.int .i64 a1_0, .int .i64 a1_1, .int .i64 a1_2, .int .i64 a1_3] 25 fun qp hg w27 q3 hb => ?_; have qW := gw hg HB; have qU := gw hg HB; have qX := nlt hg q2; have qY := ngt hg q2; replace q2 := bb q2 hb; replace HB := bst HB hb; clear hb hg))
   replace q2 := bd q2
   replace q3 := bd q3
   replace HB := bdn HB
   refine start_ (n := 10) (S := fun w' => True) (ds := []) #[false, false, false, false, false, false, false, false, false, false] (by kernel_rfl) rfl rfl trivial (fun hHeld => ?_); refine with_tabW torchonref06_keeps.tab1 torchonref06_keeps.bits1 (fun HT_ HW_ => ?_)
   generalize w27.drew = w28 at q2 q3 HB hHeld ⊢
   refine inv_at [0, 1, 2, 3, 4, 5, 6, 7, 8, 9] (fun a0_ b a w' => ∃ (q0 : Nat) (q1 : Nat) (m6_ : Value) (m7_ : Value), a = putSel a0_ b [(0, 7, .agg #[.int .i64 a1_0, .int .i64 a1_1, .int .i64 a1_2, .int .i64 a1_3]), (1, 8, .agg #[.int .i64 1, .int .i64 0]), (2, 9, .agg #[.int .i64 qx, .int .i64 qD]), (3, 10, .agg #[.int .i64 a1_0, .int .i64 a1_1, .int .i64 a1_2, .int .i64 a1_3]), (4, 11, .agg #[.int .i64 0, .int .i64 1]), (5, 12, .agg #[.int .i64 qE, .int .i64 qF]), (6, 5, m6_), (7, 6, m7_)] ∧ (w'.heap[qC]? = some (.cells #[.int .i64 a0_0, .int .i64 a0_1, .int .i64 a0_2] 23 (0, 0))) ∧ (w'.heap[qp]? = some (.cells #[.int .i64 a1_0, .int .i64 a1_1, .int .i64 a1_2, .int .i64 a1_3] 25 (0, 0))) ∧ (Below w.heap.size w w') ∧ (b 6 = true → b 7 = true → q1 ≠ q0) ∧ (b 6 = true → b 7 = true → q0 ≠ q1) ∧ (b 6 = true → b 8 = false → w'.heap[q0]? = some (.cells #[.int .i64 0, .int .i64 0] 37 (0, 0))) ∧ (b 6 = true → w.heap.size ≤ q0) ∧ (b 6 = true → w.heap.size ≤ q0) ∧ (b 6 = true → qC ≠ q0) ∧ (b 6 = true → q0 ≠ qC) ∧ (b 6 = true → qp ≠ q0) ∧ (b 6 = true → q0 ≠ qp) ∧ (b 7 = true → b 9 = false → w'.heap[q1]? = some (.cells #[.int .i64 0, .int .i64 0] 37 (0, 0))) ∧ (b 7 = true → w.heap.size ≤ q1) ∧ (b 7 = true → w.heap.size ≤ q1) ∧ (b 7 = true → qC ≠ q1) ∧ (b 7 = true → q1 ≠ qC) ∧ (b 7 = true → qp ≠ q1) ∧ (b 7 = true → q1 ≠ qp) ∧ (b 8 = true → w'.heap[q0]? = some (.cells #[.int .i64 qx, .int .i64 qD] 37 (0, 0))) ∧ (b 9 = true → w'.heap[q1]? = some (.cells #[.int .i64 qE, .int .i64 qF] 37 (0, 0))) ∧ (b 6 = true → (m6_ : Value) = .pointer (some ⟨q0, 0, none⟩)) ∧ (b 7 = true → (m7_ : Value) = .pointer (some ⟨q1, 0, none⟩))) HT_.out HW_.out (by kernel_rfl) (by kernel_rfl) ?_ ?_ ?_
   ·exact ⟨0, 0, .bool false, .bool false, by simp only [putSel, Bool.false_eq_true, if_false], q2.out, q3.out, HB.out, fun h_ => absurd h_ (by decide), fun h_ => absurd h_ (by decide), fun h_ => absurd h_ (by decide), fun h_ => absurd h_ (by decide), fun h_ => absurd h_ (by decide), fun h_ => absurd h_ (by decide), fun h_ => absurd h_ (by decide), fun h_ => absurd h_ (by decide), fun h_ => absurd h_ (by decide), fun h_ => absurd h_ (by decide), fun h_ => absurd h_ (by decide), fun h_ => absurd h_ (by decide), fun h_ => absurd h_ (by decide), fun h_ => absurd h_ (by decide), fun h_ => absurd h_ (by decide), fun h_ => absurd h_ (by decide), fun h_ => absurd h_ (by decide), fun h_ => absurd h_ (by decide), fun h_ => absurd h_ (by decide), fun h_ => absurd h_ (by decide)⟩
   ·skip
    clear q2 q3 HB
    refine steps_cons ?_ ?_
    ·rintro b a w' ⟨q0, q1, m6_, m7_, ha, q4, q5, Q_HB, qn, qm, q9, qc, qa, qe, qi, qg, qj, q7, qd, qb, qf, qk, qh, ql, qo, qq, Q_X6_, Q_X7_⟩ hb_ hon hoff
     refine ⟨_, rfl, fun K hK => ?_⟩
     have e3 : a.tmps[3]? = some (.pointer (some ⟨qp, 0, none⟩)) := by rw [ha]; exact (putSel_off rfl).trans rfl
     replace ha := Aside0.mk ha
     have q2 := Aside0.mk q4
     have q3 := Aside0.mk q5
     have HB := Aside0.mk Q_HB
     have hc0_ : w'.cell? ⟨qp, 0, none⟩ = some (.int .i64 a1_0) := (blk_cell q3.out 0).trans rfl
     have hc1_ : w'.cell? ⟨qp, 1, none⟩ = some (.int .i64 a1_1) := (blk_cell q3.out 1).trans rfl
     have hc2_ : w'.cell? ⟨qp, 2, none⟩ = some (.int .i64 a1_2) := (blk_cell q3.out 2).trans rfl
     have hc3_ : w'.cell? ⟨qp, 3, none⟩ = some (.int .i64 a1_3) := (blk_cell q3.out 3).trans rfl
     refine value_ (w1 := w') (v := .agg #[.int .i64 a1_0, .int .i64 a1_1, .int .i64 a1_2, .int .i64 a1_3]) (by rfl) rfl ?_ ?_
     ·go_simp
      (try simp only [i64_w])
      try rfl
     refine hK.out _ _ ⟨q0, q1, m6_, m7_, (by rw [ha.out]; exact putSel_upk 0 hb_ rfl rfl rfl), q4, q5, Q_HB, qn, qm, q9, qc, qa, qe, qi, qg, qj, q7, qd, qb, qf, qk, qh, ql, fun h0_ => absurd ((hoff 8 (by kernel_rfl)).symm.trans h0_) (by decide), fun h0_ => absurd ((hoff 9 (by kernel_rfl)).symm.trans h0_) (by decide), Q_X6_, Q_X7_⟩
    refine steps_cons ?_ ?_
    ·rintro b a w' ⟨q0, q1, m6_, m7_, ha, q4, q5, Q_HB, qn, qm, q9, qc, qa, qe, qi, qg, qj, q7, qd, qb, qf, qk, qh, ql, qo, qq, Q_X6_, Q_X7_⟩ hb_ hon hoff
     refine ⟨_, rfl, fun K hK => ?_⟩
     replace ha := Aside0.mk ha
     have q2 := Aside0.mk q4
     have q3 := Aside0.mk q5
     have HB := Aside0.mk Q_HB
     refine value_ (w1 := w') (v := .agg #[.int .i64 1, .int .i64 0]) (by rfl) rfl ?_ ?_
     ·go_simp
      (try simp only [i64_w])
      try rfl
     refine hK.out _ _ ⟨q0, q1, m6_, m7_, (by rw [ha.out]; exact putSel_upk 1 hb_ rfl rfl rfl), q4, q5, Q_HB, qn, qm, q9, qc, qa, qe, qi, qg, qj, q7, qd, qb, qf, qk, qh, ql, fun h0_ => absurd ((hoff 8 (by kernel_rfl)).symm.trans h0_) (by decide), fun h0_ => absurd ((hoff 9 (by kernel_rfl)).symm.trans h0_) (by decide), Q_X6_, Q_X7_⟩
    refine steps_cons ?_ ?_
    ·rintro b a w' ⟨q0, q1, m6_, m7_, ha, q4, q5, Q_HB, qn, qm, q9, qc, qa, qe, qi, qg, qj, q7, qd, qb, qf, qk, qh, ql, qo, qq, Q_X6_, Q_X7_⟩ hb_ hon hoff
     refine ⟨_, rfl, fun K hK => ?_⟩
     have e7 : a.tmps[7]? = some (.agg #[.int .i64 a1_0, .int .i64 a1_1, .int .i64 a1_2, .int .i64 a1_3]) := by rw [ha]; exact putSel_on (e := (0, 7, .agg #[.int .i64 a1_0, .int .i64 a1_1, .int .i64 a1_2, .int .i64 a1_3])) 0 rfl rfl (hon 0 (by kernel_rfl)) rfl
     have e8 : a.tmps[8]? = some (.agg #[.int .i64 1, .int .i64 0]) := by rw [ha]; exact putSel_on (e := (1, 8, .agg #[.int .i64 1, .int .i64 0])) 1 rfl rfl (hon 1 (by kernel_rfl)) rfl
     replace ha := Aside0.mk ha
     have q2 := Aside0.mk q4
     have q3 := Aside0.mk q5
     have HB := Aside0.mk Q_HB
     refine goes_ Try.func69 (by kernel_rfl) rfl #[.agg #[.int .i64 a1_0, .int .i64 a1_1, .int .i64 a1_2, .int .i64 a1_3], .agg #[.int .i64 1, .int .i64 0]] (by rfl) rfl rfl (by first | (simp only [List.map_toArray, List.map_cons, List.map_nil, Act.eval, Array.getD_eq_getD_getElem?, Option.getD_some, e7, e8]; done) | (simp only [List.map_toArray, List.map_cons, List.map_nil, Act.eval, Array.getD_eq_getD_getElem?, Option.getD_some, e7, e8]; rfl)) ?_
     with_reducible refine (torchonref06_image.calls a1_0 a1_1 a1_2 a1_3 1 0 qx qD _ A3.out).mono ?_
     rintro e w29 ⟨rfl, hb⟩
     refine ⟨_, rfl, ?_⟩
     have n0_ := bb q2 hb
     have n1_ := bb q3 hb
     have n2_ := bst HB hb
     have qK := fun (h0_ : b 6 = true) (h1_ : b 8 = false) => (show w29.heap[q0]? = some (.cells #[.int .i64 0, .int .i64 0] 37 (0, 0)) from by first | exact (blk_below (g := q0) (o := .cells #[.int .i64 0, .int .i64 0] 37 (0, 0)) (by (with_reducible repeat (first | refine blk_drewN ?_ _ | refine blk_drew ?_ | refine blk_alloc ?_ _)); exact (q9 h0_ h1_)) hb))
     have qL := fun (h0_ : b 7 = true) (h1_ : b 9 = false) => (show w29.heap[q1]? = some (.cells #[.int .i64 0, .int .i64 0] 37 (0, 0)) from by first | exact (blk_below (g := q1) (o := .cells #[.int .i64 0, .int .i64 0] 37 (0, 0)) (by (with_reducible repeat (first | refine blk_drewN ?_ _ | refine blk_drew ?_ | refine blk_alloc ?_ _)); exact (q7 h0_ h1_)) hb))
     clear q2
     clear q3
     clear HB
     have q2 := n0_
     have q3 := n1_
     have HB := n2_
     clear n0_ n1_ n2_
     (try clear hb)
     (try clear hb2)
     (try clear hk)
     (try clear hi)
     refine hK.out _ _ ⟨q0, q1, m6_, m7_, (by rw [ha.out]; exact putSel_upk 2 hb_ rfl rfl rfl), (pk q2), (pk q3), (bnow HB), qn, qm, qK, qc, qa, qe, qi, qg, qj, qL, qd, qb, qf, qk, qh, ql, fun h0_ => absurd ((hoff 8 (by kernel_rfl)).symm.trans h0_) (by decide), fun h0_ => absurd ((hoff 9 (by kernel_rfl)).symm.trans h0_) (by decide), Q_X6_, Q_X7_⟩
    refine steps_cons ?_ ?_
    ·rintro b a w' ⟨q0, q1, m6_, m7_, ha, q4, q5, Q_HB, qn, qm, q9, qc, qa, qe, qi, qg, qj, q7, qd, qb, qf, qk, qh, ql, qo, qq, Q_X6_, Q_X7_⟩ hb_ hon hoff
     refine ⟨_, rfl, fun K hK => ?_⟩
     have e3 : a.tmps[3]? = some (.pointer (some ⟨qp, 0, none⟩)) := by rw [ha]; exact (putSel_off rfl).trans rfl
     replace ha := Aside0.mk ha
     have q2 := Aside0.mk q4
     have q3 := Aside0.mk q5
     have HB := Aside0.mk Q_HB
     have hc0_ : w'.cell? ⟨qp, 0, none⟩ = some (.int .i64 a1_0) := (blk_cell q3.out 0).trans rfl
     have hc1_ : w'.cell? ⟨qp, 1, none⟩ = some (.int .i64 a1_1) := (blk_cell q3.out 1).trans rfl
     have hc2_ : w'.cell? ⟨qp, 2, none⟩ = some (.int .i64 a1_2) := (blk_cell q3.out 2).trans rfl
     have hc3_ : w'.cell? ⟨qp, 3, none⟩ = some (.int .i64 a1_3) := (blk_cell q3.out 3).trans rfl
     refine value_ (w1 := w') (v := .agg #[.int .i64 a1_0, .int .i64 a1_1, .int .i64 a1_2, .int .i64 a1_3]) (by rfl) rfl ?_ ?_
     ·go_simp
      (try simp only [i64_w])
      try rfl
     refine hK.out _ _ ⟨q0, q1, m6_, m7_, (by rw [ha.out]; exact putSel_upk 3 hb_ rfl rfl rfl), q4, q5, Q_HB, qn, qm, q9, qc, qa, qe, qi, qg, qj, q7, qd, qb, qf, qk, qh, ql, fun h0_ => absurd ((hoff 8 (by kernel_rfl)).symm.trans h0_) (by decide), fun h0_ => absurd ((hoff 9 (by kernel_rfl)).symm.trans h0_) (by decide), Q_X6_, Q_X7_⟩
    refine steps_cons ?_ ?_
    ·rintro b a w' ⟨q0, q1, m6_, m7_, ha, q4, q5, Q_HB, qn, qm, q9, qc, qa, qe, qi, qg, qj, q7, qd, qb, qf, qk, qh, ql, qo, qq, Q_X6_, Q_X7_⟩ hb_ hon hoff
     refine ⟨_, rfl, fun K hK => ?_⟩
     replace ha := Aside0.mk ha
     have q2 := Aside0.mk q4
     have q3 := Aside0.mk q5
     have HB := Aside0.mk Q_HB
     refine value_ (w1 := w') (v := .agg #[.int .i64 0, .int .i64 1]) (by rfl) rfl ?_ ?_
     ·go_simp
      (try simp only [i64_w])
      try rfl
     refine hK.out _ _ ⟨q0, q1, m6_, m7_, (by rw [ha.out]; exact putSel_upk 4 hb_ rfl rfl rfl), q4, q5, Q_HB, qn, qm, q9, qc, qa, qe, qi, qg, qj, q7, qd, qb, qf, qk, qh, ql, fun h0_ => absurd ((hoff 8 (by kernel_rfl)).symm.trans h0_) (by decide), fun h0_ => absurd ((hoff 9 (by kernel_rfl)).symm.trans h0_) (by decide), Q_X6_, Q_X7_⟩
    refine steps_cons ?_ ?_
    ·rintro b a w' ⟨q0, q1, m6_, m7_, ha, q4, q5, Q_HB, qn, qm, q9, qc, qa, qe, qi, qg, qj, q7, qd, qb, qf, qk, qh, ql, qo, qq, Q_X6_, Q_X7_⟩ hb_ hon hoff
     refine ⟨_, rfl, fun K hK => ?_⟩
     have e10 : a.tmps[10]? = some (.agg #[.int .i64 a1_0, .int .i64 a1_1, .int .i64 a1_2, .int .i64 a1_3]) := by rw [ha]; exact putSel_on (e := (3, 10, .agg #[.int .i64 a1_0, .int .i64 a1_1, .int .i64 a1_2, .int .i64 a1_3])) 3 rfl rfl (hon 3 (by kernel_rfl)) rfl
     have e11 : a.tmps[11]? = some (.agg #[.int .i64 0, .int .i64 1]) := by rw [ha]; exact putSel_on (e := (4, 11, .agg #[.int .i64 0, .int .i64 1])) 4 rfl rfl (hon 4 (by kernel_rfl)) rfl
     replace ha := Aside0.mk ha
     have q2 := Aside0.mk q4
     have q3 := Aside0.mk q5
     have HB := Aside0.mk Q_HB
     refine goes_ Try.func69 (by kernel_rfl) rfl #[.agg #[.int .i64 a1_0, .int .i64 a1_1, .int .i64 a1_2, .int .i64 a1_3], .agg #[.int .i64 0, .int .i64 1]] (by rfl) rfl rfl (by first | (simp only [List.map_toArray, List.map_cons, List.map_nil, Act.eval, Array.getD_eq_getD_getElem?, Option.getD_some, e10, e11]; done) | (simp only [List.map_toArray, List.map_cons, List.map_nil, Act.eval, Array.getD_eq_getD_getElem?, Option.getD_some, e10, e11]; rfl)) ?_
     with_reducible refine (torchonref06_image.calls a1_0 a1_1 a1_2 a1_3 0 1 qE qF _ A4.out).mono ?_
     rintro e w31 ⟨rfl, hb⟩
     refine ⟨_, rfl, ?_⟩
     have n0_ := bb q2 hb
     have n1_ := bb q3 hb
     have n2_ := bst HB hb
     have qK := fun (h0_ : b 6 = true) (h1_ : b 8 = false) => (show w31.heap[q0]? = some (.cells #[.int .i64 0, .int .i64 0] 37 (0, 0)) from by first | exact (blk_below (g := q0) (o := .cells #[.int .i64 0, .int .i64 0] 37 (0, 0)) (by (with_reducible repeat (first | refine blk_drewN ?_ _ | refine blk_drew ?_ | refine blk_alloc ?_ _)); exact (q9 h0_ h1_)) hb))
     have qL := fun (h0_ : b 7 = true) (h1_ : b 9 = false) => (show w31.heap[q1]? = some (.cells #[.int .i64 0, .int .i64 0] 37 (0, 0)) from by first | exact (blk_below (g := q1) (o := .cells #[.int .i64 0, .int .i64 0] 37 (0, 0)) (by (with_reducible repeat (first | refine blk_drewN ?_ _ | refine blk_drew ?_ | refine blk_alloc ?_ _)); exact (q7 h0_ h1_)) hb))
     clear q2
     clear q3
     clear HB
     have q2 := n0_
     have q3 := n1_
     have HB := n2_
     clear n0_ n1_ n2_
     (try clear hb)
     (try clear hb2)
     (try clear hk)
     (try clear hi)
     refine hK.out _ _ ⟨q0, q1, m6_, m7_, (by rw [ha.out]; exact putSel_upk 5 hb_ rfl rfl rfl), (pk q2), (pk q3), (bnow HB), qn, qm, qK, qc, qa, qe, qi, qg, qj, qL, qd, qb, qf, qk, qh, ql, fun h0_ => absurd ((hoff 8 (by kernel_rfl)).symm.trans h0_) (by decide), fun h0_ => absurd ((hoff 9 (by kernel_rfl)).symm.trans h0_) (by decide), Q_X6_, Q_X7_⟩
    refine steps_cons ?_ ?_
    ·rintro b a w' ⟨q0, q1, m6_, m7_, ha, q4, q5, Q_HB, qn, qm, q9, qc, qa, qe, qi, qg, qj, q7, qd, qb, qf, qk, qh, ql, qo, qq, Q_X6_, Q_X7_⟩ hb_ hon hoff
     refine ⟨_, rfl, fun K hK => ?_⟩
     replace ha := Aside0.mk ha
     have q2 := Aside0.mk q4
     have q3 := Aside0.mk q5
     have HB := Aside0.mk Q_HB
     refine box_step ?hg (N := 5) ?hd (cs := #[.int .i64 0, .int .i64 0]) (t := 37) ?hr ?_; (case hd => rfl); (case hg => rfl); (case hr => first | (go_simp; done) | (go_simp; rfl))
     intro q0 hg w29 hbox hb
     have n0_ := bb q2 hb
     have n1_ := bb q3 hb
     have n2_ := bst HB hb
     have n3_ := Aside0.mk (hbox)
     have n4_ := gw hg HB
     have n5_ := gw hg HB
     have n6_ := nlt hg q2
     have n7_ := ngt hg q2
     have n8_ := nlt hg q3
     have n9_ := ngt hg q3
     have qR := fun (h0_ : up b 6 6 = true) (h1_ : up b 6 7 = true) => (show q1 ≠ q0 from (by cases hb_ : b 9 with | false => exact ((by rw [hg]; exact Nat.ne_of_lt (blk_lt (g := q1) (o := .cells #[.int .i64 0, .int .i64 0] 37 (0, 0)) (by (with_reducible repeat (first | refine blk_drewN ?_ _ | refine blk_drew ?_ | refine blk_alloc ?_ _)); exact (q7 h1_ hb_))) : q1 ≠ q0)) | true => exact ((by rw [hg]; exact Nat.ne_of_lt (blk_lt (g := q1) (by (with_reducible repeat (first | refine blk_drewN ?_ _ | refine blk_drew ?_ | refine blk_alloc ?_ _)); exact (qq hb_))) : q1 ≠ q0))))
     have qQ := fun (h0_ : up b 6 6 = true) (h1_ : up b 6 7 = true) => (show q0 ≠ q1 from (by cases hb_ : b 9 with | false => exact ((by rw [hg]; exact Nat.ne_of_gt (blk_lt (g := q1) (o := .cells #[.int .i64 0, .int .i64 0] 37 (0, 0)) (by (with_reducible repeat (first | refine blk_drewN ?_ _ | refine blk_drew ?_ | refine blk_alloc ?_ _)); exact (q7 h1_ hb_))) : q0 ≠ q1)) | true => exact ((by rw [hg]; exact Nat.ne_of_gt (blk_lt (g := q1) (by (with_reducible repeat (first | refine blk_drewN ?_ _ | refine blk_drew ?_ | refine blk_alloc ?_ _)); exact (qq hb_))) : q0 ≠ q1))))
     have qL := fun (h0_ : b 7 = true) (h1_ : b 9 = false) => (show w29.heap[q1]? = some (.cells #[.int .i64 0, .int .i64 0] 37 (0, 0)) from by first | exact (blk_below (g := q1) (o := .cells #[.int .i64 0, .int .i64 0] 37 (0, 0)) (by (with_reducible repeat (first | refine blk_drewN ?_ _ | refine blk_drew ?_ | refine blk_alloc ?_ _)); exact (q7 h0_ h1_)) hb))
     clear q2
     clear q3
     clear HB
     have q2 := n0_
     have q3 := n1_
     have HB := n2_
     have q6 := n3_
     have qI := n4_
     have qG := n5_
     have qr := n6_
     have qy := n7_
     have qt := n8_
     have qz := n9_
     clear n0_ n1_ n2_ n3_ n4_ n5_ n6_ n7_ n8_ n9_
     clear hb hg
     refine hK.out _ _ ⟨q0, q1, (.pointer (some ⟨q0, 0, none⟩)), m7_, (by rw [ha.out]; exact putSel_upk 6 hb_ rfl rfl rfl), (pk q2), (pk q3), (bnow HB), qR, qQ, fun _ _ => (pk q6), fun _ => qI.out, fun _ => qG.out, fun _ => qr.out, fun _ => qy.out, fun _ => qt.out, fun _ => qz.out, qL, qd, qb, qf, qk, qh, ql, fun h0_ => absurd ((hoff 8 (by kernel_rfl)).symm.trans h0_) (by decide), fun h0_ => absurd ((hoff 9 (by kernel_rfl)).symm.trans h0_) (by decide), fun _ => rfl, Q_X7_⟩
    refine steps_cons ?_ ?_
    ·rintro b a w' ⟨q0, q1, m6_, m7_, ha, q4, q5, Q_HB, qn, qm, q9, qc, qa, qe, qi, qg, qj, q7, qd, qb, qf, qk, qh, ql, qo, qq, Q_X6_, Q_X7_⟩ hb_ hon hoff
     refine ⟨_, rfl, fun K hK => ?_⟩
     replace ha := Aside0.mk ha
     have q2 := Aside0.mk q4
     have q3 := Aside0.mk q5
     have HB := Aside0.mk Q_HB
     refine box_step ?hg (N := 6) ?hd (cs := #[.int .i64 0, .int .i64 0]) (t := 37) ?hr ?_; (case hd => rfl); (case hg => rfl); (case hr => first | (go_simp; done) | (go_simp; rfl))
     intro q1 hg w29 hbox hb
     have n0_ := bb q2 hb
     have n1_ := bb q3 hb
     have n2_ := bst HB hb
     have n3_ := Aside0.mk (hbox)
     have n4_ := gw hg HB
     have n5_ := gw hg HB
     have n6_ := nlt hg q2
     have n7_ := ngt hg q2
     have n8_ := nlt hg q3
     have n9_ := ngt hg q3
     have qR := fun (h0_ : up b 7 6 = true) (h1_ : up b 7 7 = true) => (show q1 ≠ q0 from (by cases hb_ : b 8 with | false => exact ((by rw [hg]; exact Nat.ne_of_gt (blk_lt (g := q0) (o := .cells #[.int .i64 0, .int .i64 0] 37 (0, 0)) (by (with_reducible repeat (first | refine blk_drewN ?_ _ | refine blk_drew ?_ | refine blk_alloc ?_ _)); exact (q9 h0_ hb_))) : q1 ≠ q0)) | true => exact ((by rw [hg]; exact Nat.ne_of_gt (blk_lt (g := q0) (by (with_reducible repeat (first | refine blk_drewN ?_ _ | refine blk_drew ?_ | refine blk_alloc ?_ _)); exact (qo hb_))) : q1 ≠ q0))))
     have qQ := fun (h0_ : up b 7 6 = true) (h1_ : up b 7 7 = true) => (show q0 ≠ q1 from (by cases hb_ : b 8 with | false => exact ((by rw [hg]; exact Nat.ne_of_lt (blk_lt (g := q0) (o := .cells #[.int .i64 0, .int .i64 0] 37 (0, 0)) (by (with_reducible repeat (first | refine blk_drewN ?_ _ | refine blk_drew ?_ | refine blk_alloc ?_ _)); exact (q9 h0_ hb_))) : q0 ≠ q1)) | true => exact ((by rw [hg]; exact Nat.ne_of_lt (blk_lt (g := q0) (by (with_reducible repeat (first | refine blk_drewN ?_ _ | refine blk_drew ?_ | refine blk_alloc ?_ _)); exact (qo hb_))) : q0 ≠ q1))))
     have qK := fun (h0_ : b 6 = true) (h1_ : b 8 = false) => (show w29.heap[q0]? = some (.cells #[.int .i64 0, .int .i64 0] 37 (0, 0)) from by first | exact (blk_below (g := q0) (o := .cells #[.int .i64 0, .int .i64 0] 37 (0, 0)) (by (with_reducible repeat (first | refine blk_drewN ?_ _ | refine blk_drew ?_ | refine blk_alloc ?_ _)); exact (q9 h0_ h1_)) hb))
     clear q2
     clear q3
     clear HB
     have q2 := n0_
     have q3 := n1_
     have HB := n2_
     have q8 := n3_
     have qJ := n4_
     have qH := n5_
     have qs := n6_
     have qA := n7_
     have qu := n8_
     have qB := n9_
     clear n0_ n1_ n2_ n3_ n4_ n5_ n6_ n7_ n8_ n9_
     clear hb hg
     refine hK.out _ _ ⟨q0, q1, m6_, (.pointer (some ⟨q1, 0, none⟩)), (by rw [ha.out]; exact putSel_upk 7 hb_ rfl rfl rfl), (pk q2), (pk q3), (bnow HB), qR, qQ, qK, qc, qa, qe, qi, qg, qj, fun _ _ => (pk q8), fun _ => qJ.out, fun _ => qH.out, fun _ => qs.out, fun _ => qA.out, fun _ => qu.out, fun _ => qB.out, fun h0_ => absurd ((hoff 8 (by kernel_rfl)).symm.trans h0_) (by decide), fun h0_ => absurd ((hoff 9 (by kernel_rfl)).symm.trans h0_) (by decide), Q_X6_, fun _ => rfl⟩
    refine steps_cons ?_ ?_
    ·rintro b a w' ⟨q0, q1, m6_, m7_, ha, q4, q5, Q_HB, qn, qm, q9, qc, qa, qe, qi, qg, qj, q7, qd, qb, qf, qk, qh, ql, qo, qq, Q_X6_, Q_X7_⟩ hb_ hon hoff
     refine ⟨_, rfl, fun K hK => ?_⟩
     have e5 : a.tmps[5]? = some (m6_) := by rw [ha]; exact putSel_on (e := (6, 5, m6_)) 6 rfl rfl (hon 6 (by kernel_rfl)) rfl
     rw [Q_X6_ (hon 6 (by kernel_rfl))] at e5
     have e9 : a.tmps[9]? = some (.agg #[.int .i64 qx, .int .i64 qD]) := by rw [ha]; exact putSel_on (e := (2, 9, .agg #[.int .i64 qx, .int .i64 qD])) 2 rfl rfl (hon 2 (by kernel_rfl)) rfl
     replace ha := Aside0.mk ha
     have q2 := Aside0.mk q4
     have q3 := Aside0.mk q5
     have HB := Aside0.mk Q_HB
     have qw := Aside0.mk (qn (hon 6 (by kernel_rfl)) (hon 7 (by kernel_rfl)))
     have qv := Aside0.mk (qm (hon 6 (by kernel_rfl)) (hon 7 (by kernel_rfl)))
     have q6 := Aside0.mk (q9 (hon 6 (by kernel_rfl)) hb_)
     have qI := Aside0.mk (qc (hon 6 (by kernel_rfl)))
     have qG := Aside0.mk (qa (hon 6 (by kernel_rfl)))
     have qr := Aside0.mk (qe (hon 6 (by kernel_rfl)))
     have qy := Aside0.mk (qi (hon 6 (by kernel_rfl)))
     have qt := Aside0.mk (qg (hon 6 (by kernel_rfl)))
     have qz := Aside0.mk (qj (hon 6 (by kernel_rfl)))
     have q8 := Aside0.mk (q7 (hon 7 (by kernel_rfl)) (hoff 9 (by kernel_rfl)))
     have qJ := Aside0.mk (qd (hon 7 (by kernel_rfl)))
     have qH := Aside0.mk (qb (hon 7 (by kernel_rfl)))
     have qs := Aside0.mk (qf (hon 7 (by kernel_rfl)))
     have qA := Aside0.mk (qk (hon 7 (by kernel_rfl)))
     have qu := Aside0.mk (qh (hon 7 (by kernel_rfl)))
     have qB := Aside0.mk (ql (hon 7 (by kernel_rfl)))
     have gu : w'.cell? ⟨q0, 0, none⟩ = some (.int .i64 0) := (blk_cell q6.out 0).trans rfl
     have j7 := blk_frozen q6.out 0
     have g1 := qr.out
     have g2 := qt.out
     have g3 := qw.out
     have jr := qy.out
     have js := qz.out
     have jt := qv.out
     have gv : w'.cell? ⟨q0, 1, none⟩ = some (.int .i64 0) := (blk_cell q6.out 1).trans rfl
     have j8 := blk_frozen q6.out 1
     have g4 := qr.out
     have g5 := qt.out
     have g6 := qw.out
     have ju := qy.out
     have jv := qz.out
     have jw := qv.out
     refine skip_ (w1 := ?_) (by rfl) rfl ?_ ?_
     rotate_left
     ·go_simp
      rfl
     refine hK.out _ _ ⟨q0, q1, m6_, m7_, (by rw [ha.out]; exact putSel_none (v := undef) rfl), (by (with_reducible repeat (first | refine blk_drewN ?_ _ | refine blk_drew ?_ | refine blk_alloc ?_ _)); refine blk_far ?_ qr.out _; (with_reducible repeat (first | refine blk_drewN ?_ _ | refine blk_drew ?_ | refine blk_alloc ?_ _)); refine blk_far ?_ qr.out _; (with_reducible repeat (first | refine blk_drewN ?_ _ | refine blk_drew ?_ | refine blk_alloc ?_ _)); exact q2.out), (by (with_reducible repeat (first | refine blk_drewN ?_ _ | refine blk_drew ?_ | refine blk_alloc ?_ _)); refine blk_far ?_ qt.out _; (with_reducible repeat (first | refine blk_drewN ?_ _ | refine blk_drew ?_ | refine blk_alloc ?_ _)); refine blk_far ?_ qt.out _; (with_reducible repeat (first | refine blk_drewN ?_ _ | refine blk_drew ?_ | refine blk_alloc ?_ _)); exact q3.out), (bnow HB), fun _ _ => qw.out, fun _ _ => qv.out, fun _ h1_ => absurd ((up_self b 8).symm.trans h1_) (by decide), fun _ => qI.out, fun _ => qG.out, fun _ => qr.out, fun _ => qy.out, fun _ => qt.out, fun _ => qz.out, fun _ _ => (by (with_reducible repeat (first | refine blk_drewN ?_ _ | refine blk_drew ?_ | refine blk_alloc ?_ _)); refine blk_far ?_ qw.out _; (with_reducible repeat (first | refine blk_drewN ?_ _ | refine blk_drew ?_ | refine blk_alloc ?_ _)); refine blk_far ?_ qw.out _; (with_reducible repeat (first | refine blk_drewN ?_ _ | refine blk_drew ?_ | refine blk_alloc ?_ _)); exact q8.out), fun _ => qJ.out, fun _ => qH.out, fun _ => qs.out, fun _ => qA.out, fun _ => qu.out, fun _ => qB.out, fun _ => (by (with_reducible repeat (first | refine blk_drewN ?_ _ | refine blk_drew ?_ | refine blk_alloc ?_ _)); refine blk_put (cs := #[.int .i64 qx, .int .i64 0]) ?_ 1 _ rfl; (with_reducible repeat (first | refine blk_drewN ?_ _ | refine blk_drew ?_ | refine blk_alloc ?_ _)); refine blk_put (cs := #[.int .i64 0, .int .i64 0]) ?_ 0 _ rfl; (with_reducible repeat (first | refine blk_drewN ?_ _ | refine blk_drew ?_ | refine blk_alloc ?_ _)); exact q6.out), fun h0_ => absurd ((hoff 9 (by kernel_rfl)).symm.trans h0_) (by decide), Q_X6_, Q_X7_⟩
    refine steps_cons ?_ ?_
    ·rintro b a w' ⟨q0, q1, m6_, m7_, ha, q4, q5, Q_HB, qn, qm, q9, qc, qa, qe, qi, qg, qj, q7, qd, qb, qf, qk, qh, ql, qo, qq, Q_X6_, Q_X7_⟩ hb_ hon hoff
     refine ⟨_, rfl, fun K hK => ?_⟩
     have e6 : a.tmps[6]? = some (m7_) := by rw [ha]; exact putSel_on (e := (7, 6, m7_)) 7 rfl rfl (hon 7 (by kernel_rfl)) rfl
     rw [Q_X7_ (hon 7 (by kernel_rfl))] at e6
     have e12 : a.tmps[12]? = some (.agg #[.int .i64 qE, .int .i64 qF]) := by rw [ha]; exact putSel_on (e := (5, 12, .agg #[.int .i64 qE, .int .i64 qF])) 5 rfl rfl (hon 5 (by kernel_rfl)) rfl
     replace ha := Aside0.mk ha
     have q2 := Aside0.mk q4
     have q3 := Aside0.mk q5
     have HB := Aside0.mk Q_HB
     have qw := Aside0.mk (qn (hon 6 (by kernel_rfl)) (hon 7 (by kernel_rfl)))
     have qv := Aside0.mk (qm (hon 6 (by kernel_rfl)) (hon 7 (by kernel_rfl)))
     have qI := Aside0.mk (qc (hon 6 (by kernel_rfl)))
     have qG := Aside0.mk (qa (hon 6 (by kernel_rfl)))
     have qr := Aside0.mk (qe (hon 6 (by kernel_rfl)))
     have qy := Aside0.mk (qi (hon 6 (by kernel_rfl)))
     have qt := Aside0.mk (qg (hon 6 (by kernel_rfl)))
     have qz := Aside0.mk (qj (hon 6 (by kernel_rfl)))
     have q8 := Aside0.mk (q7 (hon 7 (by kernel_rfl)) hb_)
     have qJ := Aside0.mk (qd (hon 7 (by kernel_rfl)))
     have qH := Aside0.mk (qb (hon 7 (by kernel_rfl)))
     have qs := Aside0.mk (qf (hon 7 (by kernel_rfl)))
     have qA := Aside0.mk (qk (hon 7 (by kernel_rfl)))
     have qu := Aside0.mk (qh (hon 7 (by kernel_rfl)))
     have qB := Aside0.mk (ql (hon 7 (by kernel_rfl)))
     have q6 := Aside0.mk (qo (hon 8 (by kernel_rfl)))
     have gx : w'.cell? ⟨q1, 0, none⟩ = some (.int .i64 0) := (blk_cell q8.out 0).trans rfl
     have j9 := blk_frozen q8.out 0
     have g7 := qs.out
     have g8 := qu.out
     have g9 := qv.out
     have jx := qA.out
     have jy := qB.out
     have jz := qw.out
     have gy : w'.cell? ⟨q1, 1, none⟩ = some (.int .i64 0) := (blk_cell q8.out 1).trans rfl
     have ja := blk_frozen q8.out 1
     have ga := qs.out
     have gb := qu.out
     have gc := qv.out
     have jA := qA.out
     have jB := qB.out
     have jC := qw.out
     refine skip_ (w1 := ?_) (by rfl) rfl ?_ ?_
     rotate_left
     ·go_simp
      rfl
     refine hK.out _ _ ⟨q0, q1, m6_, m7_, (by rw [ha.out]; exact putSel_none (v := undef) rfl), (by (with_reducible repeat (first | refine blk_drewN ?_ _ | refine blk_drew ?_ | refine blk_alloc ?_ _)); refine blk_far ?_ qs.out _; (with_reducible repeat (first | refine blk_drewN ?_ _ | refine blk_drew ?_ | refine blk_alloc ?_ _)); refine blk_far ?_ qs.out _; (with_reducible repeat (first | refine blk_drewN ?_ _ | refine blk_drew ?_ | refine blk_alloc ?_ _)); exact q2.out), (by (with_reducible repeat (first | refine blk_drewN ?_ _ | refine blk_drew ?_ | refine blk_alloc ?_ _)); refine blk_far ?_ qu.out _; (with_reducible repeat (first | refine blk_drewN ?_ _ | refine blk_drew ?_ | refine blk_alloc ?_ _)); refine blk_far ?_ qu.out _; (with_reducible repeat (first | refine blk_drewN ?_ _ | refine blk_drew ?_ | refine blk_alloc ?_ _)); exact q3.out), (bnow HB), fun _ _ => qw.out, fun _ _ => qv.out, fun _ h1_ => absurd ((hon 8 (by kernel_rfl)).symm.trans h1_) (by decide), fun _ => qI.out, fun _ => qG.out, fun _ => qr.out, fun _ => qy.out, fun _ => qt.out, fun _ => qz.out, fun _ h1_ => absurd ((up_self b 9).symm.trans h1_) (by decide), fun _ => qJ.out, fun _ => qH.out, fun _ => qs.out, fun _ => qA.out, fun _ => qu.out, fun _ => qB.out, fun _ => (by (with_reducible repeat (first | refine blk_drewN ?_ _ | refine blk_drew ?_ | refine blk_alloc ?_ _)); refine blk_far ?_ qv.out _; (with_reducible repeat (first | refine blk_drewN ?_ _ | refine blk_drew ?_ | refine blk_alloc ?_ _)); refine blk_far ?_ qv.out _; (with_reducible repeat (first | refine blk_drewN ?_ _ | refine blk_drew ?_ | refine blk_alloc ?_ _)); exact q6.out), fun _ => (by (with_reducible repeat (first | refine blk_drewN ?_ _ | refine blk_drew ?_ | refine blk_alloc ?_ _)); refine blk_put (cs := #[.int .i64 qE, .int .i64 0]) ?_ 1 _ rfl; (with_reducible repeat (first | refine blk_drewN ?_ _ | refine blk_drew ?_ | refine blk_alloc ?_ _)); refine blk_put (cs := #[.int .i64 0, .int .i64 0]) ?_ 0 _ rfl; (with_reducible repeat (first | refine blk_drewN ?_ _ | refine blk_drew ?_ | refine blk_alloc ?_ _)); exact q8.out), Q_X6_, Q_X7_⟩
    exact steps_nil
   rintro b a w37 hall ⟨q0, q1, m6_, m7_, ha, q4, q5, Q_HB, qn, qm, q9, qc, qa, qe, qi, qg, qj, q7, qd, qb, qf, qk, qh, ql, qo, qq, Q_X6_, Q_X7_⟩
   clear q2 q3 HB
   have hb0_ := hall 0 (by kernel_rfl)
   have hb1_ := hall 1 (by kernel_rfl)
   have hb2_ := hall 2 (by kernel_rfl)
   have hb3_ := hall 3 (by kernel_rfl)
   have hb4_ := hall 4 (by kernel_rfl)
   have hb5_ := hall 5 (by kernel_rfl)
   have hb6_ := hall 6 (by kernel_rfl)
   have hb7_ := hall 7 (by kernel_rfl)
   have hb8_ := hall 8 (by kernel_rfl)
   have hb9_ := hall 9 (by kernel_rfl)
   subst ha
   obtain rfl := Q_X6_ hb6_
   obtain rfl := Q_X7_ hb7_
   simp only [putSel, hb0_, hb1_, hb2_, hb3_, hb4_, hb5_, hb6_, hb7_, hb8_, hb9_, if_true, Act.put, List.setIfInBounds_toArray, List.set_cons_zero, List.set_cons_succ]
   have q2 := Aside0.mk q4
   clear q4
   have q3 := Aside0.mk q5
   clear q5
   have HB := Aside0.mk Q_HB
   clear Q_HB
   have qw := Aside0.mk (qn hb6_ hb7_)
   clear qn
   have qv := Aside0.mk (qm hb6_ hb7_)
   clear qm
   clear q9
   have qI := Aside0.mk (qc hb6_)
   clear qc
   have qG := Aside0.mk (qa hb6_)
   clear qa
   have qr := Aside0.mk (qe hb6_)
   clear qe
   have qy := Aside0.mk (qi hb6_)
   clear qi
   have qt := Aside0.mk (qg hb6_)
   clear qg
   have qz := Aside0.mk (qj hb6_)
   clear qj
   clear q7
   have qJ := Aside0.mk (qd hb7_)
   clear qd
   have qH := Aside0.mk (qb hb7_)
   clear qb
   have qs := Aside0.mk (qf hb7_)
   clear qf
   have qA := Aside0.mk (qk hb7_)
   clear qk
   have qu := Aside0.mk (qh hb7_)
   clear qh
   have qB := Aside0.mk (ql hb7_)
   clear ql
   have q6 := Aside0.mk (qo hb8_)
   clear qo
   have q8 := Aside0.mk (qq hb9_)
   clear qq
   clear hall hb0_ hb1_ hb2_ hb3_ hb4_ hb5_ hb6_ hb7_ hb8_ hb9_
   try go_wp2
   replace q2 := bd q2
   replace q3 := bd q3
   replace q6 := bd q6
   replace q8 := bd q8
   replace HB := bdn HB
   refine start_ (n := 26) (S := fun w' => w'.cell? ⟨qC, 0, none⟩ = some (.int .i64 a0_0) ∧ w'.cell? ⟨qC, 1, none⟩ = some (.int .i64 a0_1) ∧ w'.cell? ⟨qC, 2, none⟩ = some (.int .i64 a0_2) ∧ w'.cell? ⟨q0, 0, none⟩ = some (.int .i64 qx) ∧ w'.cell? ⟨q0, 1, none⟩ = some (.int .i64 qD) ∧ w'.cell? ⟨q1, 0, none⟩ = some (.int .i64 qE) ∧ w'.cell? ⟨q1, 1, none⟩ = some (.int .i64 qF)) (ds := []) #[false, false, false, false, false, false, false, false, false, false, false, false, false, false, false, false, false, false, false, false, false, false, false, false, false, false] (by kernel_rfl) rfl rfl ⟨(blk_cell q2.out 0).trans rfl, (blk_cell q2.out 1).trans rfl, (blk_cell q2.out 2).trans rfl, (blk_cell q6.out 0).trans rfl, (blk_cell q6.out 1).trans rfl, (blk_cell q8.out 0).trans rfl, (blk_cell q8.out 1).trans rfl⟩ (fun hHeld => ?_); refine with_tabW torchonref06_keeps.tab2 torchonref06_keeps.bits2 (fun HT_ HW_ => ?_)
   generalize w37.drew = w38 at q2 q3 q6 q8 HB hHeld ⊢
   refine pz 4 17 HT_ ?_
   refine tz 0 13 HT_ HW_ hHeld ?_
   refine tz 1 14 HT_ HW_ hHeld ?_
   refine tz 2 15 HT_ HW_ hHeld ?_
   refine tz 5 18 HT_ HW_ hHeld ?_
   refine one_ (i := 3) (N := some 16) #[true, true, true, true, true, true, false, false, false, false, false, false, false, false, false, false, false, false, false, false, false, false, false, false, false, false] rfl rfl (one_of HT_.out (by kernel_rfl)) (by decide) (fun K hK => ?_)
   refine gs _ Try.func48 (torchonref06_Product.calls a0_0 a0_1 a0_2 qx qD qx qD qO _ A5.out) ?_
   rintro e w39 ⟨rfl, hb⟩
   refine ⟨_, rfl, ?_⟩
   replace q2 := bb q2 hb
   replace q3 := bb q3 hb
   replace q6 := bb q6 hb
   replace q8 := bb q8 hb
   replace HB := bst HB hb
   (try clear hb)
   (try clear hb2)
   (try clear hk)
   (try clear hi)
   refine hK.out _ _ ⟨(blk_cell q2.out 0).trans rfl, (blk_cell q2.out 1).trans rfl, (blk_cell q2.out 2).trans rfl, (blk_cell q6.out 0).trans rfl, (blk_cell q6.out 1).trans rfl, (blk_cell q8.out 0).trans rfl, (blk_cell q8.out 1).trans rfl⟩ (fun hHeld => ?_)
   clear hK K
   refine norm_ (a' := ?_) ?_ ?_
   rotate_left
   ·show Act.put _ (some 16) _ = _
    simp only [Act.put, List.setIfInBounds_toArray, List.set_cons_zero, List.set_cons_succ, i64_w, i32_w]
    rfl
   refine pz 6 19 HT_ ?_
   refine pz 7 20 HT_ ?_
   refine pz 12 25 HT_ ?_
   refine tz 8 21 HT_ HW_ hHeld ?_
   refine tz 9 22 HT_ HW_ hHeld ?_
   refine tz 10 23 HT_ HW_ hHeld ?_
   refine tz 13 26 HT_ HW_ hHeld ?_
   refine one_ (i := 11) (N := some 24) #[true, true, true, true, true, true, true, true, true, true, true, true, true, true, false, false, false, false, false, false, false, false, false, false, false, false] rfl rfl (one_of HT_.out (by kernel_rfl)) (by decide) (fun K hK => ?_)
   refine gs _ Try.func48 (torchonref06_Product.calls a0_0 a0_1 a0_2 qx qD qE qF qP _ A7.out) ?_
   rintro e w40 ⟨rfl, hb⟩
   refine ⟨_, rfl, ?_⟩
   replace q2 := bb q2 hb
   replace q3 := bb q3 hb
   replace q6 := bb q6 hb
   replace q8 := bb q8 hb
   replace HB := bst HB hb
   (try clear hb)
   (try clear hb2)
   (try clear hk)
   (try clear hi)
   refine hK.out _ _ ⟨(blk_cell q2.out 0).trans rfl, (blk_cell q2.out 1).trans rfl, (blk_cell q2.out 2).trans rfl, (blk_cell q6.out 0).trans rfl, (blk_cell q6.out 1).trans rfl, (blk_cell q8.out 0).trans rfl, (blk_cell q8.out 1).trans rfl⟩ (fun hHeld => ?_)
   clear hK K
   refine norm_ (a' := ?_) ?_ ?_
   rotate_left
   ·show Act.put _ (some 24) _ = _
    simp only [Act.put, List.setIfInBounds_toArray, List.set_cons_zero, List.set_cons_succ, i64_w, i32_w]
    rfl
   refine pz 14 27 HT_ ?_
   refine pz 15 28 HT_ ?_
   refine pz 16 29 HT_ ?_
   refine pu 17 30 HT_ ?_
   refine pu 18 31 HT_ ?_
   refine pu 19 32 HT_ ?_
   refine pu 20 33 HT_ ?_
   refine pu 21 34 HT_ ?_
   refine pu 22 35 HT_ ?_
   refine pu 23 36 HT_ ?_
   refine pz 24 37 HT_ ?_
   refine pz 25 4 HT_ ?_
   refine done_ (done_of HT_.out (by kernel_rfl)) ?_
   try go_wp2
   go_ret
   exact rt HB
 ·rw [if_neg c6] at H
  have qZ : (qO == a0_0) = false := beq_eq_false_iff_ne.mpr c6
  have j0 : (qO != a0_0) = true := bne_iff_ne.mpr c6
  obtain rfl := Option.some.inj H
  go_enter Try.func61, Try.ntmps61
  try go_wp2_with (first | ((with_reducible refine gate_dst (N := 2) rfl ?_); refine bx 2 #[.int .i64 a0_0, .int .i64 a0_1, .int .i64 a0_2] 23 fun qC hg w41 q2 hb => ?_; have qV := gw hg HB; have qT := gw hg HB; replace HB := bst HB hb; clear hb hg) | ((with_reducible refine gate_dst (N := 3) rfl ?_); refine bx 3 #[.int .i64 a1_0, .int .i64 a1_1, .int .i64 a1_2, .int .i64 a1_3] 25 fun qp hg w42 q3 hb => ?_; have qW := gw hg HB; have qU := gw hg HB; have qX := nlt hg q2; have qY := ngt hg q2; replace q2 := bb q2 hb; replace HB := bst HB hb; clear hb hg))
  replace q2 := bd q2
  replace q3 := bd q3
  replace HB := bdn HB
  refine start_ (n := 10) (S := fun w' => True) (ds := []) #[false, false, false, false, false, false, false, false, false, false] (by kernel_rfl) rfl rfl trivial (fun hHeld => ?_); refine with_tabW torchonref06_keeps.tab1 torchonref06_keeps.bits1 (fun HT_ HW_ => ?_)
  generalize w42.drew = w43 at q2 q3 HB hHeld ⊢
  refine inv_at [0, 1, 2, 3, 4, 5, 6, 7, 8, 9] (fun a0_ b a w' => ∃ (q0 : Nat) (q1 : Nat) (m6_ : Value) (m7_ : Value), a = putSel a0_ b [(0, 7, .agg #[.int .i64 a1_0, .int .i64 a1_1, .int .i64 a1_2, .int .i64 a1_3]), (1, 8, .agg #[.int .i64 1, .int .i64 0]), (2, 9, .agg #[.int .i64 qx, .int .i64 qD]), (3, 10, .agg #[.int .i64 a1_0, .int .i64 a1_1, .int .i64 a1_2, .int .i64 a1_3]), (4, 11, .agg #[.int .i64 0, .int .i64 1]), (5, 12, .agg #[.int .i64 qE, .int .i64 qF]), (6, 5, m6_), (7, 6, m7_)] ∧ (w'.heap[qC]? = some (.cells #[.int .i64 a0_0, .int .i64 a0_1, .int .i64 a0_2] 23 (0, 0))) ∧ (w'.heap[qp]? = some (.cells #[.int .i64 a1_0, .int .i64 a1_1, .int .i64 a1_2, .int .i64 a1_3] 25 (0, 0))) ∧ (Below w.heap.size w w') ∧ (b 6 = true → b 7 = true → q1 ≠ q0) ∧ (b 6 = true → b 7 = true → q0 ≠ q1) ∧ (b 6 = true → b 8 = false → w'.heap[q0]? = some (.cells #[.int .i64 0, .int .i64 0] 37 (0, 0))) ∧ (b 6 = true → w.heap.size ≤ q0) ∧ (b 6 = true → w.heap.size ≤ q0) ∧ (b 6 = true → qC ≠ q0) ∧ (b 6 = true → q0 ≠ qC) ∧ (b 6 = true → qp ≠ q0) ∧ (b 6 = true → q0 ≠ qp) ∧ (b 7 = true → b 9 = false → w'.heap[q1]? = some (.cells #[.int .i64 0, .int .i64 0] 37 (0, 0))) ∧ (b 7 = true → w.heap.size ≤ q1) ∧ (b 7 = true → w.heap.size ≤ q1) ∧ (b 7 = true → qC ≠ q1) ∧ (b 7 = true → q1 ≠ qC) ∧ (b 7 = true → qp ≠ q1) ∧ (b 7 = true → q1 ≠ qp) ∧ (b 8 = true → w'.heap[q0]? = some (.cells #[.int .i64 qx, .int .i64 qD] 37 (0, 0))) ∧ (b 9 = true → w'.heap[q1]? = some (.cells #[.int .i64 qE, .int .i64 qF] 37 (0, 0))) ∧ (b 6 = true → (m6_ : Value) = .pointer (some ⟨q0, 0, none⟩)) ∧ (b 7 = true → (m7_ : Value) = .pointer (some ⟨q1, 0, none⟩))) HT_.out HW_.out (by kernel_rfl) (by kernel_rfl) ?_ ?_ ?_
  ·exact ⟨0, 0, .bool false, .bool false, by simp only [putSel, Bool.false_eq_true, if_false], q2.out, q3.out, HB.out, fun h_ => absurd h_ (by decide), fun h_ => absurd h_ (by decide), fun h_ => absurd h_ (by decide), fun h_ => absurd h_ (by decide), fun h_ => absurd h_ (by decide), fun h_ => absurd h_ (by decide), fun h_ => absurd h_ (by decide), fun h_ => absurd h_ (by decide), fun h_ => absurd h_ (by decide), fun h_ => absurd h_ (by decide), fun h_ => absurd h_ (by decide), fun h_ => absurd h_ (by decide), fun h_ => absurd h_ (by decide), fun h_ => absurd h_ (by decide), fun h_ => absurd h_ (by decide), fun h_ => absurd h_ (by decide), fun h_ => absurd h_ (by decide), fun h_ => absurd h_ (by decide), fun h_ => absurd h_ (by decide), fun h_ => absurd h_ (by decide)⟩
  ·skip
   clear q2 q3 HB
   refine steps_cons ?_ ?_
   ·rintro b a w' ⟨q0, q1, m6_, m7_, ha, q4, q5, Q_HB, qn, qm, q9, qc, qa, qe, qi, qg, qj, q7, qd, qb, qf, qk, qh, ql, qo, qq, Q_X6_, Q_X7_⟩ hb_ hon hoff
    refine ⟨_, rfl, fun K hK => ?_⟩
    have e3 : a.tmps[3]? = some (.pointer (some ⟨qp, 0, none⟩)) := by rw [ha]; exact (putSel_off rfl).trans rfl
    replace ha := Aside0.mk ha
    have q2 := Aside0.mk q4
    have q3 := Aside0.mk q5
    have HB := Aside0.mk Q_HB
    have hc0_ : w'.cell? ⟨qp, 0, none⟩ = some (.int .i64 a1_0) := (blk_cell q3.out 0).trans rfl
    have hc1_ : w'.cell? ⟨qp, 1, none⟩ = some (.int .i64 a1_1) := (blk_cell q3.out 1).trans rfl
    have hc2_ : w'.cell? ⟨qp, 2, none⟩ = some (.int .i64 a1_2) := (blk_cell q3.out 2).trans rfl
    have hc3_ : w'.cell? ⟨qp, 3, none⟩ = some (.int .i64 a1_3) := (blk_cell q3.out 3).trans rfl
    refine value_ (w1 := w') (v := .agg #[.int .i64 a1_0, .int .i64 a1_1, .int .i64 a1_2, .int .i64 a1_3]) (by rfl) rfl ?_ ?_
    ·go_simp
     (try simp only [i64_w])
     try rfl
    refine hK.out _ _ ⟨q0, q1, m6_, m7_, (by rw [ha.out]; exact putSel_upk 0 hb_ rfl rfl rfl), q4, q5, Q_HB, qn, qm, q9, qc, qa, qe, qi, qg, qj, q7, qd, qb, qf, qk, qh, ql, fun h0_ => absurd ((hoff 8 (by kernel_rfl)).symm.trans h0_) (by decide), fun h0_ => absurd ((hoff 9 (by kernel_rfl)).symm.trans h0_) (by decide), Q_X6_, Q_X7_⟩
   refine steps_cons ?_ ?_
   ·rintro b a w' ⟨q0, q1, m6_, m7_, ha, q4, q5, Q_HB, qn, qm, q9, qc, qa, qe, qi, qg, qj, q7, qd, qb, qf, qk, qh, ql, qo, qq, Q_X6_, Q_X7_⟩ hb_ hon hoff
    refine ⟨_, rfl, fun K hK => ?_⟩
    replace ha := Aside0.mk ha
    have q2 := Aside0.mk q4
    have q3 := Aside0.mk q5
    have HB := Aside0.mk Q_HB
    refine value_ (w1 := w') (v := .agg #[.int .i64 1, .int .i64 0]) (by rfl) rfl ?_ ?_
    ·go_simp
     (try simp only [i64_w])
     try rfl
    refine hK.out _ _ ⟨q0, q1, m6_, m7_, (by rw [ha.out]; exact putSel_upk 1 hb_ rfl rfl rfl), q4, q5, Q_HB, qn, qm, q9, qc, qa, qe, qi, qg, qj, q7, qd, qb, qf, qk, qh, ql, fun h0_ => absurd ((hoff 8 (by kernel_rfl)).symm.trans h0_) (by decide), fun h0_ => absurd ((hoff 9 (by kernel_rfl)).symm.trans h0_) (by decide), Q_X6_, Q_X7_⟩
   refine steps_cons ?_ ?_
   ·rintro b a w' ⟨q0, q1, m6_, m7_, ha, q4, q5, Q_HB, qn, qm, q9, qc, qa, qe, qi, qg, qj, q7, qd, qb, qf, qk, qh, ql, qo, qq, Q_X6_, Q_X7_⟩ hb_ hon hoff
    refine ⟨_, rfl, fun K hK => ?_⟩
    have e7 : a.tmps[7]? = some (.agg #[.int .i64 a1_0, .int .i64 a1_1, .int .i64 a1_2, .int .i64 a1_3]) := by rw [ha]; exact putSel_on (e := (0, 7, .agg #[.int .i64 a1_0, .int .i64 a1_1, .int .i64 a1_2, .int .i64 a1_3])) 0 rfl rfl (hon 0 (by kernel_rfl)) rfl
    have e8 : a.tmps[8]? = some (.agg #[.int .i64 1, .int .i64 0]) := by rw [ha]; exact putSel_on (e := (1, 8, .agg #[.int .i64 1, .int .i64 0])) 1 rfl rfl (hon 1 (by kernel_rfl)) rfl
    replace ha := Aside0.mk ha
    have q2 := Aside0.mk q4
    have q3 := Aside0.mk q5
    have HB := Aside0.mk Q_HB
    refine goes_ Try.func69 (by kernel_rfl) rfl #[.agg #[.int .i64 a1_0, .int .i64 a1_1, .int .i64 a1_2, .int .i64 a1_3], .agg #[.int .i64 1, .int .i64 0]] (by rfl) rfl rfl (by first | (simp only [List.map_toArray, List.map_cons, List.map_nil, Act.eval, Array.getD_eq_getD_getElem?, Option.getD_some, e7, e8]; done) | (simp only [List.map_toArray, List.map_cons, List.map_nil, Act.eval, Array.getD_eq_getD_getElem?, Option.getD_some, e7, e8]; rfl)) ?_
    with_reducible refine (torchonref06_image.calls a1_0 a1_1 a1_2 a1_3 1 0 qx qD _ A3.out).mono ?_
    rintro e w44 ⟨rfl, hb⟩
    refine ⟨_, rfl, ?_⟩
    have n0_ := bb q2 hb
    have n1_ := bb q3 hb
    have n2_ := bst HB hb
    have qK := fun (h0_ : b 6 = true) (h1_ : b 8 = false) => (show w44.heap[q0]? = some (.cells #[.int .i64 0, .int .i64 0] 37 (0, 0)) from by first | exact (blk_below (g := q0) (o := .cells #[.int .i64 0, .int .i64 0] 37 (0, 0)) (by (with_reducible repeat (first | refine blk_drewN ?_ _ | refine blk_drew ?_ | refine blk_alloc ?_ _)); exact (q9 h0_ h1_)) hb))
    have qL := fun (h0_ : b 7 = true) (h1_ : b 9 = false) => (show w44.heap[q1]? = some (.cells #[.int .i64 0, .int .i64 0] 37 (0, 0)) from by first | exact (blk_below (g := q1) (o := .cells #[.int .i64 0, .int .i64 0] 37 (0, 0)) (by (with_reducible repeat (first | refine blk_drewN ?_ _ | refine blk_drew ?_ | refine blk_alloc ?_ _)); exact (q7 h0_ h1_)) hb))
    clear q2
    clear q3
    clear HB
    have q2 := n0_
    have q3 := n1_
    have HB := n2_
    clear n0_ n1_ n2_
    (try clear hb)
    (try clear hb2)
    (try clear hk)
    (try clear hi)
    refine hK.out _ _ ⟨q0, q1, m6_, m7_, (by rw [ha.out]; exact putSel_upk 2 hb_ rfl rfl rfl), (pk q2), (pk q3), (bnow HB), qn, qm, qK, qc, qa, qe, qi, qg, qj, qL, qd, qb, qf, qk, qh, ql, fun h0_ => absurd ((hoff 8 (by kernel_rfl)).symm.trans h0_) (by decide), fun h0_ => absurd ((hoff 9 (by kernel_rfl)).symm.trans h0_) (by decide), Q_X6_, Q_X7_⟩
   refine steps_cons ?_ ?_
   ·rintro b a w' ⟨q0, q1, m6_, m7_, ha, q4, q5, Q_HB, qn, qm, q9, qc, qa, qe, qi, qg, qj, q7, qd, qb, qf, qk, qh, ql, qo, qq, Q_X6_, Q_X7_⟩ hb_ hon hoff
    refine ⟨_, rfl, fun K hK => ?_⟩
    have e3 : a.tmps[3]? = some (.pointer (some ⟨qp, 0, none⟩)) := by rw [ha]; exact (putSel_off rfl).trans rfl
    replace ha := Aside0.mk ha
    have q2 := Aside0.mk q4
    have q3 := Aside0.mk q5
    have HB := Aside0.mk Q_HB
    have hc0_ : w'.cell? ⟨qp, 0, none⟩ = some (.int .i64 a1_0) := (blk_cell q3.out 0).trans rfl
    have hc1_ : w'.cell? ⟨qp, 1, none⟩ = some (.int .i64 a1_1) := (blk_cell q3.out 1).trans rfl
    have hc2_ : w'.cell? ⟨qp, 2, none⟩ = some (.int .i64 a1_2) := (blk_cell q3.out 2).trans rfl
    have hc3_ : w'.cell? ⟨qp, 3, none⟩ = some (.int .i64 a1_3) := (blk_cell q3.out 3).trans rfl
    refine value_ (w1 := w') (v := .agg #[.int .i64 a1_0, .int .i64 a1_1, .int .i64 a1_2, .int .i64 a1_3]) (by rfl) rfl ?_ ?_
    ·go_simp
     (try simp only [i64_w])
     try rfl
    refine hK.out _ _ ⟨q0, q1, m6_, m7_, (by rw [ha.out]; exact putSel_upk 3 hb_ rfl rfl rfl), q4, q5, Q_HB, qn, qm, q9, qc, qa, qe, qi, qg, qj, q7, qd, qb, qf, qk, qh, ql, fun h0_ => absurd ((hoff 8 (by kernel_rfl)).symm.trans h0_) (by decide), fun h0_ => absurd ((hoff 9 (by kernel_rfl)).symm.trans h0_) (by decide), Q_X6_, Q_X7_⟩
   refine steps_cons ?_ ?_
   ·rintro b a w' ⟨q0, q1, m6_, m7_, ha, q4, q5, Q_HB, qn, qm, q9, qc, qa, qe, qi, qg, qj, q7, qd, qb, qf, qk, qh, ql, qo, qq, Q_X6_, Q_X7_⟩ hb_ hon hoff
    refine ⟨_, rfl, fun K hK => ?_⟩
    replace ha := Aside0.mk ha
    have q2 := Aside0.mk q4
    have q3 := Aside0.mk q5
    have HB := Aside0.mk Q_HB
    refine value_ (w1 := w') (v := .agg #[.int .i64 0, .int .i64 1]) (by rfl) rfl ?_ ?_
    ·go_simp
     (try simp only [i64_w])
     try rfl
    refine hK.out _ _ ⟨q0, q1, m6_, m7_, (by rw [ha.out]; exact putSel_upk 4 hb_ rfl rfl rfl), q4, q5, Q_HB, qn, qm, q9, qc, qa, qe, qi, qg, qj, q7, qd, qb, qf, qk, qh, ql, fun h0_ => absurd ((hoff 8 (by kernel_rfl)).symm.trans h0_) (by decide), fun h0_ => absurd ((hoff 9 (by kernel_rfl)).symm.trans h0_) (by decide), Q_X6_, Q_X7_⟩
   refine steps_cons ?_ ?_
   ·rintro b a w' ⟨q0, q1, m6_, m7_, ha, q4, q5, Q_HB, qn, qm, q9, qc, qa, qe, qi, qg, qj, q7, qd, qb, qf, qk, qh, ql, qo, qq, Q_X6_, Q_X7_⟩ hb_ hon hoff
    refine ⟨_, rfl, fun K hK => ?_⟩
    have e10 : a.tmps[10]? = some (.agg #[.int .i64 a1_0, .int .i64 a1_1, .int .i64 a1_2, .int .i64 a1_3]) := by rw [ha]; exact putSel_on (e := (3, 10, .agg #[.int .i64 a1_0, .int .i64 a1_1, .int .i64 a1_2, .int .i64 a1_3])) 3 rfl rfl (hon 3 (by kernel_rfl)) rfl
    have e11 : a.tmps[11]? = some (.agg #[.int .i64 0, .int .i64 1]) := by rw [ha]; exact putSel_on (e := (4, 11, .agg #[.int .i64 0, .int .i64 1])) 4 rfl rfl (hon 4 (by kernel_rfl)) rfl
    replace ha := Aside0.mk ha
    have q2 := Aside0.mk q4
    have q3 := Aside0.mk q5
    have HB := Aside0.mk Q_HB
    refine goes_ Try.func69 (by kernel_rfl) rfl #[.agg #[.int .i64 a1_0, .int .i64 a1_1, .int .i64 a1_2, .int .i64 a1_3], .agg #[.int .i64 0, .int .i64 1]] (by rfl) rfl rfl (by first | (simp only [List.map_toArray, List.map_cons, List.map_nil, Act.eval, Array.getD_eq_getD_getElem?, Option.getD_some, e10, e11]; done) | (simp only [List.map_toArray, List.map_cons, List.map_nil, Act.eval, Array.getD_eq_getD_getElem?, Option.getD_some, e10, e11]; rfl)) ?_
    with_reducible refine (torchonref06_image.calls a1_0 a1_1 a1_2 a1_3 0 1 qE qF _ A4.out).mono ?_
    rintro e w46 ⟨rfl, hb⟩
    refine ⟨_, rfl, ?_⟩
    have n0_ := bb q2 hb
    have n1_ := bb q3 hb
    have n2_ := bst HB hb
    have qK := fun (h0_ : b 6 = true) (h1_ : b 8 = false) => (show w46.heap[q0]? = some (.cells #[.int .i64 0, .int .i64 0] 37 (0, 0)) from by first | exact (blk_below (g := q0) (o := .cells #[.int .i64 0, .int .i64 0] 37 (0, 0)) (by (with_reducible repeat (first | refine blk_drewN ?_ _ | refine blk_drew ?_ | refine blk_alloc ?_ _)); exact (q9 h0_ h1_)) hb))
    have qL := fun (h0_ : b 7 = true) (h1_ : b 9 = false) => (show w46.heap[q1]? = some (.cells #[.int .i64 0, .int .i64 0] 37 (0, 0)) from by first | exact (blk_below (g := q1) (o := .cells #[.int .i64 0, .int .i64 0] 37 (0, 0)) (by (with_reducible repeat (first | refine blk_drewN ?_ _ | refine blk_drew ?_ | refine blk_alloc ?_ _)); exact (q7 h0_ h1_)) hb))
    clear q2
    clear q3
    clear HB
    have q2 := n0_
    have q3 := n1_
    have HB := n2_
    clear n0_ n1_ n2_
    (try clear hb)
    (try clear hb2)
    (try clear hk)
    (try clear hi)
    refine hK.out _ _ ⟨q0, q1, m6_, m7_, (by rw [ha.out]; exact putSel_upk 5 hb_ rfl rfl rfl), (pk q2), (pk q3), (bnow HB), qn, qm, qK, qc, qa, qe, qi, qg, qj, qL, qd, qb, qf, qk, qh, ql, fun h0_ => absurd ((hoff 8 (by kernel_rfl)).symm.trans h0_) (by decide), fun h0_ => absurd ((hoff 9 (by kernel_rfl)).symm.trans h0_) (by decide), Q_X6_, Q_X7_⟩
   refine steps_cons ?_ ?_
   ·rintro b a w' ⟨q0, q1, m6_, m7_, ha, q4, q5, Q_HB, qn, qm, q9, qc, qa, qe, qi, qg, qj, q7, qd, qb, qf, qk, qh, ql, qo, qq, Q_X6_, Q_X7_⟩ hb_ hon hoff
    refine ⟨_, rfl, fun K hK => ?_⟩
    replace ha := Aside0.mk ha
    have q2 := Aside0.mk q4
    have q3 := Aside0.mk q5
    have HB := Aside0.mk Q_HB
    refine box_step ?hg (N := 5) ?hd (cs := #[.int .i64 0, .int .i64 0]) (t := 37) ?hr ?_; (case hd => rfl); (case hg => rfl); (case hr => first | (go_simp; done) | (go_simp; rfl))
    intro q0 hg w44 hbox hb
    have n0_ := bb q2 hb
    have n1_ := bb q3 hb
    have n2_ := bst HB hb
    have n3_ := Aside0.mk (hbox)
    have n4_ := gw hg HB
    have n5_ := gw hg HB
    have n6_ := nlt hg q2
    have n7_ := ngt hg q2
    have n8_ := nlt hg q3
    have n9_ := ngt hg q3
    have qR := fun (h0_ : up b 6 6 = true) (h1_ : up b 6 7 = true) => (show q1 ≠ q0 from (by cases hb_ : b 9 with | false => exact ((by rw [hg]; exact Nat.ne_of_lt (blk_lt (g := q1) (o := .cells #[.int .i64 0, .int .i64 0] 37 (0, 0)) (by (with_reducible repeat (first | refine blk_drewN ?_ _ | refine blk_drew ?_ | refine blk_alloc ?_ _)); exact (q7 h1_ hb_))) : q1 ≠ q0)) | true => exact ((by rw [hg]; exact Nat.ne_of_lt (blk_lt (g := q1) (by (with_reducible repeat (first | refine blk_drewN ?_ _ | refine blk_drew ?_ | refine blk_alloc ?_ _)); exact (qq hb_))) : q1 ≠ q0))))
    have qQ := fun (h0_ : up b 6 6 = true) (h1_ : up b 6 7 = true) => (show q0 ≠ q1 from (by cases hb_ : b 9 with | false => exact ((by rw [hg]; exact Nat.ne_of_gt (blk_lt (g := q1) (o := .cells #[.int .i64 0, .int .i64 0] 37 (0, 0)) (by (with_reducible repeat (first | refine blk_drewN ?_ _ | refine blk_drew ?_ | refine blk_alloc ?_ _)); exact (q7 h1_ hb_))) : q0 ≠ q1)) | true => exact ((by rw [hg]; exact Nat.ne_of_gt (blk_lt (g := q1) (by (with_reducible repeat (first | refine blk_drewN ?_ _ | refine blk_drew ?_ | refine blk_alloc ?_ _)); exact (qq hb_))) : q0 ≠ q1))))
    have qL := fun (h0_ : b 7 = true) (h1_ : b 9 = false) => (show w44.heap[q1]? = some (.cells #[.int .i64 0, .int .i64 0] 37 (0, 0)) from by first | exact (blk_below (g := q1) (o := .cells #[.int .i64 0, .int .i64 0] 37 (0, 0)) (by (with_reducible repeat (first | refine blk_drewN ?_ _ | refine blk_drew ?_ | refine blk_alloc ?_ _)); exact (q7 h0_ h1_)) hb))
    clear q2
    clear q3
    clear HB
    have q2 := n0_
    have q3 := n1_
    have HB := n2_
    have q6 := n3_
    have qI := n4_
    have qG := n5_
    have qr := n6_
    have qy := n7_
    have qt := n8_
    have qz := n9_
    clear n0_ n1_ n2_ n3_ n4_ n5_ n6_ n7_ n8_ n9_
    clear hb hg
    refine hK.out _ _ ⟨q0, q1, (.pointer (some ⟨q0, 0, none⟩)), m7_, (by rw [ha.out]; exact putSel_upk 6 hb_ rfl rfl rfl), (pk q2), (pk q3), (bnow HB), qR, qQ, fun _ _ => (pk q6), fun _ => qI.out, fun _ => qG.out, fun _ => qr.out, fun _ => qy.out, fun _ => qt.out, fun _ => qz.out, qL, qd, qb, qf, qk, qh, ql, fun h0_ => absurd ((hoff 8 (by kernel_rfl)).symm.trans h0_) (by decide), fun h0_ => absurd ((hoff 9 (by kernel_rfl)).symm.trans h0_) (by decide), fun _ => rfl, Q_X7_⟩
   refine steps_cons ?_ ?_
   ·rintro b a w' ⟨q0, q1, m6_, m7_, ha, q4, q5, Q_HB, qn, qm, q9, qc, qa, qe, qi, qg, qj, q7, qd, qb, qf, qk, qh, ql, qo, qq, Q_X6_, Q_X7_⟩ hb_ hon hoff
    refine ⟨_, rfl, fun K hK => ?_⟩
    replace ha := Aside0.mk ha
    have q2 := Aside0.mk q4
    have q3 := Aside0.mk q5
    have HB := Aside0.mk Q_HB
    refine box_step ?hg (N := 6) ?hd (cs := #[.int .i64 0, .int .i64 0]) (t := 37) ?hr ?_; (case hd => rfl); (case hg => rfl); (case hr => first | (go_simp; done) | (go_simp; rfl))
    intro q1 hg w44 hbox hb
    have n0_ := bb q2 hb
    have n1_ := bb q3 hb
    have n2_ := bst HB hb
    have n3_ := Aside0.mk (hbox)
    have n4_ := gw hg HB
    have n5_ := gw hg HB
    have n6_ := nlt hg q2
    have n7_ := ngt hg q2
    have n8_ := nlt hg q3
    have n9_ := ngt hg q3
    have qR := fun (h0_ : up b 7 6 = true) (h1_ : up b 7 7 = true) => (show q1 ≠ q0 from (by cases hb_ : b 8 with | false => exact ((by rw [hg]; exact Nat.ne_of_gt (blk_lt (g := q0) (o := .cells #[.int .i64 0, .int .i64 0] 37 (0, 0)) (by (with_reducible repeat (first | refine blk_drewN ?_ _ | refine blk_drew ?_ | refine blk_alloc ?_ _)); exact (q9 h0_ hb_))) : q1 ≠ q0)) | true => exact ((by rw [hg]; exact Nat.ne_of_gt (blk_lt (g := q0) (by (with_reducible repeat (first | refine blk_drewN ?_ _ | refine blk_drew ?_ | refine blk_alloc ?_ _)); exact (qo hb_))) : q1 ≠ q0))))
    have qQ := fun (h0_ : up b 7 6 = true) (h1_ : up b 7 7 = true) => (show q0 ≠ q1 from (by cases hb_ : b 8 with | false => exact ((by rw [hg]; exact Nat.ne_of_lt (blk_lt (g := q0) (o := .cells #[.int .i64 0, .int .i64 0] 37 (0, 0)) (by (with_reducible repeat (first | refine blk_drewN ?_ _ | refine blk_drew ?_ | refine blk_alloc ?_ _)); exact (q9 h0_ hb_))) : q0 ≠ q1)) | true => exact ((by rw [hg]; exact Nat.ne_of_lt (blk_lt (g := q0) (by (with_reducible repeat (first | refine blk_drewN ?_ _ | refine blk_drew ?_ | refine blk_alloc ?_ _)); exact (qo hb_))) : q0 ≠ q1))))
    have qK := fun (h0_ : b 6 = true) (h1_ : b 8 = false) => (show w44.heap[q0]? = some (.cells #[.int .i64 0, .int .i64 0] 37 (0, 0)) from by first | exact (blk_below (g := q0) (o := .cells #[.int .i64 0, .int .i64 0] 37 (0, 0)) (by (with_reducible repeat (first | refine blk_drewN ?_ _ | refine blk_drew ?_ | refine blk_alloc ?_ _)); exact (q9 h0_ h1_)) hb))
    clear q2
    clear q3
    clear HB
    have q2 := n0_
    have q3 := n1_
    have HB := n2_
    have q8 := n3_
    have qJ := n4_
    have qH := n5_
    have qs := n6_
    have qA := n7_
    have qu := n8_
    have qB := n9_
    clear n0_ n1_ n2_ n3_ n4_ n5_ n6_ n7_ n8_ n9_
    clear hb hg
    refine hK.out _ _ ⟨q0, q1, m6_, (.pointer (some ⟨q1, 0, none⟩)), (by rw [ha.out]; exact putSel_upk 7 hb_ rfl rfl rfl), (pk q2), (pk q3), (bnow HB), qR, qQ, qK, qc, qa, qe, qi, qg, qj, fun _ _ => (pk q8), fun _ => qJ.out, fun _ => qH.out, fun _ => qs.out, fun _ => qA.out, fun _ => qu.out, fun _ => qB.out, fun h0_ => absurd ((hoff 8 (by kernel_rfl)).symm.trans h0_) (by decide), fun h0_ => absurd ((hoff 9 (by kernel_rfl)).symm.trans h0_) (by decide), Q_X6_, fun _ => rfl⟩
   refine steps_cons ?_ ?_
   ·rintro b a w' ⟨q0, q1, m6_, m7_, ha, q4, q5, Q_HB, qn, qm, q9, qc, qa, qe, qi, qg, qj, q7, qd, qb, qf, qk, qh, ql, qo, qq, Q_X6_, Q_X7_⟩ hb_ hon hoff
    refine ⟨_, rfl, fun K hK => ?_⟩
    have e5 : a.tmps[5]? = some (m6_) := by rw [ha]; exact putSel_on (e := (6, 5, m6_)) 6 rfl rfl (hon 6 (by kernel_rfl)) rfl
    rw [Q_X6_ (hon 6 (by kernel_rfl))] at e5
    have e9 : a.tmps[9]? = some (.agg #[.int .i64 qx, .int .i64 qD]) := by rw [ha]; exact putSel_on (e := (2, 9, .agg #[.int .i64 qx, .int .i64 qD])) 2 rfl rfl (hon 2 (by kernel_rfl)) rfl
    replace ha := Aside0.mk ha
    have q2 := Aside0.mk q4
    have q3 := Aside0.mk q5
    have HB := Aside0.mk Q_HB
    have qw := Aside0.mk (qn (hon 6 (by kernel_rfl)) (hon 7 (by kernel_rfl)))
    have qv := Aside0.mk (qm (hon 6 (by kernel_rfl)) (hon 7 (by kernel_rfl)))
    have q6 := Aside0.mk (q9 (hon 6 (by kernel_rfl)) hb_)
    have qI := Aside0.mk (qc (hon 6 (by kernel_rfl)))
    have qG := Aside0.mk (qa (hon 6 (by kernel_rfl)))
    have qr := Aside0.mk (qe (hon 6 (by kernel_rfl)))
    have qy := Aside0.mk (qi (hon 6 (by kernel_rfl)))
    have qt := Aside0.mk (qg (hon 6 (by kernel_rfl)))
    have qz := Aside0.mk (qj (hon 6 (by kernel_rfl)))
    have q8 := Aside0.mk (q7 (hon 7 (by kernel_rfl)) (hoff 9 (by kernel_rfl)))
    have qJ := Aside0.mk (qd (hon 7 (by kernel_rfl)))
    have qH := Aside0.mk (qb (hon 7 (by kernel_rfl)))
    have qs := Aside0.mk (qf (hon 7 (by kernel_rfl)))
    have qA := Aside0.mk (qk (hon 7 (by kernel_rfl)))
    have qu := Aside0.mk (qh (hon 7 (by kernel_rfl)))
    have qB := Aside0.mk (ql (hon 7 (by kernel_rfl)))
    have gz : w'.cell? ⟨q0, 0, none⟩ = some (.int .i64 0) := (blk_cell q6.out 0).trans rfl
    have jb := blk_frozen q6.out 0
    have gd := qr.out
    have ge := qt.out
    have gf := qw.out
    have jD := qy.out
    have jE := qz.out
    have jF := qv.out
    have gA : w'.cell? ⟨q0, 1, none⟩ = some (.int .i64 0) := (blk_cell q6.out 1).trans rfl
    have jc := blk_frozen q6.out 1
    have gg := qr.out
    have gh := qt.out
    have gi := qw.out
    have jG := qy.out
    have jH := qz.out
    have jI := qv.out
    refine skip_ (w1 := ?_) (by rfl) rfl ?_ ?_
    rotate_left
    ·go_simp
     rfl
    refine hK.out _ _ ⟨q0, q1, m6_, m7_, (by rw [ha.out]; exact putSel_none (v := undef) rfl), (by (with_reducible repeat (first | refine blk_drewN ?_ _ | refine blk_drew ?_ | refine blk_alloc ?_ _)); refine blk_far ?_ qr.out _; (with_reducible repeat (first | refine blk_drewN ?_ _ | refine blk_drew ?_ | refine blk_alloc ?_ _)); refine blk_far ?_ qr.out _; (with_reducible repeat (first | refine blk_drewN ?_ _ | refine blk_drew ?_ | refine blk_alloc ?_ _)); exact q2.out), (by (with_reducible repeat (first | refine blk_drewN ?_ _ | refine blk_drew ?_ | refine blk_alloc ?_ _)); refine blk_far ?_ qt.out _; (with_reducible repeat (first | refine blk_drewN ?_ _ | refine blk_drew ?_ | refine blk_alloc ?_ _)); refine blk_far ?_ qt.out _; (with_reducible repeat (first | refine blk_drewN ?_ _ | refine blk_drew ?_ | refine blk_alloc ?_ _)); exact q3.out), (bnow HB), fun _ _ => qw.out, fun _ _ => qv.out, fun _ h1_ => absurd ((up_self b 8).symm.trans h1_) (by decide), fun _ => qI.out, fun _ => qG.out, fun _ => qr.out, fun _ => qy.out, fun _ => qt.out, fun _ => qz.out, fun _ _ => (by (with_reducible repeat (first | refine blk_drewN ?_ _ | refine blk_drew ?_ | refine blk_alloc ?_ _)); refine blk_far ?_ qw.out _; (with_reducible repeat (first | refine blk_drewN ?_ _ | refine blk_drew ?_ | refine blk_alloc ?_ _)); refine blk_far ?_ qw.out _; (with_reducible repeat (first | refine blk_drewN ?_ _ | refine blk_drew ?_ | refine blk_alloc ?_ _)); exact q8.out), fun _ => qJ.out, fun _ => qH.out, fun _ => qs.out, fun _ => qA.out, fun _ => qu.out, fun _ => qB.out, fun _ => (by (with_reducible repeat (first | refine blk_drewN ?_ _ | refine blk_drew ?_ | refine blk_alloc ?_ _)); refine blk_put (cs := #[.int .i64 qx, .int .i64 0]) ?_ 1 _ rfl; (with_reducible repeat (first | refine blk_drewN ?_ _ | refine blk_drew ?_ | refine blk_alloc ?_ _)); refine blk_put (cs := #[.int .i64 0, .int .i64 0]) ?_ 0 _ rfl; (with_reducible repeat (first | refine blk_drewN ?_ _ | refine blk_drew ?_ | refine blk_alloc ?_ _)); exact q6.out), fun h0_ => absurd ((hoff 9 (by kernel_rfl)).symm.trans h0_) (by decide), Q_X6_, Q_X7_⟩
   refine steps_cons ?_ ?_
   ·rintro b a w' ⟨q0, q1, m6_, m7_, ha, q4, q5, Q_HB, qn, qm, q9, qc, qa, qe, qi, qg, qj, q7, qd, qb, qf, qk, qh, ql, qo, qq, Q_X6_, Q_X7_⟩ hb_ hon hoff
    refine ⟨_, rfl, fun K hK => ?_⟩
    have e6 : a.tmps[6]? = some (m7_) := by rw [ha]; exact putSel_on (e := (7, 6, m7_)) 7 rfl rfl (hon 7 (by kernel_rfl)) rfl
    rw [Q_X7_ (hon 7 (by kernel_rfl))] at e6
    have e12 : a.tmps[12]? = some (.agg #[.int .i64 qE, .int .i64 qF]) := by rw [ha]; exact putSel_on (e := (5, 12, .agg #[.int .i64 qE, .int .i64 qF])) 5 rfl rfl (hon 5 (by kernel_rfl)) rfl
    replace ha := Aside0.mk ha
    have q2 := Aside0.mk q4
    have q3 := Aside0.mk q5
    have HB := Aside0.mk Q_HB
    have qw := Aside0.mk (qn (hon 6 (by kernel_rfl)) (hon 7 (by kernel_rfl)))
    have qv := Aside0.mk (qm (hon 6 (by kernel_rfl)) (hon 7 (by kernel_rfl)))
    have qI := Aside0.mk (qc (hon 6 (by kernel_rfl)))
    have qG := Aside0.mk (qa (hon 6 (by kernel_rfl)))
    have qr := Aside0.mk (qe (hon 6 (by kernel_rfl)))
    have qy := Aside0.mk (qi (hon 6 (by kernel_rfl)))
    have qt := Aside0.mk (qg (hon 6 (by kernel_rfl)))
    have qz := Aside0.mk (qj (hon 6 (by kernel_rfl)))
    have q8 := Aside0.mk (q7 (hon 7 (by kernel_rfl)) hb_)
    have qJ := Aside0.mk (qd (hon 7 (by kernel_rfl)))
    have qH := Aside0.mk (qb (hon 7 (by kernel_rfl)))
    have qs := Aside0.mk (qf (hon 7 (by kernel_rfl)))
    have qA := Aside0.mk (qk (hon 7 (by kernel_rfl)))
    have qu := Aside0.mk (qh (hon 7 (by kernel_rfl)))
    have qB := Aside0.mk (ql (hon 7 (by kernel_rfl)))
    have q6 := Aside0.mk (qo (hon 8 (by kernel_rfl)))
    have gB : w'.cell? ⟨q1, 0, none⟩ = some (.int .i64 0) := (blk_cell q8.out 0).trans rfl
    have jd := blk_frozen q8.out 0
    have gj := qs.out
    have gk := qu.out
    have gl := qv.out
    have jJ := qA.out
    have jK := qB.out
    have jL := qw.out
    have gC : w'.cell? ⟨q1, 1, none⟩ = some (.int .i64 0) := (blk_cell q8.out 1).trans rfl
    have je := blk_frozen q8.out 1
    have gm := qs.out
    have gn := qu.out
    have go := qv.out
    have jM := qA.out
    have jN := qB.out
    have jO := qw.out
    refine skip_ (w1 := ?_) (by rfl) rfl ?_ ?_
    rotate_left
    ·go_simp
     rfl
    refine hK.out _ _ ⟨q0, q1, m6_, m7_, (by rw [ha.out]; exact putSel_none (v := undef) rfl), (by (with_reducible repeat (first | refine blk_drewN ?_ _ | refine blk_drew ?_ | refine blk_alloc ?_ _)); refine blk_far ?_ qs.out _; (with_reducible repeat (first | refine blk_drewN ?_ _ | refine blk_drew ?_ | refine blk_alloc ?_ _)); refine blk_far ?_ qs.out _; (with_reducible repeat (first | refine blk_drewN ?_ _ | refine blk_drew ?_ | refine blk_alloc ?_ _)); exact q2.out), (by (with_reducible repeat (first | refine blk_drewN ?_ _ | refine blk_drew ?_ | refine blk_alloc ?_ _)); refine blk_far ?_ qu.out _; (with_reducible repeat (first | refine blk_drewN ?_ _ | refine blk_drew ?_ | refine blk_alloc ?_ _)); refine blk_far ?_ qu.out _; (with_reducible repeat (first | refine blk_drewN ?_ _ | refine blk_drew ?_ | refine blk_alloc ?_ _)); exact q3.out), (bnow HB), fun _ _ => qw.out, fun _ _ => qv.out, fun _ h1_ => absurd ((hon 8 (by kernel_rfl)).symm.trans h1_) (by decide), fun _ => qI.out, fun _ => qG.out, fun _ => qr.out, fun _ => qy.out, fun _ => qt.out, fun _ => qz.out, fun _ h1_ => absurd ((up_self b 9).symm.trans h1_) (by decide), fun _ => qJ.out, fun _ => qH.out, fun _ => qs.out, fun _ => qA.out, fun _ => qu.out, fun _ => qB.out, fun _ => (by (with_reducible repeat (first | refine blk_drewN ?_ _ | refine blk_drew ?_ | refine blk_alloc ?_ _)); refine blk_far ?_ qv.out _; (with_reducible repeat (first | refine blk_drewN ?_ _ | refine blk_drew ?_ | refine blk_alloc ?_ _)); refine blk_far ?_ qv.out _; (with_reducible repeat (first | refine blk_drewN ?_ _ | refine blk_drew ?_ | refine blk_alloc ?_ _)); exact q6.out), fun _ => (by (with_reducible repeat (first | refine blk_drewN ?_ _ | refine blk_drew ?_ | refine blk_alloc ?_ _)); refine blk_put (cs := #[.int .i64 qE, .int .i64 0]) ?_ 1 _ rfl; (with_reducible repeat (first | refine blk_drewN ?_ _ | refine blk_drew ?_ | refine blk_alloc ?_ _)); refine blk_put (cs := #[.int .i64 0, .int .i64 0]) ?_ 0 _ rfl; (with_reducible repeat (first | refine blk_drewN ?_ _ | refine blk_drew ?_ | refine blk_alloc ?_ _)); exact q8.out), Q_X6_, Q_X7_⟩
   exact steps_nil
  rintro b a w52 hall ⟨q0, q1, m6_, m7_, ha, q4, q5, Q_HB, qn, qm, q9, qc, qa, qe, qi, qg, qj, q7, qd, qb, qf, qk, qh, ql, qo, qq, Q_X6_, Q_X7_⟩
  clear q2 q3 HB
  have hb0_ := hall 0 (by kernel_rfl)
  have hb1_ := hall 1 (by kernel_rfl)
  have hb2_ := hall 2 (by kernel_rfl)
  have hb3_ := hall 3 (by kernel_rfl)
  have hb4_ := hall 4 (by kernel_rfl)
  have hb5_ := hall 5 (by kernel_rfl)
  have hb6_ := hall 6 (by kernel_rfl)
  have hb7_ := hall 7 (by kernel_rfl)
  have hb8_ := hall 8 (by kernel_rfl)
  have hb9_ := hall 9 (by kernel_rfl)
  subst ha
  obtain rfl := Q_X6_ hb6_
  obtain rfl := Q_X7_ hb7_
  simp only [putSel, hb0_, hb1_, hb2_, hb3_, hb4_, hb5_, hb6_, hb7_, hb8_, hb9_, if_true, Act.put, List.setIfInBounds_toArray, List.set_cons_zero, List.set_cons_succ]
  have q2 := Aside0.mk q4
  clear q4
  have q3 := Aside0.mk q5
  clear q5
  have HB := Aside0.mk Q_HB
  clear Q_HB
  have qw := Aside0.mk (qn hb6_ hb7_)
  clear qn
  have qv := Aside0.mk (qm hb6_ hb7_)
  clear qm
  clear q9
  have qI := Aside0.mk (qc hb6_)
  clear qc
  have qG := Aside0.mk (qa hb6_)
  clear qa
  have qr := Aside0.mk (qe hb6_)
  clear qe
  have qy := Aside0.mk (qi hb6_)
  clear qi
  have qt := Aside0.mk (qg hb6_)
  clear qg
  have qz := Aside0.mk (qj hb6_)
  clear qj
  clear q7
  have qJ := Aside0.mk (qd hb7_)
  clear qd
  have qH := Aside0.mk (qb hb7_)
  clear qb
  have qs := Aside0.mk (qf hb7_)
  clear qf
  have qA := Aside0.mk (qk hb7_)
  clear qk
  have qu := Aside0.mk (qh hb7_)
  clear qh
  have qB := Aside0.mk (ql hb7_)
  clear ql
  have q6 := Aside0.mk (qo hb8_)
  clear qo
  have q8 := Aside0.mk (qq hb9_)
  clear qq
  clear hall hb0_ hb1_ hb2_ hb3_ hb4_ hb5_ hb6_ hb7_ hb8_ hb9_
  try go_wp2
  replace q2 := bd q2
  replace q3 := bd q3
  replace q6 := bd q6
  replace q8 := bd q8
  replace HB := bdn HB
  refine start_ (n := 26) (S := fun w' => w'.cell? ⟨qC, 0, none⟩ = some (.int .i64 a0_0) ∧ w'.cell? ⟨qC, 1, none⟩ = some (.int .i64 a0_1) ∧ w'.cell? ⟨qC, 2, none⟩ = some (.int .i64 a0_2) ∧ w'.cell? ⟨q0, 0, none⟩ = some (.int .i64 qx) ∧ w'.cell? ⟨q0, 1, none⟩ = some (.int .i64 qD)) (ds := []) #[false, false, false, false, false, false, false, false, false, false, false, false, false, false, false, false, false, false, false, false, false, false, false, false, false, false] (by kernel_rfl) rfl rfl ⟨(blk_cell q2.out 0).trans rfl, (blk_cell q2.out 1).trans rfl, (blk_cell q2.out 2).trans rfl, (blk_cell q6.out 0).trans rfl, (blk_cell q6.out 1).trans rfl⟩ (fun hHeld => ?_); refine with_tabW torchonref06_keeps.tab2 torchonref06_keeps.bits2 (fun HT_ HW_ => ?_)
  generalize w52.drew = w53 at q2 q3 q6 q8 HB hHeld ⊢
  refine pz 4 17 HT_ ?_
  refine tz 0 13 HT_ HW_ hHeld ?_
  refine tz 1 14 HT_ HW_ hHeld ?_
  refine tz 2 15 HT_ HW_ hHeld ?_
  refine tz 5 18 HT_ HW_ hHeld ?_
  refine one_ (i := 3) (N := some 16) #[true, true, true, true, true, true, false, false, false, false, false, false, false, false, false, false, false, false, false, false, false, false, false, false, false, false] rfl rfl (one_of HT_.out (by kernel_rfl)) (by decide) (fun K hK => ?_)
  refine gs _ Try.func48 (torchonref06_Product.calls a0_0 a0_1 a0_2 qx qD qx qD qO _ A5.out) ?_
  rintro e w54 ⟨rfl, hb⟩
  refine ⟨_, rfl, ?_⟩
  replace q2 := bb q2 hb
  replace q3 := bb q3 hb
  replace q6 := bb q6 hb
  replace q8 := bb q8 hb
  replace HB := bst HB hb
  (try clear hb)
  (try clear hb2)
  (try clear hk)
  (try clear hi)
  refine hK.out _ _ ⟨(blk_cell q2.out 0).trans rfl, (blk_cell q2.out 1).trans rfl, (blk_cell q2.out 2).trans rfl, (blk_cell q6.out 0).trans rfl, (blk_cell q6.out 1).trans rfl⟩ (fun hHeld => ?_)
  clear hK K
  refine norm_ (a' := ?_) ?_ ?_
  rotate_left
  ·show Act.put _ (some 16) _ = _
   simp only [Act.put, List.setIfInBounds_toArray, List.set_cons_zero, List.set_cons_succ, i64_w, i32_w]
   rfl
  refine pz 6 19 HT_ ?_
  refine pz 7 20 HT_ ?_
  refine pu 8 21 HT_ ?_
  refine pu 9 22 HT_ ?_
  refine pu 10 23 HT_ ?_
  refine pu 11 24 HT_ ?_
  refine pu 12 25 HT_ ?_
  refine pu 13 26 HT_ ?_
  refine pu 14 27 HT_ ?_
  refine pz 15 28 HT_ ?_
  refine pz 16 29 HT_ ?_
  refine pu 17 30 HT_ ?_
  refine pu 18 31 HT_ ?_
  refine pu 19 32 HT_ ?_
  refine pu 20 33 HT_ ?_
  refine pu 21 34 HT_ ?_
  refine pu 22 35 HT_ ?_
  refine pu 23 36 HT_ ?_
  refine pz 24 37 HT_ ?_
  refine pz 25 4 HT_ ?_
  refine done_ (done_of HT_.out (by kernel_rfl)) ?_
  try go_wp2
  go_ret
  exact rt HB
end
end Go.Proofs.Ytmcajdepoohlhaa.G
