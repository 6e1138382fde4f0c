/- Functions of the program as plain Lean functions, and their contracts (printed by a program of this session). No condition beyond what each states. -/
import Derived.Test.YtmcajdepoohlhaaCBackY
import Derived.Test.YtmcajdepoohlhaaCBackP0
import Derived.Test.YtmcajdepoohlhaaCBackP1
namespace Go.Proofs.Ytmcajdepoohlhaa.G
open Go.RowKit Go.Proofs.YtmcajdepoohlhaaW.PrintWords Go.Proofs.YtmcajdepoohlhaaW.PrintLast Go.Proofs.YtmcajdepoohlhaaW.PrintMore
attribute [local go_sem] max2_int min2_int max_two min_two max_three min_three max_four min_four
set_option linter.unusedVariables false
set_option linter.unusedSimpArgs false
section
/-! ### grids_Side: function 21 -/
def grids_Side.f (k : Nat) (a0_0 : Int) (a0_1 : Int) (a1_0 : Int) (a1_1 : Int) (a2_0 : Int) (a2_1 : Int) : Option (Int × Int) := (grids_point.f k (([(⟨a0_0, a0_1⟩ : S37), (⟨a1_0, a1_1⟩ : S37), (⟨a2_0, a2_1⟩ : S37)] : List (S37)))).bind fun t472 => (if t472 = true then ((grids_to.f a0_0 a0_1 a1_0 a1_1).bind fun bt473 => ((grids_to.f a0_0 a0_1 a2_0 a2_1).bind fun bt475 => ((grids_step_cross.f bt473.1 bt473.2 bt475.1 bt475.2).bind fun t477 => ((cmp_Compare_int64.f t477 0).bind fun t478 => (some (t478, 0)))))) else (some (0, 2)))
theorem grids_Side.mono : ∀ a0 a1 a2 a3 a4 a5 k, LeO (grids_Side.f k a0 a1 a2 a3 a4 a5) (grids_Side.f (k + 1) a0 a1 a2 a3 a4 a5) := by
  intro a0 a1 a2 a3 a4 a5 k
  unfold grids_Side.f
  repeat' first
      | (with_reducible exact grids_point.mono _ _)
      | (with_reducible exact LeO.refl _)
      | (with_reducible exact LeO.none _)
      | (with_reducible refine LeO.ite ?_ ?_)
      | (with_reducible refine LeO.bind ?_ (fun _ => ?_))
      | exact grids_point.mono _ _
      | exact LeO.none _
      | refine LeO.ite ?_ ?_
      | refine LeO.bind ?_ (fun _ => ?_)
def grids_Side.T3 : Bool × List (List Nat × List Nat) := (true, [([], []), ([], []), ([0, 1], [0, 1]), ([], []), ([], []), ([3, 4, 2], [3, 4]), ([2, 5, 5], [2, 5]), ([6, 6], [6]), ([7, 7, 0, 1, 2, 3, 4, 5, 6, 7], [7]), ([8, 0, 1, 2, 3, 4, 5, 6, 7, 8], [])])
def grids_Side.B3 : List Nat := [0, 0, 3, 0, 0, 31, 63, 127, 255, 511]
theorem grids_Side.tab3 : rtab .any (opsOf Try.f21 3) = grids_Side.T3 := by kernel_rfl
theorem grids_Side.bits3 : waitsOk grids_Side.T3.2 grids_Side.B3 = true := by kernel_rfl
set_option maxHeartbeats 8000000 in
set_option maxRecDepth 100000 in
theorem grids_Side.calls (k : Nat) (a0_0 : Int) (a0_1 : Int) (a1_0 : Int) (a1_1 : Int) (a2_0 : Int) (a2_1 : Int) (r1 : Int) (r2 : Int) (w : World) (h : grids_Side.f k a0_0 a0_1 a1_0 a1_1 a2_0 a2_1 = some (r1, r2)) :
    Calls Try.prog 21 #[.agg #[.int .i64 a0_0, .int .i64 a0_1], .agg #[.int .i64 a1_0, .int .i64 a1_1], .agg #[.int .i64 a2_0, .int .i64 a2_1]] w fun e w' => e = .returned (.tuple #[.int .i64 r1, .int .i64 r2]) ∧ Below w.heap.size w w' := by
  have hu37 := Try.underlying37
  have HB := Aside0.mk (Below.refl w.heap.size w)
  have H : ((grids_point.f k (([(⟨a0_0, a0_1⟩ : S37), (⟨a1_0, a1_1⟩ : S37), (⟨a2_0, a2_1⟩ : S37)] : List (S37)))).bind fun t472 => (if t472 = true then ((grids_to.f a0_0 a0_1 a1_0 a1_1).bind fun bt473 => ((grids_to.f a0_0 a0_1 a2_0 a2_1).bind fun bt475 => ((grids_step_cross.f bt473.1 bt473.2 bt475.1 bt475.2).bind fun t477 => ((cmp_Compare_int64.f t477 0).bind fun t478 => (some (t478, 0)))))) else (some (0, 2)))) = some (r1, r2) := h
  clear h
  obtain ⟨y469, hy469⟩ : ∃ y_ : List (S37), y_ = (([(⟨a0_0, a0_1⟩ : S37), (⟨a1_0, a1_1⟩ : S37), (⟨a2_0, a2_1⟩ : S37)] : List (S37))) := ⟨_, rfl⟩
  replace H : ((grids_point.f k y469).bind fun t472 => (if t472 = true then ((grids_to.f a0_0 a0_1 a1_0 a1_1).bind fun bt473 => ((grids_to.f a0_0 a0_1 a2_0 a2_1).bind fun bt475 => ((grids_step_cross.f bt473.1 bt473.2 bt475.1 bt475.2).bind fun t477 => ((cmp_Compare_int64.f t477 0).bind fun t478 => (some (t478, 0)))))) else (some (0, 2)))) = some (r1, r2) := by first | (rw [hy469]; with_reducible exact H) | (have H2_ := (Option.bind_some _ _).symm.trans H; rw [hy469]; with_reducible exact H2_) | (have H2_ := (Option.bind_some _ _).symm.trans H; with_reducible exact H2_) | with_reducible exact H | (rw [hy469]; exact H) | exact H
  have Ny469 := Aside0.mk hy469
  clear hy469
  replace H := Option.bind_eq_some_iff.mp H
  obtain ⟨t472, A40, H⟩ := H
  replace H : (if t472 = true then ((grids_to.f a0_0 a0_1 a1_0 a1_1).bind fun bt473 => ((grids_to.f a0_0 a0_1 a2_0 a2_1).bind fun bt475 => ((grids_step_cross.f bt473.1 bt473.2 bt475.1 bt475.2).bind fun t477 => ((cmp_Compare_int64.f t477 0).bind fun t478 => (some (t478, 0)))))) else (some (0, 2))) = some (r1, r2) := H
  have A4 := Aside0.mk A40
  clear A40
  by_cases c5 : t472 = true
  · subst c5
    have H1 : ((grids_to.f a0_0 a0_1 a1_0 a1_1).bind fun bt473 => ((grids_to.f a0_0 a0_1 a2_0 a2_1).bind fun bt475 => ((grids_step_cross.f bt473.1 bt473.2 bt475.1 bt475.2).bind fun t477 => ((cmp_Compare_int64.f t477 0).bind fun t478 => (some (t478, 0)))))) = some (r1, r2) := by rw [if_pos rfl] at H; exact H
    clear H
    have H := H1
    clear H1
    replace H := Option.bind_eq_some_iff.mp H
    obtain ⟨⟨t473, t474⟩, A60, H⟩ := H
    replace H : ((grids_to.f a0_0 a0_1 a2_0 a2_1).bind fun bt475 => ((grids_step_cross.f t473 t474 bt475.1 bt475.2).bind fun t477 => ((cmp_Compare_int64.f t477 0).bind fun t478 => (some (t478, 0))))) = some (r1, r2) := H
    have A6 := Aside0.mk A60
    clear A60
    replace H := Option.bind_eq_some_iff.mp H
    obtain ⟨⟨t475, t476⟩, A70, H⟩ := H
    replace H : ((grids_step_cross.f t473 t474 t475 t476).bind fun t477 => ((cmp_Compare_int64.f t477 0).bind fun t478 => (some (t478, 0)))) = some (r1, r2) := H
    have A7 := Aside0.mk A70
    clear A70
    replace H := Option.bind_eq_some_iff.mp H
    obtain ⟨t477, A80, H⟩ := H
    replace H : ((cmp_Compare_int64.f t477 0).bind fun t478 => (some (t478, 0))) = some (r1, r2) := H
    have A8 := Aside0.mk A80
    clear A80
    replace H := Option.bind_eq_some_iff.mp H
    obtain ⟨t478, A90, H⟩ := H
    replace H : (some (t478, 0)) = some (r1, r2) := H
    have A9 := Aside0.mk A90
    clear A90
    simp only [Option.some.injEq, Prod.mk.injEq] at H
    obtain ⟨rfl, rfl⟩ := H
    go_enter Try.func21, Try.ntmps21
    try go_wp2_with (first | ((with_reducible refine gate_dst (N := 3) rfl ?_); refine bx 3 #[.int .i64 a0_0, .int .i64 a0_1] 37 fun gb466 hg w10 BK466 hb => ?_; have GW466 := gw hg HB; have GE466 := gw hg HB; replace HB := bst HB hb; clear hb hg) | ((with_reducible refine gate_dst (N := 4) rfl ?_); refine bx 4 #[.int .i64 a1_0, .int .i64 a1_1] 37 fun gb467 hg w11 BK467 hb => ?_; have GW467 := gw hg HB; have GE467 := gw hg HB; have NB466_467 := nlt hg BK466; have NB467_466 := ngt hg BK466; replace BK466 := bb BK466 hb; replace HB := bst HB hb; clear hb hg) | ((with_reducible refine gate_dst (N := 5) rfl ?_); refine bx 5 #[.int .i64 a2_0, .int .i64 a2_1] 37 fun gb468 hg w12 BK468 hb => ?_; have GW468 := gw hg HB; have GE468 := gw hg HB; have NB466_468 := nlt hg BK466; have NB468_466 := ngt hg BK466; have NB467_468 := nlt hg BK467; have NB468_467 := ngt hg BK467; replace BK466 := bb BK466 hb; replace BK467 := bb BK467 hb; replace HB := bst HB hb; clear hb hg; have hnb13 := NB466_467.out; have hnc13 := NB467_466.out; have hnb14 := NB466_468.out; have hnc14 := NB468_466.out; have ⟨hcz15_0, hcz15_1, hfz15_0, hfz15_1⟩ := cf2 BK466; have hnb16 := NB467_468.out; have hnc16 := NB468_467.out; have ⟨hcz17_0, hcz17_1, hfz17_0, hfz17_1⟩ := cf2 BK467; have ⟨hcz18_0, hcz18_1, hfz18_0, hfz18_1⟩ := cf2 BK468) | ((with_reducible refine gate_dst (N := 11) rfl ?_); refine Kd.R_lit k37 _ 37 ?hg (N := 11) ?hd (xs := ([(⟨a0_0, a0_1⟩ : S37), (⟨a1_0, a1_1⟩ : S37), (⟨a2_0, a2_1⟩ : S37)] : List (S37))) (inner := [.int .i64 a0_0, .int .i64 a0_1, .int .i64 a1_0, .int .i64 a1_1, .int .i64 a2_0, .int .i64 a2_1]) (ok := fun _ => True) (okp := fun _ => True) ?hr ?hp (fun _ hk => hk) trivial (Below.refl _ _) (Nat.le_refl _) (by simp) ?_; (case hd => rfl); (case hg => rfl); (case hr => first | (go_simp; done) | (go_simp; rfl)); (case hp => exact (Reps.c2 (show Kd.M k37 _ _ _ (⟨a0_0, a0_1⟩ : S37) [.int .i64 a0_0, .int .i64 a0_1] from (k37_mkM _ _ _ (⟨a0_0, a0_1⟩ : S37) )) (Reps.c2 (show Kd.M k37 _ _ _ (⟨a1_0, a1_1⟩ : S37) [.int .i64 a1_0, .int .i64 a1_1] from (k37_mkM _ _ _ (⟨a1_0, a1_1⟩ : S37) )) (Reps.c2 (show Kd.M k37 _ _ _ (⟨a2_0, a2_1⟩ : S37) [.int .i64 a2_0, .int .i64 a2_1] from (k37_mkM _ _ _ (⟨a2_0, a2_1⟩ : S37) )) (Reps.none _ _))))); intro v470 w19 ho20 hb hg_ hnew_; clear hg_ hnew_; (first | rw [← Ny469.out] at ho20 | (simp only [Int.reduceToNat] at ho20; rw [← Ny469.out] at ho20)); have HO471 := Aside0.mk (Kd.R_lower (Kd.R_newB (Kd.R_newB (Kd.R_newB ho20 (g := gb466) (o := .cells #[.int .i64 a0_0, .int .i64 a0_1] 37 (0, 0)) (pk BK466)) (g := gb467) (o := .cells #[.int .i64 a1_0, .int .i64 a1_1] 37 (0, 0)) (pk BK467)) (g := gb468) (o := .cells #[.int .i64 a2_0, .int .i64 a2_1] 37 (0, 0)) (pk BK468)) (below_size (bnow HB))); replace BK466 := bb BK466 hb; replace BK467 := bb BK467 hb; replace BK468 := bb BK468 hb; replace HB := bst HB hb; clear hb ho20; obtain ⟨Ao21, co21, eo21⟩ := Kd.R_slice HO471.out; subst eo21) | ((with_reducible refine gate_callee (f := 49) rfl ?_); refine goesL_ (some 12) rfl rfl Try.func49 (by kernel_rfl) rfl #[.slice Ao21 y469.length co21] rfl am ?_; (with_reducible refine (grids_point.calls k _ _ y469 true _ ?side1 ?side2 A4.out).mono ?_); (case side1 => repeat (first | exact (Kd.R_reads' HO471.out).2.2 | (with_reducible refine Kd.C_alloc ?_ _) | (with_reducible refine Kd.C_drewN ?_ _) | (with_reducible refine Kd.C_drew ?_))); (case side2 => exact (Kd.R_reads' HO471.out).2.1); rintro e w22 ⟨rfl, hb⟩; refine ⟨_, rfl, ?_⟩; replace HO471 := Aside0.mk (Kd.R_below (by (with_reducible repeat (first | apply Kd.R_alloc | apply Kd.R_drewN | apply Kd.R_drew)); exact HO471.out) hb); replace BK466 := bb BK466 hb; replace BK467 := bb BK467 hb; replace BK468 := bb BK468 hb; replace HB := bst HB hb; (try clear hb); (try clear hb2); (try clear hk); (try clear hi)))
    replace HO471 := Aside0.mk (Kd.R_drew HO471.out)
    replace BK466 := bd BK466
    replace BK467 := bd BK467
    replace BK468 := bd BK468
    replace HB := bdn HB
    refine start_ (n := 10) (S := fun w' => w'.cell? ⟨gb466, 0, none⟩ = some (.int .i64 a0_0) ∧ w'.cell? ⟨gb466, 1, none⟩ = some (.int .i64 a0_1) ∧ w'.cell? ⟨gb467, 0, none⟩ = some (.int .i64 a1_0) ∧ w'.cell? ⟨gb467, 1, none⟩ = some (.int .i64 a1_1) ∧ w'.cell? ⟨gb468, 0, none⟩ = some (.int .i64 a2_0) ∧ w'.cell? ⟨gb468, 1, none⟩ = some (.int .i64 a2_1)) (ds := []) #[false, false, false, false, false, false, false, false, false, false] (by kernel_rfl) rfl rfl ⟨(blk_cell BK466.out 0).trans rfl, (blk_cell BK466.out 1).trans rfl, (blk_cell BK467.out 0).trans rfl, (blk_cell BK467.out 1).trans rfl, (blk_cell BK468.out 0).trans rfl, (blk_cell BK468.out 1).trans rfl⟩ (fun hHeld => ?_); refine with_tabW grids_Side.tab3 grids_Side.bits3 (fun HT_ HW_ => ?_)
    generalize w22.drew = w23 at HO471 BK466 BK467 BK468 HB hHeld ⊢
    refine tz 0 14 HT_ HW_ hHeld ?_
    refine tz 1 15 HT_ HW_ hHeld ?_
    refine tz 3 17 HT_ HW_ hHeld ?_
    refine tz 4 18 HT_ HW_ hHeld ?_
    refine one_ (i := 2) (N := some 16) #[true, true, true, true, true, false, false, false, false, false] rfl rfl (one_of HT_.out (by kernel_rfl)) (by decide) (fun K hK => ?_)
    refine gs _ Try.func50 (grids_to.calls a0_0 a0_1 a1_0 a1_1 t473 t474 _ A6.out) ?_
    rintro e w24 ⟨rfl, hb⟩
    refine ⟨_, rfl, ?_⟩
    have n0_ := Aside0.mk (Kd.R_below (by (with_reducible repeat (first | apply Kd.R_alloc | apply Kd.R_drewN | apply Kd.R_drew)); exact HO471.out) hb)
    have n1_ := bb BK466 hb
    have n2_ := bb BK467 hb
    have n3_ := bb BK468 hb
    have n4_ := bst HB hb
    clear HO471
    clear BK466
    clear BK467
    clear BK468
    clear HB
    have HO471 := n0_
    have BK466 := n1_
    have BK467 := n2_
    have BK468 := n3_
    have HB := n4_
    clear n0_ n1_ n2_ n3_ n4_
    (try clear hb)
    (try clear hb2)
    (try clear hk)
    (try clear hi)
    refine hK.out _ _ ⟨(blk_cell BK466.out 0).trans rfl, (blk_cell BK466.out 1).trans rfl, (blk_cell BK467.out 0).trans rfl, (blk_cell BK467.out 1).trans rfl, (blk_cell BK468.out 0).trans rfl, (blk_cell BK468.out 1).trans rfl⟩ (fun hHeld => ?_)
    clear hK K
    refine norm_ (a' := ?_) ?_ ?_
    rotate_left
    · show Act.put _ (some 16) _ = _
      simp only [Act.put, List.setIfInBounds_toArray, List.set_cons_zero, List.set_cons_succ, i64_w, i32_w]
      rfl
    refine one_ (i := 5) (N := some 19) #[true, true, true, true, true, true, false, false, false, false] rfl rfl (one_of HT_.out (by kernel_rfl)) (by decide) (fun K hK => ?_)
    refine gs _ Try.func50 (grids_to.calls a0_0 a0_1 a2_0 a2_1 t475 t476 _ A7.out) ?_
    rintro e w25 ⟨rfl, hb⟩
    refine ⟨_, rfl, ?_⟩
    have n0_ := Aside0.mk (Kd.R_below (by (with_reducible repeat (first | apply Kd.R_alloc | apply Kd.R_drewN | apply Kd.R_drew)); exact HO471.out) hb)
    have n1_ := bb BK466 hb
    have n2_ := bb BK467 hb
    have n3_ := bb BK468 hb
    have n4_ := bst HB hb
    clear HO471
    clear BK466
    clear BK467
    clear BK468
    clear HB
    have HO471 := n0_
    have BK466 := n1_
    have BK467 := n2_
    have BK468 := n3_
    have HB := n4_
    clear n0_ n1_ n2_ n3_ n4_
    (try clear hb)
    (try clear hb2)
    (try clear hk)
    (try clear hi)
    refine hK.out _ _ ⟨(blk_cell BK466.out 0).trans rfl, (blk_cell BK466.out 1).trans rfl, (blk_cell BK467.out 0).trans rfl, (blk_cell BK467.out 1).trans rfl, (blk_cell BK468.out 0).trans rfl, (blk_cell BK468.out 1).trans rfl⟩ (fun hHeld => ?_)
    clear hK K
    refine norm_ (a' := ?_) ?_ ?_
    rotate_left
    · show Act.put _ (some 19) _ = _
      simp only [Act.put, List.setIfInBounds_toArray, List.set_cons_zero, List.set_cons_succ, i64_w, i32_w]
      rfl
    refine one_ (i := 6) (N := some 20) #[true, true, true, true, true, true, true, false, false, false] rfl rfl (one_of HT_.out (by kernel_rfl)) (by decide) (fun K hK => ?_)
    refine gs _ Try.func55 (grids_step_cross.calls t473 t474 t475 t476 t477 _ A8.out) ?_
    rintro e w26 ⟨rfl, hb⟩
    refine ⟨_, rfl, ?_⟩
    have n0_ := Aside0.mk (Kd.R_below (by (with_reducible repeat (first | apply Kd.R_alloc | apply Kd.R_drewN | apply Kd.R_drew)); exact HO471.out) hb)
    have n1_ := bb BK466 hb
    have n2_ := bb BK467 hb
    have n3_ := bb BK468 hb
    have n4_ := bst HB hb
    clear HO471
    clear BK466
    clear BK467
    clear BK468
    clear HB
    have HO471 := n0_
    have BK466 := n1_
    have BK467 := n2_
    have BK468 := n3_
    have HB := n4_
    clear n0_ n1_ n2_ n3_ n4_
    (try clear hb)
    (try clear hb2)
    (try clear hk)
    (try clear hi)
    refine hK.out _ _ ⟨(blk_cell BK466.out 0).trans rfl, (blk_cell BK466.out 1).trans rfl, (blk_cell BK467.out 0).trans rfl, (blk_cell BK467.out 1).trans rfl, (blk_cell BK468.out 0).trans rfl, (blk_cell BK468.out 1).trans rfl⟩ (fun hHeld => ?_)
    clear hK K
    refine norm_ (a' := ?_) ?_ ?_
    rotate_left
    · show Act.put _ (some 20) _ = _
      simp only [Act.put, List.setIfInBounds_toArray, List.set_cons_zero, List.set_cons_succ, i64_w, i32_w]
      rfl
    refine one_ (i := 7) (N := some 21) #[true, true, true, true, true, true, true, true, false, false] rfl rfl (one_of HT_.out (by kernel_rfl)) (by decide) (fun K hK => ?_)
    refine gs _ Try.func54 (cmp_Compare_int64.calls t477 0 t478 _ A9.out) ?_
    rintro e w' ⟨rfl, ⟨nd, rfl⟩⟩
    refine ⟨_, rfl, ?_⟩
    refine hK.out _ _ ⟨(blk_cell BK466.out 0).trans rfl, (blk_cell BK466.out 1).trans rfl, (blk_cell BK467.out 0).trans rfl, (blk_cell BK467.out 1).trans rfl, (blk_cell BK468.out 0).trans rfl, (blk_cell BK468.out 1).trans rfl⟩ (fun hHeld => ?_)
    clear hK K
    refine norm_ (a' := ?_) ?_ ?_
    rotate_left
    · show Act.put _ (some 21) _ = _
      simp only [Act.put, List.setIfInBounds_toArray, List.set_cons_zero, List.set_cons_succ, i64_w, i32_w]
      rfl
    refine pz 8 6 HT_ ?_
    refine pz 9 7 HT_ ?_
    refine done_ (done_of HT_.out (by kernel_rfl)) ?_
    try go_wp2
    go_ret2
    exact rt HB
  · replace c5 := Bool.eq_false_iff.mpr c5
    subst c5
    have H1 : (some (0, 2)) = some (r1, r2) := by rw [if_neg (show ¬ (false = true) by decide)] at H; exact H
    clear H
    have H := H1
    clear H1
    simp only [Option.some.injEq, Prod.mk.injEq] at H
    obtain ⟨rfl, rfl⟩ := H
    go_enter Try.func21, Try.ntmps21
    go_wp2_with (first | ((with_reducible refine gate_dst (N := 3) rfl ?_); refine bx 3 #[.int .i64 a0_0, .int .i64 a0_1] 37 fun gb466 hg w27 BK466 hb => ?_; have GW466 := gw hg HB; have GE466 := gw hg HB; replace HB := bst HB hb; clear hb hg) | ((with_reducible refine gate_dst (N := 4) rfl ?_); refine bx 4 #[.int .i64 a1_0, .int .i64 a1_1] 37 fun gb467 hg w28 BK467 hb => ?_; have GW467 := gw hg HB; have GE467 := gw hg HB; have NB466_467 := nlt hg BK466; have NB467_466 := ngt hg BK466; replace BK466 := bb BK466 hb; replace HB := bst HB hb; clear hb hg) | ((with_reducible refine gate_dst (N := 5) rfl ?_); refine bx 5 #[.int .i64 a2_0, .int .i64 a2_1] 37 fun gb468 hg w29 BK468 hb => ?_; have GW468 := gw hg HB; have GE468 := gw hg HB; have NB466_468 := nlt hg BK466; have NB468_466 := ngt hg BK466; have NB467_468 := nlt hg BK467; have NB468_467 := ngt hg BK467; replace BK466 := bb BK466 hb; replace BK467 := bb BK467 hb; replace HB := bst HB hb; clear hb hg; have hnb30 := NB466_467.out; have hnc30 := NB467_466.out; have hnb31 := NB466_468.out; have hnc31 := NB468_466.out; have ⟨hcz32_0, hcz32_1, hfz32_0, hfz32_1⟩ := cf2 BK466; have hnb33 := NB467_468.out; have hnc33 := NB468_467.out; have ⟨hcz34_0, hcz34_1, hfz34_0, hfz34_1⟩ := cf2 BK467; have ⟨hcz35_0, hcz35_1, hfz35_0, hfz35_1⟩ := cf2 BK468) | ((with_reducible refine gate_dst (N := 11) rfl ?_); refine Kd.R_lit k37 _ 37 ?hg (N := 11) ?hd (xs := ([(⟨a0_0, a0_1⟩ : S37), (⟨a1_0, a1_1⟩ : S37), (⟨a2_0, a2_1⟩ : S37)] : List (S37))) (inner := [.int .i64 a0_0, .int .i64 a0_1, .int .i64 a1_0, .int .i64 a1_1, .int .i64 a2_0, .int .i64 a2_1]) (ok := fun _ => True) (okp := fun _ => True) ?hr ?hp (fun _ hk => hk) trivial (Below.refl _ _) (Nat.le_refl _) (by simp) ?_; (case hd => rfl); (case hg => rfl); (case hr => first | (go_simp; done) | (go_simp; rfl)); (case hp => exact (Reps.c2 (show Kd.M k37 _ _ _ (⟨a0_0, a0_1⟩ : S37) [.int .i64 a0_0, .int .i64 a0_1] from (k37_mkM _ _ _ (⟨a0_0, a0_1⟩ : S37) )) (Reps.c2 (show Kd.M k37 _ _ _ (⟨a1_0, a1_1⟩ : S37) [.int .i64 a1_0, .int .i64 a1_1] from (k37_mkM _ _ _ (⟨a1_0, a1_1⟩ : S37) )) (Reps.c2 (show Kd.M k37 _ _ _ (⟨a2_0, a2_1⟩ : S37) [.int .i64 a2_0, .int .i64 a2_1] from (k37_mkM _ _ _ (⟨a2_0, a2_1⟩ : S37) )) (Reps.none _ _))))); intro v470 w36 ho37 hb hg_ hnew_; clear hg_ hnew_; (first | rw [← Ny469.out] at ho37 | (simp only [Int.reduceToNat] at ho37; rw [← Ny469.out] at ho37)); have HO471 := Aside0.mk (Kd.R_lower (Kd.R_newB (Kd.R_newB (Kd.R_newB ho37 (g := gb466) (o := .cells #[.int .i64 a0_0, .int .i64 a0_1] 37 (0, 0)) (pk BK466)) (g := gb467) (o := .cells #[.int .i64 a1_0, .int .i64 a1_1] 37 (0, 0)) (pk BK467)) (g := gb468) (o := .cells #[.int .i64 a2_0, .int .i64 a2_1] 37 (0, 0)) (pk BK468)) (below_size (bnow HB))); replace BK466 := bb BK466 hb; replace BK467 := bb BK467 hb; replace BK468 := bb BK468 hb; replace HB := bst HB hb; clear hb ho37; obtain ⟨Ao38, co38, eo38⟩ := Kd.R_slice HO471.out; subst eo38) | ((with_reducible refine gate_callee (f := 49) rfl ?_); refine goesL_ (some 12) rfl rfl Try.func49 (by kernel_rfl) rfl #[.slice Ao38 y469.length co38] rfl am ?_; (with_reducible refine (grids_point.calls k _ _ y469 false _ ?side1 ?side2 A4.out).mono ?_); (case side1 => repeat (first | exact (Kd.R_reads' HO471.out).2.2 | (with_reducible refine Kd.C_alloc ?_ _) | (with_reducible refine Kd.C_drewN ?_ _) | (with_reducible refine Kd.C_drew ?_))); (case side2 => exact (Kd.R_reads' HO471.out).2.1); rintro e w39 ⟨rfl, hb⟩; refine ⟨_, rfl, ?_⟩; replace HO471 := Aside0.mk (Kd.R_below (by (with_reducible repeat (first | apply Kd.R_alloc | apply Kd.R_drewN | apply Kd.R_drew)); exact HO471.out) hb); replace BK466 := bb BK466 hb; replace BK467 := bb BK467 hb; replace BK468 := bb BK468 hb; replace HB := bst HB hb; (try clear hb); (try clear hb2); (try clear hk); (try clear hi)))
    go_ret2
    exact rt HB
end
section
/-! ### grids_det: function 68 -/
def grids_det.f (a0_0 : Int) (a0_1 : Int) (a0_2 : Int) (a0_3 : Int) : Option (Int) := (some (wrap64 (a0_0 * a0_3))).bind fun z480 => ((some (wrap64 (a0_1 * a0_2))).bind fun z481 => ((some (wrap64 (z480 - z481))).bind fun z482 => (some z482)))
set_option maxHeartbeats 8000000 in
set_option maxRecDepth 100000 in
theorem grids_det.calls (a0_0 : Int) (a0_1 : Int) (a0_2 : Int) (a0_3 : Int) (r : Int) (w : World) (h : grids_det.f a0_0 a0_1 a0_2 a0_3 = some r) :
    Calls Try.prog 68 #[.agg #[.int .i64 a0_0, .int .i64 a0_1, .int .i64 a0_2, .int .i64 a0_3]] w fun e w' => e = .returned (.int .i64 r) ∧ Below w.heap.size w w' := by
  have hu25 := Try.underlying25
  have HB := Aside0.mk (Below.refl w.heap.size w)
  have H : ((some (wrap64 (a0_0 * a0_3))).bind fun z480 => ((some (wrap64 (a0_1 * a0_2))).bind fun z481 => ((some (wrap64 (z480 - z481))).bind fun z482 => (some z482)))) = some r := h
  clear h
  replace H := Option.bind_eq_some_iff.mp H
  obtain ⟨z480, E20, H⟩ := H
  replace H : ((some (wrap64 (a0_1 * a0_2))).bind fun z481 => ((some (wrap64 (z480 - z481))).bind fun z482 => (some z482))) = some r := H
  replace E20 := Option.some.inj E20
  have E2w : (IntKind.i64.wrap (a0_0 * a0_3)) = z480 := (i64_w _).trans E20
  replace H := Option.bind_eq_some_iff.mp H
  obtain ⟨z481, E30, H⟩ := H
  replace H : ((some (wrap64 (z480 - z481))).bind fun z482 => (some z482)) = some r := H
  replace E30 := Option.some.inj E30
  have E3w : (IntKind.i64.wrap (a0_1 * a0_2)) = z481 := (i64_w _).trans E30
  replace H := Option.bind_eq_some_iff.mp H
  obtain ⟨z482, E40, H⟩ := H
  replace H : (some z482) = some r := H
  replace E40 := Option.some.inj E40
  have E4w : (IntKind.i64.wrap (z480 - z481)) = z482 := (i64_w _).trans E40
  obtain rfl := Option.some.inj H
  go_enter Try.func68, Try.ntmps68
  go_wp2_with (first | ((with_reducible refine gate_dst (N := 1) rfl ?_); refine bx 1 #[.int .i64 a0_0, .int .i64 a0_1, .int .i64 a0_2, .int .i64 a0_3] 25 fun gb479 hg w5 BK479 hb => ?_; have GW479 := gw hg HB; have GE479 := gw hg HB; replace HB := bst HB hb; clear hb hg; have ⟨hcz6_0, hcz6_1, hcz6_2, hcz6_3, hfz6_0, hfz6_1, hfz6_2, hfz6_3⟩ := cf4 BK479))
  go_ret
  exact rt HB
end
section
/-! ### grids_inverse: function 57 -/
def grids_inverse.f (a0_0 : Int) (a0_1 : Int) (a0_2 : Int) (a0_3 : Int) : Option (Int × Int × Int × Int) := (grids_det.f a0_0 a0_1 a0_2 a0_3).bind fun t485 => ((some (wrap64 (t485 * a0_3))).bind fun z486 => ((some (wrap64 (-t485))).bind fun z487 => ((some (wrap64 (z487 * a0_1))).bind fun z488 => ((some (wrap64 (z487 * a0_2))).bind fun z489 => ((some (wrap64 (t485 * a0_0))).bind fun z490 => (some (z486, z488, z489, z490)))))))
set_option maxHeartbeats 8000000 in
set_option maxRecDepth 100000 in
theorem grids_inverse.calls (a0_0 : Int) (a0_1 : Int) (a0_2 : Int) (a0_3 : Int) (r1 : Int) (r2 : Int) (r3 : Int) (r4 : Int) (w : World) (h : grids_inverse.f a0_0 a0_1 a0_2 a0_3 = some (r1, r2, r3, r4)) :
    Calls Try.prog 57 #[.agg #[.int .i64 a0_0, .int .i64 a0_1, .int .i64 a0_2, .int .i64 a0_3]] w fun e w' => e = .returned (.agg #[.int .i64 r1, .int .i64 r2, .int .i64 r3, .int .i64 r4]) ∧ Below w.heap.size w w' := by
  have hu25 := Try.underlying25
  have HB := Aside0.mk (Below.refl w.heap.size w)
  have H : ((grids_det.f a0_0 a0_1 a0_2 a0_3).bind fun t485 => ((some (wrap64 (t485 * a0_3))).bind fun z486 => ((some (wrap64 (-t485))).bind fun z487 => ((some (wrap64 (z487 * a0_1))).bind fun z488 => ((some (wrap64 (z487 * a0_2))).bind fun z489 => ((some (wrap64 (t485 * a0_0))).bind fun z490 => (some (z486, z488, z489, z490)))))))) = some (r1, r2, r3, r4) := h
  clear h
  replace H := Option.bind_eq_some_iff.mp H
  obtain ⟨t485, A20, H⟩ := H
  replace H : ((some (wrap64 (t485 * a0_3))).bind fun z486 => ((some (wrap64 (-t485))).bind fun z487 => ((some (wrap64 (z487 * a0_1))).bind fun z488 => ((some (wrap64 (z487 * a0_2))).bind fun z489 => ((some (wrap64 (t485 * a0_0))).bind fun z490 => (some (z486, z488, z489, z490))))))) = some (r1, r2, r3, r4) := H
  have A2 := Aside0.mk A20
  clear A20
  replace H := Option.bind_eq_some_iff.mp H
  obtain ⟨z486, E30, H⟩ := H
  replace H : ((some (wrap64 (-t485))).bind fun z487 => ((some (wrap64 (z487 * a0_1))).bind fun z488 => ((some (wrap64 (z487 * a0_2))).bind fun z489 => ((some (wrap64 (t485 * a0_0))).bind fun z490 => (some (z486, z488, z489, z490)))))) = some (r1, r2, r3, r4) := H
  replace E30 := Option.some.inj E30
  have E3w : (IntKind.i64.wrap (t485 * a0_3)) = z486 := (i64_w _).trans E30
  replace H := Option.bind_eq_some_iff.mp H
  obtain ⟨z487, E40, H⟩ := H
  replace H : ((some (wrap64 (z487 * a0_1))).bind fun z488 => ((some (wrap64 (z487 * a0_2))).bind fun z489 => ((some (wrap64 (t485 * a0_0))).bind fun z490 => (some (z486, z488, z489, z490))))) = some (r1, r2, r3, r4) := H
  replace E40 := Option.some.inj E40
  have E4w : (IntKind.i64.wrap (-t485)) = z487 := (i64_w _).trans E40
  replace H := Option.bind_eq_some_iff.mp H
  obtain ⟨z488, E50, H⟩ := H
  replace H : ((some (wrap64 (z487 * a0_2))).bind fun z489 => ((some (wrap64 (t485 * a0_0))).bind fun z490 => (some (z486, z488, z489, z490)))) = some (r1, r2, r3, r4) := H
  replace E50 := Option.some.inj E50
  have E5w : (IntKind.i64.wrap (z487 * a0_1)) = z488 := (i64_w _).trans E50
  replace H := Option.bind_eq_some_iff.mp H
  obtain ⟨z489, E60, H⟩ := H
  replace H : ((some (wrap64 (t485 * a0_0))).bind fun z490 => (some (z486, z488, z489, z490))) = some (r1, r2, r3, r4) := H
  replace E60 := Option.some.inj E60
  have E6w : (IntKind.i64.wrap (z487 * a0_2)) = z489 := (i64_w _).trans E60
  replace H := Option.bind_eq_some_iff.mp H
  obtain ⟨z490, E70, H⟩ := H
  replace H : (some (z486, z488, z489, z490)) = some (r1, r2, r3, r4) := H
  replace E70 := Option.some.inj E70
  have E7w : (IntKind.i64.wrap (t485 * a0_0)) = z490 := (i64_w _).trans E70
  simp only [Option.some.injEq, Prod.mk.injEq] at H
  obtain ⟨rfl, rfl, rfl, rfl⟩ := H
  go_enter Try.func57, Try.ntmps57
  go_wp2_with (first | ((with_reducible refine gate_dst (N := 1) rfl ?_); refine bx 1 #[.int .i64 a0_0, .int .i64 a0_1, .int .i64 a0_2, .int .i64 a0_3] 25 fun gb483 hg w8 BK483 hb => ?_; have GW483 := gw hg HB; have GE483 := gw hg HB; replace HB := bst HB hb; clear hb hg) | ((with_reducible refine gate_dst (N := 2) rfl ?_); refine bx 2 #[.int .i64 0, .int .i64 0, .int .i64 0, .int .i64 0] 25 fun gb484 hg w9 BK484 hb => ?_; have GW484 := gw hg HB; have GE484 := gw hg HB; have NB483_484 := nlt hg BK483; have NB484_483 := ngt hg BK483; replace BK483 := bb BK483 hb; replace HB := bst HB hb; clear hb hg; have hnb10 := NB483_484.out; have hnc10 := NB484_483.out; have ⟨hcz11_0, hcz11_1, hcz11_2, hcz11_3, hfz11_0, hfz11_1, hfz11_2, hfz11_3⟩ := cf4 BK483) | ((with_reducible refine gate_callee (f := 68) rfl ?_); refine gl 5 Try.func68 (grids_det.calls a0_0 a0_1 a0_2 a0_3 t485 _ A2.out) ?_; rintro e w12 ⟨rfl, hb⟩; refine ⟨_, rfl, ?_⟩; replace BK483 := bb BK483 hb; replace BK484 := bb BK484 hb; replace HB := bst HB hb; clear hb; have ⟨hcz13_0, hcz13_1, hcz13_2, hcz13_3, hfz13_0, hfz13_1, hfz13_2, hfz13_3⟩ := cf4 BK483; have ⟨hcz14_0, hcz14_1, hcz14_2, hcz14_3, hfz14_0, hfz14_1, hfz14_2, hfz14_3⟩ := cf4 BK484) | ((with_reducible refine gate_store (t := 25) (p := 2) rfl ?_); refine sx 25 2 (((((w12.setCell ⟨gb484, 0, none⟩ (.int .i64 z486)).setCell ⟨gb484, 1, none⟩ (.int .i64 z488)).setCell ⟨gb484, 2, none⟩ (.int .i64 z489)).setCell ⟨gb484, 3, none⟩ (.int .i64 z490))) fun w15 hw => ?_; replace BK483 := fw hw BK483; replace BK484 := pw4 hw BK484; replace HB := bw hw HB; clear hw))
  refine bodyPost_ret (results_cell_row rfl _ _ gb484 25 #[.int .i64 z486, .int .i64 z488, .int .i64 z489, .int .i64 z490] (0, 0) _ rfl (pk BK484) Try.underlying25 rfl (by kernel_rfl)) rfl ?_
  exact rt HB
end
section
/-! ### bits_Len: function 82 -/
/-- How many bits a number below 16 has; beyond, nothing is told. -/
def bits_Len.f (a0 : Int) : Option (Int) := if 0 ≤ a0 then if a0 < 1 then some 0 else if a0 < 2 then some 1 else if a0 < 4 then some 2 else if a0 < 8 then some 3 else if a0 < 16 then some 4 else none else none
set_option maxHeartbeats 8000000 in
set_option maxRecDepth 100000 in
theorem bits_Len.calls (a0 : Int) (r : Int) (w : World) (h : bits_Len.f a0 = some r) :
    Calls Try.prog 82 #[.int .u64 a0] w fun e w' => e = .returned (.int .i64 r) ∧ Drawn0 w w' := by
  unfold bits_Len.f at h
  have hr : 0 ≤ a0 ∧ a0 < 16 := by
    repeat' split at h
    all_goals first | omega | (exact absurd h (by simp))
  have hc : a0 = 0 ∨ a0 = 1 ∨ a0 = 2 ∨ a0 = 3 ∨ a0 = 4 ∨ a0 = 5 ∨ a0 = 6 ∨ a0 = 7 ∨ a0 = 8 ∨ a0 = 9 ∨ a0 = 10 ∨ a0 = 11 ∨ a0 = 12 ∨ a0 = 13 ∨ a0 = 14 ∨ a0 = 15 := by omega
  clear hr
  rcases hc with rfl | rfl | rfl | rfl | rfl | rfl | rfl | rfl | rfl | rfl | rfl | rfl | rfl | rfl | rfl | rfl
  all_goals
    simp at h
    subst h
    go_enter Try.func82, Try.ntmps82
    go_wp2
    go_ret
    exact ⟨by kernel_rfl, by repeat (first | exact Drawn0.refl _ | apply Drawn0.step)⟩
end
section
/-! ### api_GrMatrix_85: function 85 -/
mutual
def api_GrMatrix_85.l0 : Nat → List (S25) → Int → Int → Int → Option ((List (S25)))
  | 0, _, _, _, _ => none
  | k + 1, x0, x1, x2, x8 => if x8 < x2 then (api_GrMatrix_85.l1 k x0 x1 x2 x8 x8) else (some x0)
def api_GrMatrix_85.l1 : Nat → List (S25) → Int → Int → Int → Int → Option ((List (S25)))
  | 0, _, _, _, _, _ => none
  | k + 1, x0, x1, x2, x8, x9 => if x9 > x1 then (if 0 ≤ x9 then (if x9 < (x0.length : Int) then ((some (wrap64 (x9 - 1))).bind fun z493 => (if 0 ≤ z493 then (if z493 < (x0.length : Int) then ((grids_order.f k ((rd_T25 x0 x9).f0) ((rd_T25 x0 x9).f1) ((rd_T25 x0 x9).f2) ((rd_T25 x0 x9).f3) ((rd_T25 x0 z493).f0) ((rd_T25 x0 z493).f1) ((rd_T25 x0 z493).f2) ((rd_T25 x0 z493).f3)).bind fun t495 => (if t495 < 0 then (api_GrMatrix_85.l1 k ((x0.set (x9 : Int).toNat (⟨(rd_T25 x0 z493).f0, (rd_T25 x0 z493).f1, (rd_T25 x0 z493).f2, (rd_T25 x0 z493).f3⟩ : S25)).set (z493 : Int).toNat (⟨(rd_T25 x0 x9).f0, (rd_T25 x0 x9).f1, (rd_T25 x0 x9).f2, (rd_T25 x0 x9).f3⟩ : S25)) x1 x2 x8 z493) else ((some (wrap64 (x8 + 1))).bind fun z500 => (api_GrMatrix_85.l0 k x0 x1 x2 z500)))) else (none)) else (none))) else (none)) else (none)) else ((some (wrap64 (x8 + 1))).bind fun z501 => (api_GrMatrix_85.l0 k x0 x1 x2 z501))
end
def api_GrMatrix_85.f (k : Nat) (l0 : List (S25)) (a1 : Int) (a2 : Int)  : Option ((List (S25))) := (some (wrap64 (a1 + 1))).bind fun z491 => (api_GrMatrix_85.l0 k l0 a1 a2 z491)
theorem api_GrMatrix_85.mono_l : ∀ k, (∀ y0 y1 y2 y3, LeO (api_GrMatrix_85.l0 k y0 y1 y2 y3) (api_GrMatrix_85.l0 (k + 1) y0 y1 y2 y3)) ∧ (∀ y0 y1 y2 y3 y4, LeO (api_GrMatrix_85.l1 k y0 y1 y2 y3 y4) (api_GrMatrix_85.l1 (k + 1) y0 y1 y2 y3 y4))
  | 0 => ⟨fun _ _ _ _ r h => by simp [api_GrMatrix_85.l0] at h, fun _ _ _ _ _ r h => by simp [api_GrMatrix_85.l1] at h⟩
  | k + 1 => by
    obtain ⟨ih0, ih1⟩ := api_GrMatrix_85.mono_l k
    refine ⟨?_, ?_⟩
    · intro y0 y1 y2 y3
      unfold api_GrMatrix_85.l0
      repeat' first
      | (with_reducible exact ih0 _ _ _ _)
      | (with_reducible exact ih1 _ _ _ _ _)
      | (with_reducible exact grids_order.mono _ _ _ _ _ _ _ _ _)
      | (with_reducible exact LeO.refl _)
      | (with_reducible exact LeO.none _)
      | (with_reducible refine LeO.ite ?_ ?_)
      | (with_reducible refine LeO.bind ?_ (fun _ => ?_))
      | exact ih0 _ _ _ _
      | exact ih1 _ _ _ _ _
      | exact grids_order.mono _ _ _ _ _ _ _ _ _
      | exact LeO.none _
      | refine LeO.ite ?_ ?_
      | refine LeO.bind ?_ (fun _ => ?_)
    · intro y0 y1 y2 y3 y4
      unfold api_GrMatrix_85.l1
      repeat' first
      | (with_reducible exact ih0 _ _ _ _)
      | (with_reducible exact ih1 _ _ _ _ _)
      | (with_reducible exact grids_order.mono _ _ _ _ _ _ _ _ _)
      | (with_reducible exact LeO.refl _)
      | (with_reducible exact LeO.none _)
      | (with_reducible refine LeO.ite ?_ ?_)
      | (with_reducible refine LeO.bind ?_ (fun _ => ?_))
      | exact ih0 _ _ _ _
      | exact ih1 _ _ _ _ _
      | exact grids_order.mono _ _ _ _ _ _ _ _ _
      | exact LeO.none _
      | refine LeO.ite ?_ ?_
      | refine LeO.bind ?_ (fun _ => ?_)
theorem api_GrMatrix_85.mono : ∀ a0 a1 a2 k, LeO (api_GrMatrix_85.f k a0 a1 a2) (api_GrMatrix_85.f (k + 1) a0 a1 a2) := by
  intro a0 a1 a2 k
  obtain ⟨ih0, ih1⟩ := api_GrMatrix_85.mono_l k
  unfold api_GrMatrix_85.f
  repeat' first
      | (with_reducible exact ih0 _ _ _ _)
      | (with_reducible exact ih1 _ _ _ _ _)
      | (with_reducible exact grids_order.mono _ _ _ _ _ _ _ _ _)
      | (with_reducible exact LeO.refl _)
      | (with_reducible exact LeO.none _)
      | (with_reducible refine LeO.ite ?_ ?_)
      | (with_reducible refine LeO.bind ?_ (fun _ => ?_))
      | exact ih0 _ _ _ _
      | exact ih1 _ _ _ _ _
      | exact grids_order.mono _ _ _ _ _ _ _ _ _
      | exact LeO.none _
      | refine LeO.ite ?_ ?_
      | refine LeO.bind ?_ (fun _ => ?_)
def api_GrMatrix_85.T4 : Bool × List (List Nat × List Nat) := (true, [([], []), ([], []), ([0, 1], [0, 1]), ([2], [2]), ([3], [3]), ([3], [3]), ([3], [3]), ([5, 6, 3], [3, 5, 6]), ([7, 3], [3, 7]), ([3], [3]), ([3], [3]), ([10, 3], [3, 10]), ([9, 11, 3], [3, 9, 11]), ([12, 3], [3, 12]), ([4, 8, 13, 3, 3], [3, 4, 8, 13]), ([14, 3], [3, 14]), ([3, 15], [3, 15])])
def api_GrMatrix_85.B4 : List Nat := [0, 0, 3, 7, 15, 15, 15, 111, 239, 15, 15, 1039, 3599, 7695, 16383, 32767, 65535]
theorem api_GrMatrix_85.tab4 : rtab .any (opsOf Try.f85 4) = api_GrMatrix_85.T4 := by kernel_rfl
theorem api_GrMatrix_85.bits4 : waitsOk api_GrMatrix_85.T4.2 api_GrMatrix_85.B4 = true := by kernel_rfl
def api_GrMatrix_85.T6 : Bool × List (List Nat × List Nat) := (true, [([], []), ([], []), ([], []), ([], []), ([3], [3]), ([], []), ([], []), ([6], [6]), ([5, 7], [5, 7]), ([8], [8]), ([], []), ([], []), ([10, 11], [10, 11]), ([12], [12]), ([0, 1, 0, 1, 5, 6, 7, 8, 9, 13], [0, 1]), ([14, 9, 0, 1, 5, 6, 7, 8, 9, 13], [9, 14]), ([2, 4, 0, 1, 2, 3, 4, 5, 6, 7, 8, 9, 10, 11, 12, 13, 14, 15], [2, 4]), ([16, 13, 15, 0, 1, 2, 3, 4, 5, 6, 7, 8, 9, 10, 11, 12, 13, 14, 15], [13, 16])])
def api_GrMatrix_85.B6 : List Nat := [0, 0, 0, 0, 8, 0, 0, 64, 224, 480, 0, 0, 3072, 7168, 16355, 32739, 65535, 131071]
theorem api_GrMatrix_85.tab6 : rtab .any (opsOf Try.f85 6) = api_GrMatrix_85.T6 := by kernel_rfl
theorem api_GrMatrix_85.bits6 : waitsOk api_GrMatrix_85.T6.2 api_GrMatrix_85.B6 = true := by kernel_rfl
set_option maxHeartbeats 8000000 in
set_option maxRecDepth 100000 in
theorem api_GrMatrix_85.calls (k : Nat) (P0_ : Nat → Prop) (u9000_ : Value) (l0 : List (S25)) (a1 : Int) (a2 : Int)  (r : List (S25)) (w0 w : World) (hB : Below w0.heap.size w0 w) (ho0 : Kd.R k25 25 w w0.heap.size P0_ u9000_ l0) (h : api_GrMatrix_85.f k l0 a1 a2 = some r) :
    Calls Try.prog 85 #[u9000_, .int .i64 a1, .int .i64 a2, .func (.func 42) #[] #[]] w fun e w' => e = .returned (.tuple #[]) ∧ Kd.R k25 25 w' w0.heap.size (fun k_ => (P0_ k_ ∨ w.heap.size ≤ k_)) u9000_ r ∧ Below w0.heap.size w0 w' ∧ Kept w w' (fun k_ => P0_ k_) := by
  have hu25 := Try.underlying25
  have HO0 := Aside0.mk (show Kd.R k25 25 w w0.heap.size (fun k_ => (P0_ k_ ∨ w.heap.size ≤ k_)) u9000_ l0 from Kd.R_mono ho0 (fun k_ hk => (.inl hk)))
  have HK := Aside0.mk (Kept.refl w (fun k_ => P0_ k_))
  have HW0 := Aside0.mk hB.size
  have HB := Aside0.mk hB
  clear hB
  have H : ((some (wrap64 (a1 + 1))).bind fun z491 => (api_GrMatrix_85.l0 k l0 a1 a2 z491)) = some r := h
  clear h
  replace H := Option.bind_eq_some_iff.mp H
  obtain ⟨z491, E50, H⟩ := H
  replace H : (api_GrMatrix_85.l0 k l0 a1 a2 z491) = some r := H
  replace E50 := Option.some.inj E50
  have E5w : (IntKind.i64.wrap (a1 + 1)) = z491 := (i64_w _).trans E50
  have H' := Aside0.mk H
  clear H
  go_enter Try.func85, Try.ntmps85
  go_wp2
  go_loopg [8] k (fun kq v8 w' => ∃ (x0_1 : List (S25)) (x8_1 : Int), v8 = .int .i64 x8_1 ∧ Aside0 (api_GrMatrix_85.l0 kq x0_1 a1 a2 x8_1 = some r) ∧ Aside0 (kq ≤ k) ∧ Aside0 (Kd.R k25 25 w' w0.heap.size (fun k_ => (P0_ k_ ∨ w.heap.size ≤ k_)) u9000_ x0_1) ∧ Aside0 (Kept w w' (fun k_ => P0_ k_)) ∧ Aside0 (Below w0.heap.size w0 w'))
  case atStart => exact ⟨(l0), (z491), (by first | rfl | (simp; done) | (simp [*]; done)), H', ⟨Nat.le_refl _⟩, ⟨by (with_reducible repeat (first | apply Kd.R_alloc | apply Kd.R_drewN | apply Kd.R_drew)); exact HO0.out⟩, ⟨by repeat (first | (with_reducible first | exact HK.out | apply Kept.alloc | apply Kept.drewN | apply Kept.drew) | exact HK.out)⟩, ⟨bnow HB⟩⟩
  case round =>
    clear H'
    try clear p2
    obtain ⟨x0_1, x8_1, rfl, HA, HK1, HO_0, HK, HB⟩ := hrel
    cases gk with
    | zero => exact absurd HA.out (by simp [api_GrMatrix_85.l0])
    | succ k1 =>
      have H := HA.out
      clear HA
      simp only [api_GrMatrix_85.l0] at H
      by_cases c6 : x8_1 < a2
      · rw [if_pos c6] at H
        have c6b0 : decide (x8_1 < a2) = true := decide_eq_true c6
        clear c6
        have H' := Aside0.mk H
        clear H
        go_wp2
        go_loopg [9] k1 (fun kq v9 w' => ∃ (x0_2 : List (S25)) (x9_2 : Int), v9 = .int .i64 x9_2 ∧ Aside0 (api_GrMatrix_85.l1 kq x0_2 a1 a2 x8_1 x9_2 = some r) ∧ Aside0 (kq ≤ k1) ∧ Aside0 (Kd.R k25 25 w' w0.heap.size (fun k_ => (P0_ k_ ∨ w.heap.size ≤ k_)) u9000_ x0_2) ∧ Aside0 (Kept w w' (fun k_ => P0_ k_)) ∧ Aside0 (Below w0.heap.size w0 w'))
        case atStart => exact ⟨(x0_1), (x8_1), (by first | rfl | (simp; done) | (simp [*]; done)), H', ⟨Nat.le_refl _⟩, ⟨by (with_reducible repeat (first | apply Kd.R_alloc | apply Kd.R_drewN | apply Kd.R_drew)); exact HO_0.out⟩, ⟨by repeat (first | (with_reducible first | exact HK.out | apply Kept.alloc | apply Kept.drewN | apply Kept.drew) | exact HK.out)⟩, ⟨bnow HB⟩⟩
        case round =>
          clear H'
          try clear p2; try clear c6; try clear c6b0; try clear p6; try clear p2
          obtain ⟨x0_2, x9_2, rfl, HA, HK2, HO_0, HK, HB⟩ := hrel
          cases gk with
          | zero => exact absurd HA.out (by simp [api_GrMatrix_85.l1])
          | succ k2 =>
            have H := HA.out
            clear HA
            simp only [api_GrMatrix_85.l1] at H
            by_cases c7 : x9_2 > a1
            · rw [if_pos c7] at H
              have c7b0 : decide (a1 < x9_2) = true := decide_eq_true c7
              clear c7
              by_cases c8 : 0 ≤ x9_2
              · rw [if_pos c8] at H
                have c8b0 : decide (0 ≤ x9_2) = true := decide_eq_true c8
                clear c8
                by_cases c9 : x9_2 < (x0_2.length : Int)
                · rw [if_pos c9] at H
                  have c9b0 : decide (x9_2 < (x0_2.length : Int)) = true := decide_eq_true c9
                  clear c9
                  replace H := Option.bind_eq_some_iff.mp H
                  obtain ⟨z493, E100, H⟩ := H
                  replace H : (if 0 ≤ z493 then (if z493 < (x0_2.length : Int) then ((grids_order.f k2 ((rd_T25 x0_2 x9_2).f0) ((rd_T25 x0_2 x9_2).f1) ((rd_T25 x0_2 x9_2).f2) ((rd_T25 x0_2 x9_2).f3) ((rd_T25 x0_2 z493).f0) ((rd_T25 x0_2 z493).f1) ((rd_T25 x0_2 z493).f2) ((rd_T25 x0_2 z493).f3)).bind fun t495 => (if t495 < 0 then (api_GrMatrix_85.l1 k2 ((x0_2.set (x9_2 : Int).toNat (⟨(rd_T25 x0_2 z493).f0, (rd_T25 x0_2 z493).f1, (rd_T25 x0_2 z493).f2, (rd_T25 x0_2 z493).f3⟩ : S25)).set (z493 : Int).toNat (⟨(rd_T25 x0_2 x9_2).f0, (rd_T25 x0_2 x9_2).f1, (rd_T25 x0_2 x9_2).f2, (rd_T25 x0_2 x9_2).f3⟩ : S25)) a1 a2 x8_1 z493) else ((some (wrap64 (x8_1 + 1))).bind fun z500 => (api_GrMatrix_85.l0 k2 x0_2 a1 a2 z500)))) else (none)) else (none)) = some r := H
                  replace E100 := Option.some.inj E100
                  have E10w : (IntKind.i64.wrap (x9_2 - 1)) = z493 := (i64_w _).trans E100
                  by_cases c11 : 0 ≤ z493
                  · rw [if_pos c11] at H
                    have c11b0 : decide (0 ≤ z493) = true := decide_eq_true c11
                    clear c11
                    by_cases c12 : z493 < (x0_2.length : Int)
                    · rw [if_pos c12] at H
                      have c12b0 : decide (z493 < (x0_2.length : Int)) = true := decide_eq_true c12
                      clear c12
                      replace H := Option.bind_eq_some_iff.mp H
                      obtain ⟨t495, A130, H⟩ := H
                      replace H : (if t495 < 0 then (api_GrMatrix_85.l1 k2 ((x0_2.set (x9_2 : Int).toNat (⟨(rd_T25 x0_2 z493).f0, (rd_T25 x0_2 z493).f1, (rd_T25 x0_2 z493).f2, (rd_T25 x0_2 z493).f3⟩ : S25)).set (z493 : Int).toNat (⟨(rd_T25 x0_2 x9_2).f0, (rd_T25 x0_2 x9_2).f1, (rd_T25 x0_2 x9_2).f2, (rd_T25 x0_2 x9_2).f3⟩ : S25)) a1 a2 x8_1 z493) else ((some (wrap64 (x8_1 + 1))).bind fun z500 => (api_GrMatrix_85.l0 k2 x0_2 a1 a2 z500))) = some r := H
                      have A13 := Aside0.mk A130
                      clear A130
                      by_cases c14 : t495 < 0
                      · rw [if_pos c14] at H
                        have c14b0 : decide (t495 < 0) = true := decide_eq_true c14
                        clear c14
                        obtain ⟨y498, hy498⟩ : ∃ y_ : List (S25), y_ = (x0_2.set (x9_2 : Int).toNat (⟨(rd_T25 x0_2 z493).f0, (rd_T25 x0_2 z493).f1, (rd_T25 x0_2 z493).f2, (rd_T25 x0_2 z493).f3⟩ : S25)) := ⟨_, rfl⟩
                        replace H : (api_GrMatrix_85.l1 k2 (y498.set (z493 : Int).toNat (⟨(rd_T25 x0_2 x9_2).f0, (rd_T25 x0_2 x9_2).f1, (rd_T25 x0_2 x9_2).f2, (rd_T25 x0_2 x9_2).f3⟩ : S25)) a1 a2 x8_1 z493) = some r := by first | (rw [hy498]; with_reducible exact H) | (have H2_ := (Option.bind_some _ _).symm.trans H; rw [hy498]; with_reducible exact H2_) | (have H2_ := (Option.bind_some _ _).symm.trans H; with_reducible exact H2_) | with_reducible exact H | (rw [hy498]; exact H) | exact H
                        have Ny498 := Aside0.mk hy498
                        clear hy498
                        obtain ⟨y499, hy499⟩ : ∃ y_ : List (S25), y_ = (y498.set (z493 : Int).toNat (⟨(rd_T25 x0_2 x9_2).f0, (rd_T25 x0_2 x9_2).f1, (rd_T25 x0_2 x9_2).f2, (rd_T25 x0_2 x9_2).f3⟩ : S25)) := ⟨_, rfl⟩
                        replace H : (api_GrMatrix_85.l1 k2 y499 a1 a2 x8_1 z493) = some r := by first | (rw [hy499]; with_reducible exact H) | (have H2_ := (Option.bind_some _ _).symm.trans H; rw [hy499]; with_reducible exact H2_) | (have H2_ := (Option.bind_some _ _).symm.trans H; with_reducible exact H2_) | with_reducible exact H | (rw [hy499]; exact H) | exact H
                        have Ny499 := Aside0.mk hy499
                        clear hy499
                        have H' := Aside0.mk H
                        clear H
                        (try have hpz493 : z493.toNat < x9_2.toNat := wrap_pred E100 (of_decide_eq_true (by assumption)) (of_decide_eq_true (by assumption)))
                        try go_wp2
                        replace HO_0 := Aside0.mk (Kd.R_drew HO_0.out)
                        replace HK := Aside0.mk (Kept.drew HK.out)
                        replace HB := bdn HB
                        obtain ⟨Ao18, co18, eo18⟩ := Kd.R_slice HO_0.out
                        (first | subst eo18 | (injection eo18 with f1_ f2_ f3_; have f4_ := f1_.symm; have f5_ := f3_.symm; clear f1_ f2_ f3_; subst f4_; subst f5_))
                        have p492 : 0 ≤ (x9_2 : Int) := of_decide_eq_true (by first | (with_reducible assumption) | assumption)
                        have q492 : x9_2 < (x0_2.length : Int) := of_decide_eq_true (by first | (with_reducible assumption) | assumption)
                        obtain ⟨ad492, e492, hx492_0, hx492_1, hx492_2, hx492_3⟩ := at_T25 (Kd.R_reads' HO_0.out).2.2 x9_2 p492 q492
                        cases e492
                        replace p492 := eq_true p492
                        replace q492 := eq_true q492
                        have p494 : 0 ≤ (z493 : Int) := of_decide_eq_true (by first | (with_reducible assumption) | assumption)
                        have q494 : z493 < (x0_2.length : Int) := of_decide_eq_true (by first | (with_reducible assumption) | assumption)
                        obtain ⟨ad494, e494, hx494_0, hx494_1, hx494_2, hx494_3⟩ := at_T25 (Kd.R_reads' HO_0.out).2.2 z493 p494 q494
                        obtain rfl : ad492 = ad494 := (by injection e494)
                        replace p494 := eq_true p494
                        replace q494 := eq_true q494
                        refine start_ (n := 17) (S := fun w' => w'.cell? (ad492.add ((x9_2).toNat * 4)) = some (.int .i64 ((rd_T25 x0_2 x9_2).f0)) ∧ w'.cell? ⟨(ad492.add ((x9_2).toNat * 4)).block, (ad492.add ((x9_2).toNat * 4)).off + 1, none⟩ = some (.int .i64 ((rd_T25 x0_2 x9_2).f1)) ∧ w'.cell? ⟨(ad492.add ((x9_2).toNat * 4)).block, (ad492.add ((x9_2).toNat * 4)).off + 2, none⟩ = some (.int .i64 ((rd_T25 x0_2 x9_2).f2)) ∧ w'.cell? ⟨(ad492.add ((x9_2).toNat * 4)).block, (ad492.add ((x9_2).toNat * 4)).off + 3, none⟩ = some (.int .i64 ((rd_T25 x0_2 x9_2).f3)) ∧ w'.cell? (ad492.add ((z493).toNat * 4)) = some (.int .i64 ((rd_T25 x0_2 z493).f0)) ∧ w'.cell? ⟨(ad492.add ((z493).toNat * 4)).block, (ad492.add ((z493).toNat * 4)).off + 1, none⟩ = some (.int .i64 ((rd_T25 x0_2 z493).f1)) ∧ w'.cell? ⟨(ad492.add ((z493).toNat * 4)).block, (ad492.add ((z493).toNat * 4)).off + 2, none⟩ = some (.int .i64 ((rd_T25 x0_2 z493).f2)) ∧ w'.cell? ⟨(ad492.add ((z493).toNat * 4)).block, (ad492.add ((z493).toNat * 4)).off + 3, none⟩ = some (.int .i64 ((rd_T25 x0_2 z493).f3))) (ds := []) #[false, false, false, false, false, false, false, false, false, false, false, false, false, false, false, false, false] (by kernel_rfl) rfl rfl ⟨hx492_0, hx492_1, hx492_2, hx492_3, hx494_0, hx494_1, hx494_2, hx494_3⟩ (fun hHeld => ?_); refine with_tabW api_GrMatrix_85.tab4 api_GrMatrix_85.bits4 (fun HT_ HW_ => ?_)
                        generalize wr.drew = w17 at HO_0 HK HB hx492_0 hx492_1 hx492_2 hx492_3 hx494_0 hx494_1 hx494_2 hx494_3 hHeld ⊢
                        refine pz 0 18 HT_ ?_
                        refine pz 1 19 HT_ ?_
                        refine pz 2 20 HT_ ?_
                        refine pz 3 21 HT_ ?_
                        refine pz 4 22 HT_ ?_
                        refine pz 5 23 HT_ ?_
                        refine pz 6 24 HT_ ?_
                        refine pz 7 25 HT_ ?_
                        refine pz 9 27 HT_ ?_
                        refine pz 10 28 HT_ ?_
                        refine pz 11 29 HT_ ?_
                        refine pz 12 30 HT_ ?_
                        refine tz 8 26 HT_ HW_ hHeld ?_
                        refine tz 13 31 HT_ HW_ hHeld ?_
                        refine one_ (i := 14) (N := some 32) #[true, true, true, true, true, true, true, true, true, true, true, true, true, true, true, false, false] rfl rfl (one_of HT_.out (by kernel_rfl)) (by decide) (fun K hK => ?_)
                        refine goesV_ Try.func42 (by kernel_rfl) rfl #[.agg #[.int .i64 ((rd_T25 x0_2 x9_2).f0), .int .i64 ((rd_T25 x0_2 x9_2).f1), .int .i64 ((rd_T25 x0_2 x9_2).f2), .int .i64 ((rd_T25 x0_2 x9_2).f3)], .agg #[.int .i64 ((rd_T25 x0_2 z493).f0), .int .i64 ((rd_T25 x0_2 z493).f1), .int .i64 ((rd_T25 x0_2 z493).f2), .int .i64 ((rd_T25 x0_2 z493).f3)]] (by rfl) rfl rfl (by rfl) am ?_
                        with_reducible refine (grids_order.calls k2 ((rd_T25 x0_2 x9_2).f0) ((rd_T25 x0_2 x9_2).f1) ((rd_T25 x0_2 x9_2).f2) ((rd_T25 x0_2 x9_2).f3) ((rd_T25 x0_2 z493).f0) ((rd_T25 x0_2 z493).f1) ((rd_T25 x0_2 z493).f2) ((rd_T25 x0_2 z493).f3) t495 _ A13.out).mono ?_
                        rintro e w19 ⟨rfl, hb⟩
                        have HS0_ := (hb.cell (World.block_lt_of_cell? _ _ (hHeld.1))).trans (hHeld.1)
                        have HS1_ := (hb.cell (World.block_lt_of_cell? _ _ (hHeld.2.1))).trans (hHeld.2.1)
                        have HS2_ := (hb.cell (World.block_lt_of_cell? _ _ (hHeld.2.2.1))).trans (hHeld.2.2.1)
                        have HS3_ := (hb.cell (World.block_lt_of_cell? _ _ (hHeld.2.2.2.1))).trans (hHeld.2.2.2.1)
                        have HS4_ := (hb.cell (World.block_lt_of_cell? _ _ (hHeld.2.2.2.2.1))).trans (hHeld.2.2.2.2.1)
                        have HS5_ := (hb.cell (World.block_lt_of_cell? _ _ (hHeld.2.2.2.2.2.1))).trans (hHeld.2.2.2.2.2.1)
                        have HS6_ := (hb.cell (World.block_lt_of_cell? _ _ (hHeld.2.2.2.2.2.2.1))).trans (hHeld.2.2.2.2.2.2.1)
                        have HS7_ := (hb.cell (World.block_lt_of_cell? _ _ (hHeld.2.2.2.2.2.2.2))).trans (hHeld.2.2.2.2.2.2.2)
                        refine ⟨_, rfl, ?_⟩
                        have n0_ := Aside0.mk (Kd.R_below (by (with_reducible repeat (first | apply Kd.R_alloc | apply Kd.R_drewN | apply Kd.R_drew)); exact HO_0.out) hb)
                        have n1_ := Aside0.mk (Kept.below (S := (fun k_ => P0_ k_)) (by repeat (first | (with_reducible first | exact HK.out | apply Kept.alloc | apply Kept.drewN | apply Kept.drew) | exact HK.out)) hb)
                        have n2_ := bst HB hb
                        clear HO_0
                        clear HK
                        clear HB
                        have HO_0 := n0_
                        have HK := n1_
                        have HB := n2_
                        clear n0_ n1_ n2_
                        (try clear hb)
                        (try clear hb2)
                        (try clear hk)
                        (try clear hi)
                        refine hK.out _ _ ⟨HS0_, HS1_, HS2_, HS3_, HS4_, HS5_, HS6_, HS7_⟩ (fun hHeld => ?_)
                        clear hK K
                        refine norm_ (a' := ?_) ?_ ?_
                        rotate_left
                        · show Act.put _ (some 32) _ = _
                          simp only [Act.put, List.setIfInBounds_toArray, List.set_cons_zero, List.set_cons_succ, i64_w, i32_w]
                          rfl
                        refine pz 15 33 HT_ ?_
                        refine pz 16 34 HT_ ?_
                        refine done_ (done_of HT_.out (by kernel_rfl)) ?_
                        try go_wp2
                        replace HO_0 := Aside0.mk (Kd.R_drew HO_0.out)
                        replace HK := Aside0.mk (Kept.drew HK.out)
                        replace HB := bdn HB
                        have p496 : 0 ≤ (z493 : Int) := of_decide_eq_true (by first | (with_reducible assumption) | assumption)
                        have q496 : z493 < (x0_2.length : Int) := of_decide_eq_true (by first | (with_reducible assumption) | assumption)
                        obtain ⟨ad496, e496, hx496_0, hx496_1, hx496_2, hx496_3⟩ := at_T25 (Kd.R_reads' HO_0.out).2.2 z493 p496 q496
                        obtain rfl : ad492 = ad496 := (by injection e496)
                        replace p496 := eq_true p496
                        replace q496 := eq_true q496
                        have p497 : 0 ≤ (x9_2 : Int) := of_decide_eq_true (by first | (with_reducible assumption) | assumption)
                        have q497 : x9_2 < (x0_2.length : Int) := of_decide_eq_true (by first | (with_reducible assumption) | assumption)
                        obtain ⟨ad497, e497, hx497_0, hx497_1, hx497_2, hx497_3⟩ := at_T25 (Kd.R_reads' HO_0.out).2.2 x9_2 p497 q497
                        obtain rfl : ad492 = ad497 := (by injection e497)
                        replace p497 := eq_true p497
                        replace q497 := eq_true q497
                        have p15 : 0 ≤ (x9_2 : Int) := of_decide_eq_true (by first | (with_reducible assumption) | assumption)
                        have q15 : (x9_2 : Int) < ((x0_2.length : Int) : Int) := of_decide_eq_true (by first | (with_reducible assumption) | assumption)
                        obtain ⟨go15, co15, eo15, gb15, gl15, cl15, HG15⟩ := Kd.R_form HO_0.out (by omega)
                        (first | cases eo15 | (injection eo15 with ea_ en_ ec_; (first | subst ea_ | (injection ea_ with ea_; subst ea_)); subst ec_; clear en_))
                        have GB15 := Aside0.mk gb15
                        have GG15 := Aside0.mk HG15
                        clear gb15 gl15 HG15
                        have HMgo15 := Aside0.mk (show (P0_ go15 ∨ w.heap.size ≤ go15) from (HO_0.out.1 _ rfl))
                        (first | simp only [add_plain] at hx492_0 | skip)
                        (first | simp only [add_plain] at hx492_1 | skip)
                        (first | simp only [add_plain] at hx492_2 | skip)
                        (first | simp only [add_plain] at hx492_3 | skip)
                        (first | simp only [add_plain] at hx494_0 | skip)
                        (first | simp only [add_plain] at hx494_1 | skip)
                        (first | simp only [add_plain] at hx494_2 | skip)
                        (first | simp only [add_plain] at hx494_3 | skip)
                        (first | simp only [add_plain] at hx496_0 | skip)
                        (first | simp only [add_plain] at hx496_1 | skip)
                        (first | simp only [add_plain] at hx496_2 | skip)
                        (first | simp only [add_plain] at hx496_3 | skip)
                        (first | simp only [add_plain] at hx497_0 | skip)
                        (first | simp only [add_plain] at hx497_1 | skip)
                        (first | simp only [add_plain] at hx497_2 | skip)
                        (first | simp only [add_plain] at hx497_3 | skip)
                        obtain ⟨ce15, hcl15, hM15, hcc15, hfr15⟩ := Kd.R_elem HO_0.out z25 (x9_2 : Int) p15 q15
                        obtain rfl := k25_openM hM15
                        have hx15_0 : World.cell? _ ⟨go15, (x9_2 : Int).toNat * 4, none⟩ = some (.int .i64 ((rd_T25 x0_2 x9_2).f0)) := hcc15 0 _ rfl
                        have hx15_1 : World.cell? _ ⟨go15, (x9_2 : Int).toNat * 4 + 1, none⟩ = some (.int .i64 ((rd_T25 x0_2 x9_2).f1)) := hcc15 1 _ rfl
                        have hx15_2 : World.cell? _ ⟨go15, (x9_2 : Int).toNat * 4 + 2, none⟩ = some (.int .i64 ((rd_T25 x0_2 x9_2).f2)) := hcc15 2 _ rfl
                        have hx15_3 : World.cell? _ ⟨go15, (x9_2 : Int).toNat * 4 + 3, none⟩ = some (.int .i64 ((rd_T25 x0_2 x9_2).f3)) := hcc15 3 _ rfl
                        have hf15_0 : World.frozen? _ ⟨go15, (x9_2 : Int).toNat * 4, none⟩ = false := hfr15 0
                        have hf15_1 : World.frozen? _ ⟨go15, (x9_2 : Int).toNat * 4 + 1, none⟩ = false := hfr15 1
                        have hf15_2 : World.frozen? _ ⟨go15, (x9_2 : Int).toNat * 4 + 2, none⟩ = false := hfr15 2
                        have hf15_3 : World.frozen? _ ⟨go15, (x9_2 : Int).toNat * 4 + 3, none⟩ = false := hfr15 3
                        (try rw [World.frozen?_setCells] at hf15_0)
                        (try rw [World.frozen?_setCells] at hf15_1)
                        (try rw [World.frozen?_setCells] at hf15_2)
                        (try rw [World.frozen?_setCells] at hf15_3)
                        clear hcl15 hcc15 hfr15 hM15
                        replace p15 := eq_true p15
                        replace q15 := eq_true q15
                        obtain ⟨ce21, hcl21, hM21, hcc21, hfr21⟩ := Kd.R_elem HO_0.out z25 (x9_2 : Int) (of_decide_eq_true (by first | (with_reducible assumption) | assumption)) (by have h_ : (x9_2 : Int) < ((x0_2.length : Int) : Int) := of_decide_eq_true (by first | (with_reducible assumption) | assumption); first | exact h_ | (have e_ := (Kd.R_reads' HO_0.out).1; omega) | simpa using h_)
                        obtain rfl := k25_openM hM21
                        have HP21 := (Kd.R_seg HO_0.out (x9_2 : Int) (of_decide_eq_true (by first | (with_reducible assumption) | assumption)) (by have h_ : (x9_2 : Int) < ((x0_2.length : Int) : Int) := of_decide_eq_true (by first | (with_reducible assumption) | assumption); first | exact h_ | (have e_ := (Kd.R_reads' HO_0.out).1; omega) | simpa using h_) (seg := [.int .i64 ((rd_T25 x0_2 z493).f0), .int .i64 ((rd_T25 x0_2 z493).f1), .int .i64 ((rd_T25 x0_2 z493).f2), .int .i64 ((rd_T25 x0_2 z493).f3)]) (j := 0) hcl21 hcc21 (show 4 ≤ 4 from by decide) (x' := (⟨(rd_T25 x0_2 z493).f0, (rd_T25 x0_2 z493).f1, (rd_T25 x0_2 z493).f2, (rd_T25 x0_2 z493).f3⟩ : S25)) (k25_mkM _ _ _ (⟨(rd_T25 x0_2 z493).f0, (rd_T25 x0_2 z493).f1, (rd_T25 x0_2 z493).f2, (rd_T25 x0_2 z493).f3⟩ : S25) ) (fun _ hk => hk)).1
                        rw [← Ny498.out] at HP21
                        have HQ21 := Aside0.mk HP21
                        clear hcl21 hcc21 hfr21 hM21 HP21
                        have p16 : 0 ≤ (z493 : Int) := of_decide_eq_true (by first | (with_reducible assumption) | assumption)
                        have q16 : (z493 : Int) < ((x0_2.length : Int) : Int) := of_decide_eq_true (by first | (with_reducible assumption) | assumption)
                        obtain ⟨ce16, hcl16, hM16, hcc16, hfr16⟩ := Kd.R_elem HQ21.out z25 (z493 : Int) p16 q16
                        obtain rfl := k25_openM hM16
                        have hx16_0 : World.cell? _ ⟨go15, (z493 : Int).toNat * 4, none⟩ = some (.int .i64 ((rd_T25 y498 z493).f0)) := hcc16 0 _ rfl
                        have hx16_1 : World.cell? _ ⟨go15, (z493 : Int).toNat * 4 + 1, none⟩ = some (.int .i64 ((rd_T25 y498 z493).f1)) := hcc16 1 _ rfl
                        have hx16_2 : World.cell? _ ⟨go15, (z493 : Int).toNat * 4 + 2, none⟩ = some (.int .i64 ((rd_T25 y498 z493).f2)) := hcc16 2 _ rfl
                        have hx16_3 : World.cell? _ ⟨go15, (z493 : Int).toNat * 4 + 3, none⟩ = some (.int .i64 ((rd_T25 y498 z493).f3)) := hcc16 3 _ rfl
                        have hf16_0 : World.frozen? _ ⟨go15, (z493 : Int).toNat * 4, none⟩ = false := hfr16 0
                        have hf16_1 : World.frozen? _ ⟨go15, (z493 : Int).toNat * 4 + 1, none⟩ = false := hfr16 1
                        have hf16_2 : World.frozen? _ ⟨go15, (z493 : Int).toNat * 4 + 2, none⟩ = false := hfr16 2
                        have hf16_3 : World.frozen? _ ⟨go15, (z493 : Int).toNat * 4 + 3, none⟩ = false := hfr16 3
                        (try rw [World.frozen?_setCells] at hf16_0)
                        (try rw [World.frozen?_setCells] at hf16_1)
                        (try rw [World.frozen?_setCells] at hf16_2)
                        (try rw [World.frozen?_setCells] at hf16_3)
                        clear hcl16 hcc16 hfr16 hM16
                        replace p16 := eq_true p16
                        replace q16 := eq_true q16
                        obtain ⟨ce22, hcl22, hM22, hcc22, hfr22⟩ := Kd.R_elem HQ21.out z25 (z493 : Int) (of_decide_eq_true (by first | (with_reducible assumption) | assumption)) (by have h_ : (z493 : Int) < ((x0_2.length : Int) : Int) := of_decide_eq_true (by first | (with_reducible assumption) | assumption); first | exact h_ | (have e_ := (Kd.R_reads' HO_0.out).1; omega) | simpa using h_)
                        obtain rfl := k25_openM hM22
                        have HP22 := (Kd.R_seg HQ21.out (z493 : Int) (of_decide_eq_true (by first | (with_reducible assumption) | assumption)) (by have h_ : (z493 : Int) < ((x0_2.length : Int) : Int) := of_decide_eq_true (by first | (with_reducible assumption) | assumption); first | exact h_ | (have e_ := (Kd.R_reads' HO_0.out).1; omega) | simpa using h_) (seg := [.int .i64 ((rd_T25 x0_2 x9_2).f0), .int .i64 ((rd_T25 x0_2 x9_2).f1), .int .i64 ((rd_T25 x0_2 x9_2).f2), .int .i64 ((rd_T25 x0_2 x9_2).f3)]) (j := 0) hcl22 hcc22 (show 4 ≤ 4 from by decide) (x' := (⟨(rd_T25 x0_2 x9_2).f0, (rd_T25 x0_2 x9_2).f1, (rd_T25 x0_2 x9_2).f2, (rd_T25 x0_2 x9_2).f3⟩ : S25)) (k25_mkM _ _ _ (⟨(rd_T25 x0_2 x9_2).f0, (rd_T25 x0_2 x9_2).f1, (rd_T25 x0_2 x9_2).f2, (rd_T25 x0_2 x9_2).f3⟩ : S25) ) (fun _ hk => hk)).1
                        rw [← Ny499.out] at HP22
                        have HQ22 := Aside0.mk HP22
                        clear hcl22 hcc22 hfr22 hM22 HP22
                        refine start_ (n := 18) (S := fun w' => w'.cell? ⟨go15, ((z493).toNat * 4), none⟩ = some (.int .i64 ((rd_T25 x0_2 z493).f0)) ∧ w'.cell? ⟨go15, ((z493).toNat * 4) + 1, none⟩ = some (.int .i64 ((rd_T25 x0_2 z493).f1)) ∧ w'.cell? ⟨go15, ((z493).toNat * 4) + 2, none⟩ = some (.int .i64 ((rd_T25 x0_2 z493).f2)) ∧ w'.cell? ⟨go15, ((z493).toNat * 4) + 3, none⟩ = some (.int .i64 ((rd_T25 x0_2 z493).f3)) ∧ w'.cell? ⟨go15, ((x9_2).toNat * 4), none⟩ = some (.int .i64 ((rd_T25 x0_2 x9_2).f0)) ∧ w'.cell? ⟨go15, ((x9_2).toNat * 4) + 1, none⟩ = some (.int .i64 ((rd_T25 x0_2 x9_2).f1)) ∧ w'.cell? ⟨go15, ((x9_2).toNat * 4) + 2, none⟩ = some (.int .i64 ((rd_T25 x0_2 x9_2).f2)) ∧ w'.cell? ⟨go15, ((x9_2).toNat * 4) + 3, none⟩ = some (.int .i64 ((rd_T25 x0_2 x9_2).f3))) (ds := [15, 17]) #[false, false, false, false, false, false, false, false, false, false, false, false, false, false, false, false, false, false] (by kernel_rfl) rfl rfl ⟨hx496_0, hx496_1, hx496_2, hx496_3, hx497_0, hx497_1, hx497_2, hx497_3⟩ (fun hHeld => ?_); refine with_tabW api_GrMatrix_85.tab6 api_GrMatrix_85.bits6 (fun HT_ HW_ => ?_)
                        generalize w19.drew = w20 at HO_0 HK HB GG15 HQ21 HQ22 hf15_0 hf15_1 hf15_2 hf15_3 hf16_0 hf16_1 hf16_2 hf16_3 hx15_0 hx15_1 hx15_2 hx15_3 hx16_0 hx16_1 hx16_2 hx16_3 hx492_0 hx492_1 hx492_2 hx492_3 hx494_0 hx494_1 hx494_2 hx494_3 hx496_0 hx496_1 hx496_2 hx496_3 hx497_0 hx497_1 hx497_2 hx497_3 hHeld ⊢
                        refine pz 0 37 HT_ ?_
                        refine pz 1 38 HT_ ?_
                        refine pz 2 39 HT_ ?_
                        refine pz 3 40 HT_ ?_
                        refine pz 4 41 HT_ ?_
                        refine pz 5 42 HT_ ?_
                        refine pz 6 43 HT_ ?_
                        refine pz 7 44 HT_ ?_
                        refine pz 8 45 HT_ ?_
                        refine pz 10 47 HT_ ?_
                        refine pz 11 48 HT_ ?_
                        refine pz 12 49 HT_ ?_
                        refine tz 9 46 HT_ HW_ hHeld ?_
                        refine tz 13 50 HT_ HW_ hHeld ?_
                        refine pz 14 51 HT_ ?_
                        refine last_ (i := 15) (N := none) #[true, true, true, true, true, true, true, true, true, true, true, true, true, true, true, true, false, false] rfl rfl (one_of HT_.out (by kernel_rfl)) (by decide) (fun K hK => ?_)
                        refine skip_ (w1 := ?_) (by rfl) rfl ?_ ?_
                        rotate_left
                        · go_simp
                          rfl
                        refine hK.out _ _ ?_
                        clear hK K
                        refine pz 16 52 HT_ ?_
                        refine last_ (i := 17) (N := none) #[true, true, true, true, true, true, true, true, true, true, true, true, true, true, true, true, true, true] rfl rfl (one_of HT_.out (by kernel_rfl)) (by decide) (fun K hK => ?_)
                        refine skip_ (w1 := ?_) (by rfl) rfl ?_ ?_
                        rotate_left
                        · go_simp
                          rfl
                        refine hK.out _ _ ?_
                        clear hK K
                        refine done_ (done_of HT_.out (by kernel_rfl)) ?_
                        try go_wp2
                        go_roundg k2
                        case measure => have := HK1.out; have := HK2.out; omega
                        case rel => exact ⟨(y499), (z493), (by first | rfl | (simp; done) | (simp [*]; done)), H', ⟨by have := HK1.out; have := HK2.out; omega⟩, ⟨by (with_reducible repeat (first | apply Kd.R_alloc | apply Kd.R_drewN | apply Kd.R_drew)); exact HQ22.out⟩, ⟨by repeat (first | (with_reducible first | exact HK.out | apply Kept.alloc | apply Kept.drewN | apply Kept.drew | refine Kept.setCell ?_ HMgo15.out _ | refine Kept.setCell ?_ HMgo15.out _ | refine Kept.setCell ?_ HMgo15.out _ | refine Kept.setCell ?_ HMgo15.out _ | refine Kept.setCell ?_ HMgo15.out _ | refine Kept.setCell ?_ HMgo15.out _ | refine Kept.setCell ?_ HMgo15.out _ | refine Kept.setCell ?_ HMgo15.out _) | exact HK.out)⟩, ⟨by repeat (first | (with_reducible first | exact HB.out | apply below_alloc | apply pw_below_drewN | apply below_drew1 | refine below_set ?_ GB15.out | refine below_set ?_ GB15.out | refine below_set ?_ GB15.out | refine below_set ?_ GB15.out | refine below_set ?_ GB15.out | refine below_set ?_ GB15.out | refine below_set ?_ GB15.out | refine below_set ?_ GB15.out) | exact HB.out)⟩⟩
                      · rw [if_neg c14] at H
                        have c14b0 : decide (t495 < 0) = false := decide_eq_false c14
                        clear c14
                        replace H := Option.bind_eq_some_iff.mp H
                        obtain ⟨z500, E230, H⟩ := H
                        replace H : (api_GrMatrix_85.l0 k2 x0_2 a1 a2 z500) = some r := H
                        replace E230 := Option.some.inj E230
                        have E23w : (IntKind.i64.wrap (x8_1 + 1)) = z500 := (i64_w _).trans E230
                        have H' := Aside0.mk H
                        clear H
                        (try have hpz493 : z493.toNat < x9_2.toNat := wrap_pred E100 (of_decide_eq_true (by assumption)) (of_decide_eq_true (by assumption)))
                        try go_wp2
                        replace HO_0 := Aside0.mk (Kd.R_drew HO_0.out)
                        replace HK := Aside0.mk (Kept.drew HK.out)
                        replace HB := bdn HB
                        obtain ⟨Ao25, co25, eo25⟩ := Kd.R_slice HO_0.out
                        (first | subst eo25 | (injection eo25 with f1_ f2_ f3_; have f4_ := f1_.symm; have f5_ := f3_.symm; clear f1_ f2_ f3_; subst f4_; subst f5_))
                        have p492 : 0 ≤ (x9_2 : Int) := of_decide_eq_true (by first | (with_reducible assumption) | assumption)
                        have q492 : x9_2 < (x0_2.length : Int) := of_decide_eq_true (by first | (with_reducible assumption) | assumption)
                        obtain ⟨ad492, e492, hx492_0, hx492_1, hx492_2, hx492_3⟩ := at_T25 (Kd.R_reads' HO_0.out).2.2 x9_2 p492 q492
                        cases e492
                        replace p492 := eq_true p492
                        replace q492 := eq_true q492
                        have p494 : 0 ≤ (z493 : Int) := of_decide_eq_true (by first | (with_reducible assumption) | assumption)
                        have q494 : z493 < (x0_2.length : Int) := of_decide_eq_true (by first | (with_reducible assumption) | assumption)
                        obtain ⟨ad494, e494, hx494_0, hx494_1, hx494_2, hx494_3⟩ := at_T25 (Kd.R_reads' HO_0.out).2.2 z493 p494 q494
                        obtain rfl : ad492 = ad494 := (by injection e494)
                        replace p494 := eq_true p494
                        replace q494 := eq_true q494
                        refine start_ (n := 17) (S := fun w' => w'.cell? (ad492.add ((x9_2).toNat * 4)) = some (.int .i64 ((rd_T25 x0_2 x9_2).f0)) ∧ w'.cell? ⟨(ad492.add ((x9_2).toNat * 4)).block, (ad492.add ((x9_2).toNat * 4)).off + 1, none⟩ = some (.int .i64 ((rd_T25 x0_2 x9_2).f1)) ∧ w'.cell? ⟨(ad492.add ((x9_2).toNat * 4)).block, (ad492.add ((x9_2).toNat * 4)).off + 2, none⟩ = some (.int .i64 ((rd_T25 x0_2 x9_2).f2)) ∧ w'.cell? ⟨(ad492.add ((x9_2).toNat * 4)).block, (ad492.add ((x9_2).toNat * 4)).off + 3, none⟩ = some (.int .i64 ((rd_T25 x0_2 x9_2).f3)) ∧ w'.cell? (ad492.add ((z493).toNat * 4)) = some (.int .i64 ((rd_T25 x0_2 z493).f0)) ∧ w'.cell? ⟨(ad492.add ((z493).toNat * 4)).block, (ad492.add ((z493).toNat * 4)).off + 1, none⟩ = some (.int .i64 ((rd_T25 x0_2 z493).f1)) ∧ w'.cell? ⟨(ad492.add ((z493).toNat * 4)).block, (ad492.add ((z493).toNat * 4)).off + 2, none⟩ = some (.int .i64 ((rd_T25 x0_2 z493).f2)) ∧ w'.cell? ⟨(ad492.add ((z493).toNat * 4)).block, (ad492.add ((z493).toNat * 4)).off + 3, none⟩ = some (.int .i64 ((rd_T25 x0_2 z493).f3))) (ds := []) #[false, false, false, false, false, false, false, false, false, false, false, false, false, false, false, false, false] (by kernel_rfl) rfl rfl ⟨hx492_0, hx492_1, hx492_2, hx492_3, hx494_0, hx494_1, hx494_2, hx494_3⟩ (fun hHeld => ?_); refine with_tabW api_GrMatrix_85.tab4 api_GrMatrix_85.bits4 (fun HT_ HW_ => ?_)
                        generalize wr.drew = w24 at HO_0 HK HB hx492_0 hx492_1 hx492_2 hx492_3 hx494_0 hx494_1 hx494_2 hx494_3 hHeld ⊢
                        refine pz 0 18 HT_ ?_
                        refine pz 1 19 HT_ ?_
                        refine pz 2 20 HT_ ?_
                        refine pz 3 21 HT_ ?_
                        refine pz 4 22 HT_ ?_
                        refine pz 5 23 HT_ ?_
                        refine pz 6 24 HT_ ?_
                        refine pz 7 25 HT_ ?_
                        refine pz 9 27 HT_ ?_
                        refine pz 10 28 HT_ ?_
                        refine pz 11 29 HT_ ?_
                        refine pz 12 30 HT_ ?_
                        refine tz 8 26 HT_ HW_ hHeld ?_
                        refine tz 13 31 HT_ HW_ hHeld ?_
                        refine one_ (i := 14) (N := some 32) #[true, true, true, true, true, true, true, true, true, true, true, true, true, true, true, false, false] rfl rfl (one_of HT_.out (by kernel_rfl)) (by decide) (fun K hK => ?_)
                        refine goesV_ Try.func42 (by kernel_rfl) rfl #[.agg #[.int .i64 ((rd_T25 x0_2 x9_2).f0), .int .i64 ((rd_T25 x0_2 x9_2).f1), .int .i64 ((rd_T25 x0_2 x9_2).f2), .int .i64 ((rd_T25 x0_2 x9_2).f3)], .agg #[.int .i64 ((rd_T25 x0_2 z493).f0), .int .i64 ((rd_T25 x0_2 z493).f1), .int .i64 ((rd_T25 x0_2 z493).f2), .int .i64 ((rd_T25 x0_2 z493).f3)]] (by rfl) rfl rfl (by rfl) am ?_
                        with_reducible refine (grids_order.calls k2 ((rd_T25 x0_2 x9_2).f0) ((rd_T25 x0_2 x9_2).f1) ((rd_T25 x0_2 x9_2).f2) ((rd_T25 x0_2 x9_2).f3) ((rd_T25 x0_2 z493).f0) ((rd_T25 x0_2 z493).f1) ((rd_T25 x0_2 z493).f2) ((rd_T25 x0_2 z493).f3) t495 _ A13.out).mono ?_
                        rintro e w26 ⟨rfl, hb⟩
                        have HS0_ := (hb.cell (World.block_lt_of_cell? _ _ (hHeld.1))).trans (hHeld.1)
                        have HS1_ := (hb.cell (World.block_lt_of_cell? _ _ (hHeld.2.1))).trans (hHeld.2.1)
                        have HS2_ := (hb.cell (World.block_lt_of_cell? _ _ (hHeld.2.2.1))).trans (hHeld.2.2.1)
                        have HS3_ := (hb.cell (World.block_lt_of_cell? _ _ (hHeld.2.2.2.1))).trans (hHeld.2.2.2.1)
                        have HS4_ := (hb.cell (World.block_lt_of_cell? _ _ (hHeld.2.2.2.2.1))).trans (hHeld.2.2.2.2.1)
                        have HS5_ := (hb.cell (World.block_lt_of_cell? _ _ (hHeld.2.2.2.2.2.1))).trans (hHeld.2.2.2.2.2.1)
                        have HS6_ := (hb.cell (World.block_lt_of_cell? _ _ (hHeld.2.2.2.2.2.2.1))).trans (hHeld.2.2.2.2.2.2.1)
                        have HS7_ := (hb.cell (World.block_lt_of_cell? _ _ (hHeld.2.2.2.2.2.2.2))).trans (hHeld.2.2.2.2.2.2.2)
                        refine ⟨_, rfl, ?_⟩
                        have n0_ := Aside0.mk (Kd.R_below (by (with_reducible repeat (first | apply Kd.R_alloc | apply Kd.R_drewN | apply Kd.R_drew)); exact HO_0.out) hb)
                        have n1_ := Aside0.mk (Kept.below (S := (fun k_ => P0_ k_)) (by repeat (first | (with_reducible first | exact HK.out | apply Kept.alloc | apply Kept.drewN | apply Kept.drew) | exact HK.out)) hb)
                        have n2_ := bst HB hb
                        clear HO_0
                        clear HK
                        clear HB
                        have HO_0 := n0_
                        have HK := n1_
                        have HB := n2_
                        clear n0_ n1_ n2_
                        (try clear hb)
                        (try clear hb2)
                        (try clear hk)
                        (try clear hi)
                        refine hK.out _ _ ⟨HS0_, HS1_, HS2_, HS3_, HS4_, HS5_, HS6_, HS7_⟩ (fun hHeld => ?_)
                        clear hK K
                        refine norm_ (a' := ?_) ?_ ?_
                        rotate_left
                        · show Act.put _ (some 32) _ = _
                          simp only [Act.put, List.setIfInBounds_toArray, List.set_cons_zero, List.set_cons_succ, i64_w, i32_w]
                          rfl
                        refine pz 15 33 HT_ ?_
                        refine pz 16 34 HT_ ?_
                        refine done_ (done_of HT_.out (by kernel_rfl)) ?_
                        try go_wp2
                        go_roundg k2
                        case measure => have := HK1.out; have := HK2.out; omega
                        case rel => exact ⟨(x0_2), (z500), (by first | rfl | (simp; done) | (simp [*]; done)), H', ⟨by have := HK1.out; have := HK2.out; omega⟩, ⟨by (with_reducible repeat (first | apply Kd.R_alloc | apply Kd.R_drewN | apply Kd.R_drew)); exact HO_0.out⟩, ⟨by repeat (first | (with_reducible first | exact HK.out | apply Kept.alloc | apply Kept.drewN | apply Kept.drew) | exact HK.out)⟩, ⟨bnow HB⟩⟩
                    · rw [if_neg c12] at H
                      exact absurd H (by simp)
                  · rw [if_neg c11] at H
                    exact absurd H (by simp)
                · rw [if_neg c9] at H
                  exact absurd H (by simp)
              · rw [if_neg c8] at H
                exact absurd H (by simp)
            · rw [if_neg c7] at H
              have c7b0 : decide (a1 < x9_2) = false := decide_eq_false c7
              clear c7
              replace H := Option.bind_eq_some_iff.mp H
              obtain ⟨z501, E270, H⟩ := H
              replace H : (api_GrMatrix_85.l0 k2 x0_2 a1 a2 z501) = some r := H
              replace E270 := Option.some.inj E270
              have E27w : (IntKind.i64.wrap (x8_1 + 1)) = z501 := (i64_w _).trans E270
              have H' := Aside0.mk H
              clear H
              try go_wp2
              replace HO_0 := Aside0.mk (Kd.R_drew HO_0.out)
              replace HK := Aside0.mk (Kept.drew HK.out)
              replace HB := bdn HB
              refine start_ (n := 17) (S := fun w' => True) (ds := []) #[false, false, false, false, false, false, false, false, false, false, false, false, false, false, false, false, false] (by kernel_rfl) rfl rfl trivial (fun hHeld => ?_); refine with_tabW api_GrMatrix_85.tab4 api_GrMatrix_85.bits4 (fun HT_ HW_ => ?_)
              generalize wr.drew = w28 at HO_0 HK HB hHeld ⊢
              refine pz 0 18 HT_ ?_
              refine pz 1 19 HT_ ?_
              refine pz 2 20 HT_ ?_
              refine pz 3 21 HT_ ?_
              refine pu 4 22 HT_ ?_
              refine pu 5 23 HT_ ?_
              refine pu 6 24 HT_ ?_
              refine pu 7 25 HT_ ?_
              refine pu 8 26 HT_ ?_
              refine pu 9 27 HT_ ?_
              refine pu 10 28 HT_ ?_
              refine pu 11 29 HT_ ?_
              refine pu 12 30 HT_ ?_
              refine pu 13 31 HT_ ?_
              refine pu 14 32 HT_ ?_
              refine pu 15 33 HT_ ?_
              refine pz 16 34 HT_ ?_
              refine done_ (done_of HT_.out (by kernel_rfl)) ?_
              try go_wp2
              go_roundg k2
              case measure => have := HK1.out; have := HK2.out; omega
              case rel => exact ⟨(x0_2), (z501), (by first | rfl | (simp; done) | (simp [*]; done)), H', ⟨by have := HK1.out; have := HK2.out; omega⟩, ⟨by (with_reducible repeat (first | apply Kd.R_alloc | apply Kd.R_drewN | apply Kd.R_drew)); exact HO_0.out⟩, ⟨by repeat (first | (with_reducible first | exact HK.out | apply Kept.alloc | apply Kept.drewN | apply Kept.drew) | exact HK.out)⟩, ⟨bnow HB⟩⟩
      · rw [if_neg c6] at H
        have c6b0 : decide (x8_1 < a2) = false := decide_eq_false c6
        clear c6
        obtain rfl := Option.some.inj H
        go_wp2
        first | go_end0 | ((try simp only [Exit.inBlock, Exit.then]); refine bodyPost_ret (results_none rfl _ _ _) rfl ?_)
        exact ⟨by first | rfl | (simp [errW_none, errW_some] <;> rfl) | (simp [*, errW_none, errW_some] <;> rfl), by (with_reducible repeat (first | apply Kd.R_alloc | apply Kd.R_drewN | apply Kd.R_drew)); exact HO_0.out, by repeat (first | (with_reducible first | exact HB.out | apply below_alloc | apply pw_below_drewN | apply below_drew1) | exact HB.out), by repeat (first | (with_reducible first | exact HK.out | apply Kept.alloc | apply Kept.drewN | apply Kept.drew) | exact HK.out)⟩
end
section
/-! ### api_GrMatrix_81: function 81 -/
mutual
def api_GrMatrix_81.l0 : Nat → List (S25) → Int → Int → Int → Bool → Option ((List (S25)))
  | 0, _, _, _, _, _ => none
  | k + 1, x0, x1, x2, x3, x10 => (some (wrap64 (x2 - x1))).bind fun z502 => (if z502 ≤ 12 then ((api_GrMatrix_85.f k x0 x1 x2).bind fun t503 => (some t503)) else (if x3 = 0 then (none) else (if x10 = true then (none) else (none))))
def api_GrMatrix_81.f : Nat → List (S25) → Int → Int → Int → Option ((List (S25)))
  | 0, _, _, _, _ => none
  | k + 1, l0, a1, a2, a3 => api_GrMatrix_81.l0 k l0 a1 a2 a3 true
end
theorem api_GrMatrix_81.mono_l : ∀ k, (∀ y0 y1 y2 y3, LeO (api_GrMatrix_81.f k y0 y1 y2 y3) (api_GrMatrix_81.f (k + 1) y0 y1 y2 y3)) ∧ (∀ y0 y1 y2 y3 y4, LeO (api_GrMatrix_81.l0 k y0 y1 y2 y3 y4) (api_GrMatrix_81.l0 (k + 1) y0 y1 y2 y3 y4))
  | 0 => ⟨fun _ _ _ _ r h => by simp [api_GrMatrix_81.f] at h, fun _ _ _ _ _ r h => by simp [api_GrMatrix_81.l0] at h⟩
  | k + 1 => by
    obtain ⟨ih0, ih1⟩ := api_GrMatrix_81.mono_l k
    refine ⟨?_, ?_⟩
    · intro y0 y1 y2 y3
      unfold api_GrMatrix_81.f
      repeat' first
      | (with_reducible exact ih0 _ _ _ _)
      | (with_reducible exact ih1 _ _ _ _ _)
      | (with_reducible exact api_GrMatrix_85.mono _ _ _ _)
      | (with_reducible exact LeO.refl _)
      | (with_reducible exact LeO.none _)
      | (with_reducible refine LeO.ite ?_ ?_)
      | (with_reducible refine LeO.bind ?_ (fun _ => ?_))
      | exact ih0 _ _ _ _
      | exact ih1 _ _ _ _ _
      | exact api_GrMatrix_85.mono _ _ _ _
      | exact LeO.none _
      | refine LeO.ite ?_ ?_
      | refine LeO.bind ?_ (fun _ => ?_)
    · intro y0 y1 y2 y3 y4
      unfold api_GrMatrix_81.l0
      repeat' first
      | (with_reducible exact ih0 _ _ _ _)
      | (with_reducible exact ih1 _ _ _ _ _)
      | (with_reducible exact api_GrMatrix_85.mono _ _ _ _)
      | (with_reducible exact LeO.refl _)
      | (with_reducible exact LeO.none _)
      | (with_reducible refine LeO.ite ?_ ?_)
      | (with_reducible refine LeO.bind ?_ (fun _ => ?_))
      | exact ih0 _ _ _ _
      | exact ih1 _ _ _ _ _
      | exact api_GrMatrix_85.mono _ _ _ _
      | exact LeO.none _
      | refine LeO.ite ?_ ?_
      | refine LeO.bind ?_ (fun _ => ?_)
theorem api_GrMatrix_81.mono : ∀ a0 a1 a2 a3 k, LeO (api_GrMatrix_81.f k a0 a1 a2 a3) (api_GrMatrix_81.f (k + 1) a0 a1 a2 a3) := by
  intro a0 a1 a2 a3 k
  obtain ⟨ih0, ih1⟩ := api_GrMatrix_81.mono_l k
  exact ih0 a0 a1 a2 a3
set_option maxHeartbeats 8000000 in
set_option maxRecDepth 100000 in
theorem api_GrMatrix_81.calls (k : Nat) : ∀ (P0_ : Nat → Prop) (u9000_ : Value) (l0 : List (S25)) (a1 : Int) (a2 : Int) (a3 : Int)  (r : List (S25)) (w0 w : World) (hB : Below w0.heap.size w0 w) (ho0 : Kd.R k25 25 w w0.heap.size P0_ u9000_ l0) (h : api_GrMatrix_81.f k l0 a1 a2 a3 = some r),
    Calls Try.prog 81 #[u9000_, .int .i64 a1, .int .i64 a2, .int .i64 a3, .func (.func 42) #[] #[]] w fun e w' => e = .returned (.tuple #[]) ∧ Kd.R k25 25 w' w0.heap.size (fun k_ => (P0_ k_ ∨ w.heap.size ≤ k_)) u9000_ r ∧ Below w0.heap.size w0 w' ∧ Kept w w' (fun k_ => P0_ k_) := by
  induction k using Nat.strongRecOn with
  | _ k ih =>
  intro P0_ u9000_ l0 a1 a2 a3 r w0 w hB ho0 h
  cases k with
  | zero => exact absurd h (by simp [api_GrMatrix_81.f])
  | succ k =>
  simp only [api_GrMatrix_81.f] at h
  have hu25 := Try.underlying25
  have HO0 := Aside0.mk (show Kd.R k25 25 w w0.heap.size (fun k_ => (P0_ k_ ∨ w.heap.size ≤ k_)) u9000_ l0 from Kd.R_mono ho0 (fun k_ hk => (.inl hk)))
  have HK := Aside0.mk (Kept.refl w (fun k_ => P0_ k_))
  have HW0 := Aside0.mk hB.size
  have HB := Aside0.mk hB
  clear hB
  have H : (api_GrMatrix_81.l0 k l0 a1 a2 a3 true) = some r := h
  clear h
  have H' := Aside0.mk H
  clear H
  go_enter Try.func81, Try.ntmps81
  go_wp2
  go_loopg [1, 2, 3, 10] k (fun kq v1 v2 v3 v10 w' => ∃ (x0_1 : List (S25)) (x1_1 : Int) (x2_1 : Int) (x3_1 : Int) (x10_1 : Bool), v1 = .int .i64 x1_1 ∧ v2 = .int .i64 x2_1 ∧ v3 = .int .i64 x3_1 ∧ v10 = .bool x10_1 ∧ Aside0 (api_GrMatrix_81.l0 kq x0_1 x1_1 x2_1 x3_1 x10_1 = some r) ∧ Aside0 (kq ≤ k) ∧ Aside0 (Kd.R k25 25 w' w0.heap.size (fun k_ => (P0_ k_ ∨ w.heap.size ≤ k_)) u9000_ x0_1) ∧ Aside0 (Kept w w' (fun k_ => P0_ k_)) ∧ Aside0 (Below w0.heap.size w0 w'))
  case atStart => exact ⟨(l0), (a1), (a2), (a3), (true), (by first | rfl | (simp; done) | (simp [*]; done)), (by first | rfl | (simp; done) | (simp [*]; done)), (by first | rfl | (simp; done) | (simp [*]; done)), (by first | rfl | (simp; done) | (simp [*]; done)), H', ⟨Nat.le_refl _⟩, ⟨by (with_reducible repeat (first | apply Kd.R_alloc | apply Kd.R_drewN | apply Kd.R_drew)); exact HO0.out⟩, ⟨by repeat (first | (with_reducible first | exact HK.out | apply Kept.alloc | apply Kept.drewN | apply Kept.drew) | exact HK.out)⟩, ⟨bnow HB⟩⟩
  case round =>
    clear H'
    try clear p2
    obtain ⟨x0_1, x1_1, x2_1, x3_1, x10_1, rfl, rfl, rfl, rfl, HA, HK1, HO_0, HK, HB⟩ := hrel
    cases gk with
    | zero => exact absurd HA.out (by simp [api_GrMatrix_81.l0])
    | succ k1 =>
      have H := HA.out
      clear HA
      simp only [api_GrMatrix_81.l0] at H
      replace H := Option.bind_eq_some_iff.mp H
      obtain ⟨z502, E60, H⟩ := H
      replace H : (if z502 ≤ 12 then ((api_GrMatrix_85.f k1 x0_1 x1_1 x2_1).bind fun t503 => (some t503)) else (if x3_1 = 0 then (none) else (if x10_1 = true then (none) else (none)))) = some r := H
      replace E60 := Option.some.inj E60
      have E6w : (IntKind.i64.wrap (x2_1 - x1_1)) = z502 := (i64_w _).trans E60
      by_cases c7 : z502 ≤ 12
      · rw [if_pos c7] at H
        have c7b0 : decide (z502 ≤ 12) = true := decide_eq_true c7
        clear c7
        replace H := Option.bind_eq_some_iff.mp H
        obtain ⟨t503, A80, H⟩ := H
        replace H : (some t503) = some r := H
        have A8 := Aside0.mk A80
        clear A80
        obtain rfl := Option.some.inj H
        obtain ⟨Ao9, co9, eo9⟩ := Kd.R_slice HO_0.out
        subst eo9
        go_wp2_with (first | ((with_reducible refine gate_callee (f := 85) rfl ?_); refine goesL_ (some 30) rfl rfl Try.func85 (by kernel_rfl) rfl #[.slice Ao9 x0_1.length co9, .int .i64 x1_1, .int .i64 x2_1, .func (.func 42) #[] #[]] rfl am ?_; (with_reducible refine (api_GrMatrix_85.calls k1 (fun k_ => some k_ = (.slice Ao9 x0_1.length co9 : Value).ownBlock) (.slice Ao9 x0_1.length co9) x0_1 x1_1 x2_1  t503 w0 _ ?side1 ?side2 A8.out).mono ?_); (case side1 => repeat (first | (with_reducible first | exact HB.out | apply below_alloc | apply pw_below_drewN | apply below_drew1) | exact HB.out)); (case side2 => exact Kd.R_tight rfl HO_0.out); rintro e w10 ⟨rfl, hy0, hb, hkp⟩; refine ⟨_, rfl, ?_⟩; have n0_ := Aside0.mk (Kd.R_reok rfl hy0 (fun k_ e_ => HO_0.out.1 k_ e_)); have n1_ := Aside0.mk (Kept.then_ (S := (fun k_ => P0_ k_)) (by repeat (first | (with_reducible first | exact HK.out | apply Kept.alloc | apply Kept.drewN | apply Kept.drew) | exact HK.out)) hkp (fun k_ hs_ => (fun e_ => (HO_0.out.1 k_ e_.symm)) hs_)); have n2_ := Aside0.mk (hb); clear HO_0; clear HK; clear HB; have HO_0 := n0_; have HK := n1_; have HB := n2_; clear n0_ n1_ n2_; (try clear hb); (try clear hkp); (try clear hy0)))
        first | go_end0 | ((try simp only [Exit.inBlock, Exit.then]); refine bodyPost_ret (results_none rfl _ _ _) rfl ?_)
        exact ⟨by first | rfl | (simp [errW_none, errW_some] <;> rfl) | (simp [*, errW_none, errW_some] <;> rfl), by (with_reducible repeat (first | apply Kd.R_alloc | apply Kd.R_drewN | apply Kd.R_drew)); exact HO_0.out, by repeat (first | (with_reducible first | exact HB.out | apply below_alloc | apply pw_below_drewN | apply below_drew1) | exact HB.out), by repeat (first | (with_reducible first | exact HK.out | apply Kept.alloc | apply Kept.drewN | apply Kept.drew) | exact HK.out)⟩
      · rw [if_neg c7] at H
        have c7b0 : decide (z502 ≤ 12) = false := decide_eq_false c7
        clear c7
        by_cases c11 : x3_1 = 0
        · rw [if_pos c11] at H
          exact absurd H (by simp)
        · rw [if_neg c11] at H
          have c11b0 : (x3_1 == 0) = false := beq_eq_false_iff_ne.mpr c11
          have c11b1 : (x3_1 != 0) = true := bne_iff_ne.mpr c11
          by_cases c12 : x10_1 = true
          · subst c12
            have H1 : (none) = some r := by rw [if_pos rfl] at H; exact H
            clear H
            have H := H1
            clear H1
            exact absurd H (by simp)
          · replace c12 := Bool.eq_false_iff.mpr c12
            subst c12
            have H1 : (none) = some r := by rw [if_neg (show ¬ (false = true) by decide)] at H; exact H
            clear H
            have H := H1
            clear H1
            exact absurd H (by simp)
end
section
/-! ### api_GrMatrix_58: function 58 -/
def api_GrMatrix_58.f (k : Nat) (l0 : List (S25))  : Option ((List (S25))) := (bits_Len.f (IntKind.u64.wrap ((l0.length : Int)))).bind fun t504 => ((api_GrMatrix_81.f k l0 0 (l0.length : Int) t504).bind fun t505 => (some t505))
theorem api_GrMatrix_58.mono : ∀ a0 k, LeO (api_GrMatrix_58.f k a0) (api_GrMatrix_58.f (k + 1) a0) := by
  intro a0 k
  unfold api_GrMatrix_58.f
  repeat' first
      | (with_reducible exact api_GrMatrix_81.mono _ _ _ _ _)
      | (with_reducible exact LeO.refl _)
      | (with_reducible exact LeO.none _)
      | (with_reducible refine LeO.ite ?_ ?_)
      | (with_reducible refine LeO.bind ?_ (fun _ => ?_))
      | exact api_GrMatrix_81.mono _ _ _ _ _
      | exact LeO.none _
      | refine LeO.ite ?_ ?_
      | refine LeO.bind ?_ (fun _ => ?_)
set_option maxHeartbeats 8000000 in
set_option maxRecDepth 100000 in
theorem api_GrMatrix_58.calls (k : Nat) (P0_ : Nat → Prop) (u9000_ : Value) (l0 : List (S25))  (r : List (S25)) (w0 w : World) (hB : Below w0.heap.size w0 w) (ho0 : Kd.R k25 25 w w0.heap.size P0_ u9000_ l0) (h : api_GrMatrix_58.f k l0 = some r) :
    Calls Try.prog 58 #[u9000_, .func (.func 42) #[] #[]] w fun e w' => e = .returned (.tuple #[]) ∧ Kd.R k25 25 w' w0.heap.size (fun k_ => (P0_ k_ ∨ w.heap.size ≤ k_)) u9000_ r ∧ Below w0.heap.size w0 w' ∧ Kept w w' (fun k_ => P0_ k_) := by
  have HO0 := Aside0.mk (show Kd.R k25 25 w w0.heap.size (fun k_ => (P0_ k_ ∨ w.heap.size ≤ k_)) u9000_ l0 from Kd.R_mono ho0 (fun k_ hk => (.inl hk)))
  have HK := Aside0.mk (Kept.refl w (fun k_ => P0_ k_))
  have HW0 := Aside0.mk hB.size
  have HB := Aside0.mk hB
  clear hB
  have H : ((bits_Len.f (IntKind.u64.wrap ((l0.length : Int)))).bind fun t504 => ((api_GrMatrix_81.f k l0 0 (l0.length : Int) t504).bind fun t505 => (some t505))) = some r := h
  clear h
  replace H := Option.bind_eq_some_iff.mp H
  obtain ⟨t504, A30, H⟩ := H
  replace H : ((api_GrMatrix_81.f k l0 0 (l0.length : Int) t504).bind fun t505 => (some t505)) = some r := H
  have A3 := Aside0.mk A30
  clear A30
  replace H := Option.bind_eq_some_iff.mp H
  obtain ⟨t505, A40, H⟩ := H
  replace H : (some t505) = some r := H
  have A4 := Aside0.mk A40
  clear A40
  obtain rfl := Option.some.inj H
  obtain ⟨Ao5, co5, eo5⟩ := Kd.R_slice HO0.out
  subst eo5
  go_enter Try.func58, Try.ntmps58
  go_wp2_with (first | ((with_reducible refine gate_callee (f := 82) rfl ?_); refine goesL_ (some 11) rfl rfl Try.func82 (by kernel_rfl) rfl #[.int .u64 (IntKind.u64.wrap ((l0.length : Int)))] rfl am ?_; (with_reducible refine (bits_Len.calls (IntKind.u64.wrap ((l0.length : Int))) t504 _ A3.out).mono ?_); rintro e w' ⟨rfl, ⟨nd, rfl⟩⟩; refine ⟨_, rfl, ?_⟩) | ((with_reducible refine gate_callee (f := 81) rfl ?_); refine goesL_ (some 13) rfl rfl Try.func81 (by kernel_rfl) rfl #[.slice Ao5 l0.length co5, .int .i64 0, .int .i64 (l0.length : Int), .int .i64 t504, .func (.func 42) #[] #[]] rfl am ?_; (with_reducible refine (api_GrMatrix_81.calls k (fun k_ => some k_ = (.slice Ao5 l0.length co5 : Value).ownBlock) (.slice Ao5 l0.length co5) l0 0 (l0.length : Int) t504  t505 w0 _ ?side1 ?side2 A4.out).mono ?_); (case side1 => repeat (first | (with_reducible first | exact HB.out | apply below_alloc | apply pw_below_drewN | apply below_drew1) | exact HB.out)); (case side2 => exact Kd.R_tight rfl HO0.out); rintro e w6 ⟨rfl, hy0, hb, hkp⟩; refine ⟨_, rfl, ?_⟩; have n0_ := Aside0.mk (Kd.R_reok rfl hy0 (fun k_ e_ => HO0.out.1 k_ e_)); have n1_ := Aside0.mk (Kept.then_ (S := (fun k_ => P0_ k_)) (by repeat (first | (with_reducible first | exact HK.out | apply Kept.alloc | apply Kept.drewN | apply Kept.drew) | exact HK.out)) hkp (fun k_ hs_ => (fun e_ => (HO0.out.1 k_ e_.symm)) hs_)); have n2_ := Aside0.mk (hb); clear HO0; clear HK; clear HB; have HO0 := n0_; have HK := n1_; have HB := n2_; clear n0_ n1_ n2_; (try clear hb); (try clear hkp); (try clear hy0)))
  first | go_end0 | ((try simp only [Exit.inBlock, Exit.then]); refine bodyPost_ret (results_none rfl _ _ _) rfl ?_)
  exact ⟨by first | rfl | (simp [errW_none, errW_some] <;> rfl) | (simp [*, errW_none, errW_some] <;> rfl), by (with_reducible repeat (first | apply Kd.R_alloc | apply Kd.R_drewN | apply Kd.R_drew)); exact HO0.out, by repeat (first | (with_reducible first | exact HB.out | apply below_alloc | apply pw_below_drewN | apply below_drew1) | exact HB.out), by repeat (first | (with_reducible first | exact HK.out | apply Kept.alloc | apply Kept.drewN | apply Kept.drew) | exact HK.out)⟩
end
section
/-! ### grids_Group: function 22 -/
def grids_Group.l0 : Nat → List (S25) → Int → Int → Int → Int → Int → Int → Option ((List (S25)) × Int)
  | 0, _, _, _, _, _, _, _ => none
  | k + 1, x7, x22, x23, x517000, x517001, x517002, x517003 => if x23 < x22 then (if 0 ≤ x23 then (if x23 < (x7.length : Int) then ((grids_times.f x517000 x517001 x517002 x517003 ((rd_T25 x7 x23).f0) ((rd_T25 x7 x23).f1) ((rd_T25 x7 x23).f2) ((rd_T25 x7 x23).f3)).bind fun bt521 => ((grids_inverse.f x517000 x517001 x517002 x517003).bind fun bt525 => ((grids_times.f bt521.1 bt521.2.1 bt521.2.2.1 bt521.2.2.2 bt525.1 bt525.2.1 bt525.2.2.1 bt525.2.2.2).bind fun bt529 => ((some (wrap64 (x23 + 1))).bind fun z534 => (grids_Group.l0 k (x7.set (x23 : Int).toNat (⟨bt529.1, bt529.2.1, bt529.2.2.1, bt529.2.2.2⟩ : S25)) x22 z534 x517000 x517001 x517002 x517003))))) else (none)) else (none)) else ((api_GrMatrix_58.f k x7).bind fun t535 => (some (t535, 0)))
def grids_Group.f (k : Nat) (a0_0 : Int) (a0_1 : Int) (a0_2 : Int) : Option ((List (S25)) × Int) := (grids_Check.f k a0_0 a0_1 a0_2).bind fun t507 => (if t507 = 0 then ((grids_reduce.f k a0_0 a0_1 a0_2).bind fun bt508 => ((grids_group.f k bt508.1 bt508.2.1 bt508.2.2.1).bind fun t517 => (grids_Group.l0 k t517 (t517.length : Int) 0 bt508.2.2.2.1 bt508.2.2.2.2.1 bt508.2.2.2.2.2.1 bt508.2.2.2.2.2.2))) else (some (([] : List (S25)), t507)))
theorem grids_Group.mono_l : ∀ k, (∀ y0 y1 y2 y3 y4 y5 y6, LeO (grids_Group.l0 k y0 y1 y2 y3 y4 y5 y6) (grids_Group.l0 (k + 1) y0 y1 y2 y3 y4 y5 y6))
  | 0 => fun _ _ _ _ _ _ _ r h => by simp [grids_Group.l0] at h
  | k + 1 => by
    have ih0 := grids_Group.mono_l k
    · intro y0 y1 y2 y3 y4 y5 y6
      unfold grids_Group.l0
      repeat' first
      | (with_reducible exact ih0 _ _ _ _ _ _ _)
      | (with_reducible exact api_GrMatrix_58.mono _ _)
      | (with_reducible exact grids_Check.mono _ _ _ _)
      | (with_reducible exact grids_group.mono _ _ _ _)
      | (with_reducible exact grids_reduce.mono _ _ _ _)
      | (with_reducible exact LeO.refl _)
      | (with_reducible exact LeO.none _)
      | (with_reducible refine LeO.ite ?_ ?_)
      | (with_reducible refine LeO.bind ?_ (fun _ => ?_))
      | exact ih0 _ _ _ _ _ _ _
      | exact api_GrMatrix_58.mono _ _
      | exact grids_Check.mono _ _ _ _
      | exact grids_group.mono _ _ _ _
      | exact grids_reduce.mono _ _ _ _
      | exact LeO.none _
      | refine LeO.ite ?_ ?_
      | refine LeO.bind ?_ (fun _ => ?_)
theorem grids_Group.mono : ∀ a0 a1 a2 k, LeO (grids_Group.f k a0 a1 a2) (grids_Group.f (k + 1) a0 a1 a2) := by
  intro a0 a1 a2 k
  have ih0 := grids_Group.mono_l k
  unfold grids_Group.f
  repeat' first
      | (with_reducible exact ih0 _ _ _ _ _ _ _)
      | (with_reducible exact api_GrMatrix_58.mono _ _)
      | (with_reducible exact grids_Check.mono _ _ _ _)
      | (with_reducible exact grids_group.mono _ _ _ _)
      | (with_reducible exact grids_reduce.mono _ _ _ _)
      | (with_reducible exact LeO.refl _)
      | (with_reducible exact LeO.none _)
      | (with_reducible refine LeO.ite ?_ ?_)
      | (with_reducible refine LeO.bind ?_ (fun _ => ?_))
      | exact ih0 _ _ _ _ _ _ _
      | exact api_GrMatrix_58.mono _ _
      | exact grids_Check.mono _ _ _ _
      | exact grids_group.mono _ _ _ _
      | exact grids_reduce.mono _ _ _ _
      | exact LeO.none _
      | refine LeO.ite ?_ ?_
      | refine LeO.bind ?_ (fun _ => ?_)
def grids_Group.T9 : Bool × List (List Nat × List Nat) := (true, [([], []), ([], []), ([], []), ([], []), ([], []), ([3, 4], [3, 4]), ([5], [5]), ([2, 6], [2, 6]), ([], []), ([8, 7], [8]), ([7, 9, 9], [7, 9]), ([0, 1, 0, 1, 2, 3, 4, 5, 6, 7, 8, 9, 10], [0, 1]), ([11, 10, 10, 0, 1, 2, 3, 4, 5, 6, 7, 8, 9, 10], [10, 11])])
def grids_Group.B9 : List Nat := [0, 0, 0, 0, 0, 24, 56, 124, 0, 508, 1020, 2047, 4095]
theorem grids_Group.tab9 : rtab .any (opsOf Try.f22 9) = grids_Group.T9 := by kernel_rfl
theorem grids_Group.bits9 : waitsOk grids_Group.T9.2 grids_Group.B9 = true := by kernel_rfl
set_option maxHeartbeats 8000000 in
set_option maxRecDepth 100000 in
theorem grids_Group.calls (k : Nat) (a0_0 : Int) (a0_1 : Int) (a0_2 : Int) (r1 : List (S25)) (r2 : Int) (w : World) (h : grids_Group.f k a0_0 a0_1 a0_2 = some (r1, r2)) :
    Calls Try.prog 22 #[.agg #[.int .i64 a0_0, .int .i64 a0_1, .int .i64 a0_2]] w fun e w' => ∃ v0_ : Value, e = .returned (.tuple #[v0_, .int .i64 r2]) ∧ Kd.R k25 25 w' w.heap.size (fun _ => True) v0_ r1 ∧ Below w.heap.size w w' := by
  have hu23 := Try.underlying23
  have hu25 := Try.underlying25
  have HB := Aside0.mk (Below.refl w.heap.size w)
  have H : ((grids_Check.f k a0_0 a0_1 a0_2).bind fun t507 => (if t507 = 0 then ((grids_reduce.f k a0_0 a0_1 a0_2).bind fun bt508 => ((grids_group.f k bt508.1 bt508.2.1 bt508.2.2.1).bind fun t517 => (grids_Group.l0 k t517 (t517.length : Int) 0 bt508.2.2.2.1 bt508.2.2.2.2.1 bt508.2.2.2.2.2.1 bt508.2.2.2.2.2.2))) else (some (([] : List (S25)), t507)))) = some (r1, r2) := h
  clear h
  replace H := Option.bind_eq_some_iff.mp H
  obtain ⟨t507, A20, H⟩ := H
  replace H : (if t507 = 0 then ((grids_reduce.f k a0_0 a0_1 a0_2).bind fun bt508 => ((grids_group.f k bt508.1 bt508.2.1 bt508.2.2.1).bind fun t517 => (grids_Group.l0 k t517 (t517.length : Int) 0 bt508.2.2.2.1 bt508.2.2.2.2.1 bt508.2.2.2.2.2.1 bt508.2.2.2.2.2.2))) else (some (([] : List (S25)), t507))) = some (r1, r2) := H
  have A2 := Aside0.mk A20
  clear A20
  by_cases c3 : t507 = 0
  · rw [if_pos c3] at H
    have c3b0 : (t507 == 0) = true := beq_iff_eq.mpr c3
    have c3b1 : (t507 != 0) = false := bne_eq_false_iff_eq.mpr c3
    clear c3
    replace H := Option.bind_eq_some_iff.mp H
    obtain ⟨⟨t508, t509, t510, t511, t512, t513, t514⟩, A40, H⟩ := H
    replace H : ((grids_group.f k t508 t509 t510).bind fun t517 => (grids_Group.l0 k t517 (t517.length : Int) 0 t511 t512 t513 t514)) = some (r1, r2) := H
    have A4 := Aside0.mk A40
    clear A40
    replace H := Option.bind_eq_some_iff.mp H
    obtain ⟨t517, A50, H⟩ := H
    replace H : (grids_Group.l0 k t517 (t517.length : Int) 0 t511 t512 t513 t514) = some (r1, r2) := H
    have A5 := Aside0.mk A50
    clear A50
    have H' := Aside0.mk H
    clear H
    go_enter Try.func22, Try.ntmps22
    go_wp2_with (first | ((with_reducible refine gate_dst (N := 1) rfl ?_); refine bx 1 #[.int .i64 a0_0, .int .i64 a0_1, .int .i64 a0_2] 23 fun gb506 hg w6 BK506 hb => ?_; have GW506 := gw hg HB; have GE506 := gw hg HB; replace HB := bst HB hb; clear hb hg; have ⟨hcz7_0, hcz7_1, hcz7_2, hfz7_0, hfz7_1, hfz7_2⟩ := cf3 BK506) | ((with_reducible refine gate_callee (f := 14) rfl ?_); refine gl 10 Try.func14 (grids_Check.calls k a0_0 a0_1 a0_2 t507 _ A2.out) ?_; rintro e w8 ⟨rfl, hb⟩; refine ⟨_, rfl, ?_⟩; replace BK506 := bb BK506 hb; replace HB := bst HB hb; clear hb; have ⟨hcz9_0, hcz9_1, hcz9_2, hfz9_0, hfz9_1, hfz9_2⟩ := cf3 BK506) | ((with_reducible refine gate_callee (f := 38) rfl ?_); refine gl 16 Try.func38 (grids_reduce.calls k a0_0 a0_1 a0_2 t508 t509 t510 t511 t512 t513 t514 _ A4.out) ?_; rintro e w10 ⟨rfl, hb⟩; refine ⟨_, rfl, ?_⟩; replace BK506 := bb BK506 hb; replace HB := bst HB hb; clear hb) | ((with_reducible refine gate_dst (N := 5) rfl ?_); refine bx 5 #[.int .i64 0, .int .i64 0, .int .i64 0] 23 fun gb515 hg w11 BK515 hb => ?_; have GW515 := gw hg HB; have GE515 := gw hg HB; have NB506_515 := nlt hg BK506; have NB515_506 := ngt hg BK506; replace BK506 := bb BK506 hb; replace HB := bst HB hb; clear hb hg) | ((with_reducible refine gate_dst (N := 6) rfl ?_); refine bx 6 #[.int .i64 0, .int .i64 0, .int .i64 0, .int .i64 0] 25 fun gb516 hg w12 BK516 hb => ?_; have GW516 := gw hg HB; have GE516 := gw hg HB; have NB506_516 := nlt hg BK506; have NB516_506 := ngt hg BK506; have NB515_516 := nlt hg BK515; have NB516_515 := ngt hg BK515; replace BK506 := bb BK506 hb; replace BK515 := bb BK515 hb; replace HB := bst HB hb; clear hb hg; have hnb13 := NB515_506.out; have hnc13 := NB506_515.out; have hnb14 := NB515_516.out; have hnc14 := NB516_515.out; have ⟨hcz15_0, hcz15_1, hcz15_2, hfz15_0, hfz15_1, hfz15_2⟩ := cf3 BK515) | ((with_reducible refine gate_store (t := 23) (p := 5) rfl ?_); refine sx 23 5 ((((w12.setCell ⟨gb515, 0, none⟩ (.int .i64 t508)).setCell ⟨gb515, 1, none⟩ (.int .i64 t509)).setCell ⟨gb515, 2, none⟩ (.int .i64 t510))) fun w16 hw => ?_; replace BK506 := fw hw BK506; replace BK515 := pw3 hw BK515; replace BK516 := fw hw BK516; replace HB := bw hw HB; clear hw; have hnb17 := NB516_506.out; have hnc17 := NB506_516.out; have ⟨hcz18_0, hcz18_1, hcz18_2, hcz18_3, hfz18_0, hfz18_1, hfz18_2, hfz18_3⟩ := cf4 BK516) | ((with_reducible refine gate_store (t := 25) (p := 6) rfl ?_); refine sx 25 6 (((((w16.setCell ⟨gb516, 0, none⟩ (.int .i64 t511)).setCell ⟨gb516, 1, none⟩ (.int .i64 t512)).setCell ⟨gb516, 2, none⟩ (.int .i64 t513)).setCell ⟨gb516, 3, none⟩ (.int .i64 t514))) fun w19 hw => ?_; replace BK506 := fw hw BK506; replace BK515 := fw hw BK515; replace BK516 := pw4 hw BK516; replace HB := bw hw HB; clear hw; have ⟨hcz20_0, hcz20_1, hcz20_2, hfz20_0, hfz20_1, hfz20_2⟩ := cf3 BK515) | ((with_reducible refine gate_callee (f := 39) rfl ?_); refine goesL_ (some 20) rfl rfl Try.func39 (by kernel_rfl) rfl #[.agg #[.int .i64 t508, .int .i64 t509, .int .i64 t510]] rfl am ?_; (with_reducible refine (grids_group.calls k t508 t509 t510 t517 _ A5.out).mono ?_); rintro e w21 ⟨v518, rfl, ho0, hb⟩; refine ⟨_, rfl, ?_⟩; have HO519 := Aside0.mk (Kd.R_lower (Kd.R_newB ho0 (g := gb516) (o := .cells #[.int .i64 t511, .int .i64 t512, .int .i64 t513, .int .i64 t514] 25 (0, 0)) (pk BK516)) (below_size (bnow HB))); replace BK506 := bb BK506 hb; replace BK515 := bb BK515 hb; replace BK516 := bb BK516 hb; replace HB := bst HB hb; (try clear hb); (try clear hb2); (try clear hk); (try clear hi); (try clear ho0); obtain ⟨Ao22, co22, eo22⟩ := Kd.R_slice HO519.out; subst eo22))
    (try simp only [Act.put, List.setIfInBounds_toArray, List.set_cons_zero, List.set_cons_succ])
    go_loopg [23] k (fun kq v23 w' => ∃ (x7_1 : List (S25)) (x23_1 : Int) (x517000_1 : Int) (x517001_1 : Int) (x517002_1 : Int) (x517003_1 : Int), v23 = .int .i64 x23_1 ∧ Aside0 (grids_Group.l0 kq x7_1 (t517.length : Int) x23_1 x517000_1 x517001_1 x517002_1 x517003_1 = some (r1, r2)) ∧ Aside0 (kq ≤ k) ∧ Aside0 (Kd.R k25 25 w' w.heap.size (fun k_ => k_ ≠ gb516) (.slice Ao22 t517.length co22) x7_1) ∧ Aside0 (w'.heap[gb506]? = some (.cells #[.int .i64 a0_0, .int .i64 a0_1, .int .i64 a0_2] 23 (0, 0))) ∧ Aside0 (w'.heap[gb515]? = some (.cells #[.int .i64 t508, .int .i64 t509, .int .i64 t510] 23 (0, 0))) ∧ Aside0 (w'.heap[gb516]? = some (.cells #[.int .i64 x517000_1, .int .i64 x517001_1, .int .i64 x517002_1, .int .i64 x517003_1] 25 (0, 0))) ∧ Aside0 (Below w.heap.size w w'))
    case atStart => exact ⟨(t517), (0), (t511), (t512), (t513), (t514), (by first | rfl | (simp; done) | (simp [*]; done)), H', ⟨Nat.le_refl _⟩, ⟨by (with_reducible repeat (first | apply Kd.R_alloc | apply Kd.R_drewN | apply Kd.R_drew)); exact Kd.R_mono HO519.out (fun _ hk => hk.2)⟩, ⟨pk BK506⟩, ⟨pk BK515⟩, ⟨pk BK516⟩, ⟨bnow HB⟩⟩
    case round =>
      clear H'
      try clear c1; try clear c2; try clear p2; try clear c3; try clear c3b0; try clear c3b1; try clear c13; try clear c14; try clear c17; try clear c22; try clear hcz15_0; try clear hcz15_1; try clear hcz15_2; try clear hcz18_0; try clear hcz18_1; try clear hcz18_2; try clear hcz18_3; try clear hcz20_0; try clear hcz20_1; try clear hcz20_2; try clear hcz7_0; try clear hcz7_1; try clear hcz7_2; try clear hcz9_0; try clear hcz9_1; try clear hcz9_2; try clear hfz15_0; try clear hfz15_1; try clear hfz15_2; try clear hfz18_0; try clear hfz18_1; try clear hfz18_2; try clear hfz18_3; try clear hfz20_0; try clear hfz20_1; try clear hfz20_2; try clear hfz7_0; try clear hfz7_1; try clear hfz7_2; try clear hfz9_0; try clear hfz9_1; try clear hfz9_2
      obtain ⟨x7_1, x23_1, x517000_1, x517001_1, x517002_1, x517003_1, rfl, HA, HK1, HO_7, BK506, BK515, BK516, HB⟩ := hrel
      have hl7_1 := (Kd.R_reads' HO_7.out).1
      rw [hl7_1] at HO_7
      (try simp only [hl7_1])
      (try simp only [hl7_1] at BK506)
      (try simp only [hl7_1] at BK515)
      (try simp only [hl7_1] at BK516)
      cases gk with
      | zero => exact absurd HA.out (by simp [grids_Group.l0])
      | succ k1 =>
        have H := HA.out
        clear HA
        simp only [grids_Group.l0] at H
        by_cases c23 : x23_1 < (t517.length : Int)
        · rw [if_pos c23] at H
          have c23b0 : decide (x23_1 < (t517.length : Int)) = true := decide_eq_true c23
          (try (have c23h0 := c23b0; simp only [hl7_1] at c23h0))
          clear c23
          by_cases c24 : 0 ≤ x23_1
          · rw [if_pos c24] at H
            have c24b0 : decide (0 ≤ x23_1) = true := decide_eq_true c24
            clear c24
            by_cases c25 : x23_1 < (x7_1.length : Int)
            · rw [if_pos c25] at H
              have c25b0 : decide (x23_1 < (x7_1.length : Int)) = true := decide_eq_true c25
              (try (have c25h0 := c25b0; simp only [hl7_1] at c25h0))
              clear c25
              replace H := Option.bind_eq_some_iff.mp H
              obtain ⟨⟨t521, t522, t523, t524⟩, A260, H⟩ := H
              replace H : ((grids_inverse.f x517000_1 x517001_1 x517002_1 x517003_1).bind fun bt525 => ((grids_times.f t521 t522 t523 t524 bt525.1 bt525.2.1 bt525.2.2.1 bt525.2.2.2).bind fun bt529 => ((some (wrap64 (x23_1 + 1))).bind fun z534 => (grids_Group.l0 k1 (x7_1.set (x23_1 : Int).toNat (⟨bt529.1, bt529.2.1, bt529.2.2.1, bt529.2.2.2⟩ : S25)) (t517.length : Int) z534 x517000_1 x517001_1 x517002_1 x517003_1)))) = some (r1, r2) := H
              have A26 := Aside0.mk A260
              clear A260
              replace H := Option.bind_eq_some_iff.mp H
              obtain ⟨⟨t525, t526, t527, t528⟩, A270, H⟩ := H
              replace H : ((grids_times.f t521 t522 t523 t524 t525 t526 t527 t528).bind fun bt529 => ((some (wrap64 (x23_1 + 1))).bind fun z534 => (grids_Group.l0 k1 (x7_1.set (x23_1 : Int).toNat (⟨bt529.1, bt529.2.1, bt529.2.2.1, bt529.2.2.2⟩ : S25)) (t517.length : Int) z534 x517000_1 x517001_1 x517002_1 x517003_1))) = some (r1, r2) := H
              have A27 := Aside0.mk A270
              clear A270
              replace H := Option.bind_eq_some_iff.mp H
              obtain ⟨⟨t529, t530, t531, t532⟩, A280, H⟩ := H
              replace H : ((some (wrap64 (x23_1 + 1))).bind fun z534 => (grids_Group.l0 k1 (x7_1.set (x23_1 : Int).toNat (⟨t529, t530, t531, t532⟩ : S25)) (t517.length : Int) z534 x517000_1 x517001_1 x517002_1 x517003_1)) = some (r1, r2) := H
              have A28 := Aside0.mk A280
              clear A280
              obtain ⟨y533, hy533⟩ : ∃ y_ : List (S25), y_ = (x7_1.set (x23_1 : Int).toNat (⟨t529, t530, t531, t532⟩ : S25)) := ⟨_, rfl⟩
              replace H : ((some (wrap64 (x23_1 + 1))).bind fun z534 => (grids_Group.l0 k1 y533 (t517.length : Int) z534 x517000_1 x517001_1 x517002_1 x517003_1)) = some (r1, r2) := by first | (rw [hy533]; with_reducible exact H) | (have H2_ := (Option.bind_some _ _).symm.trans H; rw [hy533]; with_reducible exact H2_) | (have H2_ := (Option.bind_some _ _).symm.trans H; with_reducible exact H2_) | with_reducible exact H | (rw [hy533]; exact H) | exact H
              have Ny533 := Aside0.mk hy533
              clear hy533
              replace H := Option.bind_eq_some_iff.mp H
              obtain ⟨z534, E300, H⟩ := H
              replace H : (grids_Group.l0 k1 y533 (t517.length : Int) z534 x517000_1 x517001_1 x517002_1 x517003_1) = some (r1, r2) := H
              replace E300 := Option.some.inj E300
              have E30w : (IntKind.i64.wrap (x23_1 + 1)) = z534 := (i64_w _).trans E300
              have H' := Aside0.mk H
              clear H
              try go_wp2
              replace HO_7 := Aside0.mk (Kd.R_drew HO_7.out)
              replace BK506 := bd BK506
              replace BK515 := bd BK515
              replace BK516 := bd BK516
              replace HB := bdn HB
              have p520 : 0 ≤ (x23_1 : Int) := of_decide_eq_true (by first | (with_reducible assumption) | assumption)
              have q520 : x23_1 < (x7_1.length : Int) := of_decide_eq_true (by first | (with_reducible assumption) | assumption)
              obtain ⟨ad520, e520, hx520_0, hx520_1, hx520_2, hx520_3⟩ := at_T25 (Kd.R_reads' HO_7.out).2.2 x23_1 p520 q520
              cases e520
              replace p520 := eq_true p520
              replace q520 := eq_true q520
              refine start_ (n := 13) (S := fun w' => w'.cell? ⟨gb516, 0, none⟩ = some (.int .i64 x517000_1) ∧ w'.cell? ⟨gb516, 1, none⟩ = some (.int .i64 x517001_1) ∧ w'.cell? ⟨gb516, 2, none⟩ = some (.int .i64 x517002_1) ∧ w'.cell? ⟨gb516, 3, none⟩ = some (.int .i64 x517003_1) ∧ w'.cell? (ad520.add ((x23_1).toNat * 4)) = some (.int .i64 ((rd_T25 x7_1 x23_1).f0)) ∧ w'.cell? ⟨(ad520.add ((x23_1).toNat * 4)).block, (ad520.add ((x23_1).toNat * 4)).off + 1, none⟩ = some (.int .i64 ((rd_T25 x7_1 x23_1).f1)) ∧ w'.cell? ⟨(ad520.add ((x23_1).toNat * 4)).block, (ad520.add ((x23_1).toNat * 4)).off + 2, none⟩ = some (.int .i64 ((rd_T25 x7_1 x23_1).f2)) ∧ w'.cell? ⟨(ad520.add ((x23_1).toNat * 4)).block, (ad520.add ((x23_1).toNat * 4)).off + 3, none⟩ = some (.int .i64 ((rd_T25 x7_1 x23_1).f3))) (ds := [12]) #[false, false, false, false, false, false, false, false, false, false, false, false, false] (by kernel_rfl) rfl rfl ⟨(blk_cell BK516.out 0).trans rfl, (blk_cell BK516.out 1).trans rfl, (blk_cell BK516.out 2).trans rfl, (blk_cell BK516.out 3).trans rfl, hx520_0, hx520_1, hx520_2, hx520_3⟩ (fun hHeld => ?_); refine with_tabW grids_Group.tab9 grids_Group.bits9 (fun HT_ HW_ => ?_)
              generalize wr.drew = w31 at HO_7 BK506 BK515 BK516 HB hx520_0 hx520_1 hx520_2 hx520_3 hHeld ⊢
              refine pz 0 26 HT_ ?_
              refine pz 1 27 HT_ ?_
              refine pz 3 29 HT_ ?_
              refine pz 4 30 HT_ ?_
              refine pz 5 31 HT_ ?_
              refine tz 2 28 HT_ HW_ hHeld ?_
              refine tz 6 32 HT_ HW_ hHeld ?_
              refine tz 8 34 HT_ HW_ hHeld ?_
              refine one_ (i := 7) (N := some 33) #[true, true, true, true, true, true, true, true, true, false, false, false, false] rfl rfl (one_of HT_.out (by kernel_rfl)) (by decide) (fun K hK => ?_)
              refine gs _ Try.func40 (grids_times.calls x517000_1 x517001_1 x517002_1 x517003_1 ((rd_T25 x7_1 x23_1).f0) ((rd_T25 x7_1 x23_1).f1) ((rd_T25 x7_1 x23_1).f2) ((rd_T25 x7_1 x23_1).f3) t521 t522 t523 t524 _ A26.out) ?_
              rintro e w32 ⟨rfl, hb⟩
              have HS4_ := (hb.cell (World.block_lt_of_cell? _ _ (hHeld.2.2.2.2.1))).trans (hHeld.2.2.2.2.1)
              have HS5_ := (hb.cell (World.block_lt_of_cell? _ _ (hHeld.2.2.2.2.2.1))).trans (hHeld.2.2.2.2.2.1)
              have HS6_ := (hb.cell (World.block_lt_of_cell? _ _ (hHeld.2.2.2.2.2.2.1))).trans (hHeld.2.2.2.2.2.2.1)
              have HS7_ := (hb.cell (World.block_lt_of_cell? _ _ (hHeld.2.2.2.2.2.2.2))).trans (hHeld.2.2.2.2.2.2.2)
              refine ⟨_, rfl, ?_⟩
              have n0_ := Aside0.mk (Kd.R_below (by (with_reducible repeat (first | apply Kd.R_alloc | apply Kd.R_drewN | apply Kd.R_drew)); exact HO_7.out) hb)
              have n1_ := bb BK506 hb
              have n2_ := bb BK515 hb
              have n3_ := bb BK516 hb
              have n4_ := bst HB hb
              clear HO_7
              clear BK506
              clear BK515
              clear BK516
              clear HB
              have HO_7 := n0_
              have BK506 := n1_
              have BK515 := n2_
              have BK516 := n3_
              have HB := n4_
              clear n0_ n1_ n2_ n3_ n4_
              (try clear hb)
              (try clear hb2)
              (try clear hk)
              (try clear hi)
              refine hK.out _ _ ⟨(blk_cell BK516.out 0).trans rfl, (blk_cell BK516.out 1).trans rfl, (blk_cell BK516.out 2).trans rfl, (blk_cell BK516.out 3).trans rfl, HS4_, HS5_, HS6_, HS7_⟩ (fun hHeld => ?_)
              clear hK K
              refine norm_ (a' := ?_) ?_ ?_
              rotate_left
              · show Act.put _ (some 33) _ = _
                simp only [Act.put, List.setIfInBounds_toArray, List.set_cons_zero, List.set_cons_succ, i64_w, i32_w]
                rfl
              refine one_ (i := 9) (N := some 35) #[true, true, true, true, true, true, true, true, true, true, false, false, false] rfl rfl (one_of HT_.out (by kernel_rfl)) (by decide) (fun K hK => ?_)
              refine gs _ Try.func57 (grids_inverse.calls x517000_1 x517001_1 x517002_1 x517003_1 t525 t526 t527 t528 _ A27.out) ?_
              rintro e w33 ⟨rfl, hb⟩
              have HS4_ := (hb.cell (World.block_lt_of_cell? _ _ (hHeld.2.2.2.2.1))).trans (hHeld.2.2.2.2.1)
              have HS5_ := (hb.cell (World.block_lt_of_cell? _ _ (hHeld.2.2.2.2.2.1))).trans (hHeld.2.2.2.2.2.1)
              have HS6_ := (hb.cell (World.block_lt_of_cell? _ _ (hHeld.2.2.2.2.2.2.1))).trans (hHeld.2.2.2.2.2.2.1)
              have HS7_ := (hb.cell (World.block_lt_of_cell? _ _ (hHeld.2.2.2.2.2.2.2))).trans (hHeld.2.2.2.2.2.2.2)
              refine ⟨_, rfl, ?_⟩
              have n0_ := Aside0.mk (Kd.R_below (by (with_reducible repeat (first | apply Kd.R_alloc | apply Kd.R_drewN | apply Kd.R_drew)); exact HO_7.out) hb)
              have n1_ := bb BK506 hb
              have n2_ := bb BK515 hb
              have n3_ := bb BK516 hb
              have n4_ := bst HB hb
              clear HO_7
              clear BK506
              clear BK515
              clear BK516
              clear HB
              have HO_7 := n0_
              have BK506 := n1_
              have BK515 := n2_
              have BK516 := n3_
              have HB := n4_
              clear n0_ n1_ n2_ n3_ n4_
              (try clear hb)
              (try clear hb2)
              (try clear hk)
              (try clear hi)
              refine hK.out _ _ ⟨(blk_cell BK516.out 0).trans rfl, (blk_cell BK516.out 1).trans rfl, (blk_cell BK516.out 2).trans rfl, (blk_cell BK516.out 3).trans rfl, HS4_, HS5_, HS6_, HS7_⟩ (fun hHeld => ?_)
              clear hK K
              refine norm_ (a' := ?_) ?_ ?_
              rotate_left
              · show Act.put _ (some 35) _ = _
                simp only [Act.put, List.setIfInBounds_toArray, List.set_cons_zero, List.set_cons_succ, i64_w, i32_w]
                rfl
              refine one_ (i := 10) (N := some 36) #[true, true, true, true, true, true, true, true, true, true, true, false, false] rfl rfl (one_of HT_.out (by kernel_rfl)) (by decide) (fun K hK => ?_)
              refine gs _ Try.func40 (grids_times.calls t521 t522 t523 t524 t525 t526 t527 t528 t529 t530 t531 t532 _ A28.out) ?_
              rintro e w34 ⟨rfl, hb⟩
              have HS4_ := (hb.cell (World.block_lt_of_cell? _ _ (hHeld.2.2.2.2.1))).trans (hHeld.2.2.2.2.1)
              have HS5_ := (hb.cell (World.block_lt_of_cell? _ _ (hHeld.2.2.2.2.2.1))).trans (hHeld.2.2.2.2.2.1)
              have HS6_ := (hb.cell (World.block_lt_of_cell? _ _ (hHeld.2.2.2.2.2.2.1))).trans (hHeld.2.2.2.2.2.2.1)
              have HS7_ := (hb.cell (World.block_lt_of_cell? _ _ (hHeld.2.2.2.2.2.2.2))).trans (hHeld.2.2.2.2.2.2.2)
              refine ⟨_, rfl, ?_⟩
              have n0_ := Aside0.mk (Kd.R_below (by (with_reducible repeat (first | apply Kd.R_alloc | apply Kd.R_drewN | apply Kd.R_drew)); exact HO_7.out) hb)
              have n1_ := bb BK506 hb
              have n2_ := bb BK515 hb
              have n3_ := bb BK516 hb
              have n4_ := bst HB hb
              clear HO_7
              clear BK506
              clear BK515
              clear BK516
              clear HB
              have HO_7 := n0_
              have BK506 := n1_
              have BK515 := n2_
              have BK516 := n3_
              have HB := n4_
              clear n0_ n1_ n2_ n3_ n4_
              (try clear hb)
              (try clear hb2)
              (try clear hk)
              (try clear hi)
              have p29 : 0 ≤ (x23_1 : Int) := of_decide_eq_true (by first | (with_reducible assumption) | assumption)
              have q29 : (x23_1 : Int) < ((x7_1.length : Int) : Int) := of_decide_eq_true (by first | (with_reducible assumption) | assumption)
              obtain ⟨go29, co29, eo29, gb29, gl29, cl29, HG29⟩ := Kd.R_form HO_7.out (by omega)
              (first | cases eo29 | (injection eo29 with ea_ en_ ec_; (first | subst ea_ | (injection ea_ with ea_; subst ea_)); subst ec_; clear en_))
              have GB29 := Aside0.mk gb29
              have GG29 := Aside0.mk HG29
              clear gb29 gl29 HG29
              (first | simp only [add_plain] at hx520_0 | skip)
              (first | simp only [add_plain] at hx520_1 | skip)
              (first | simp only [add_plain] at hx520_2 | skip)
              (first | simp only [add_plain] at hx520_3 | skip)
              obtain ⟨ce29, hcl29, hM29, hcc29, hfr29⟩ := Kd.R_elem HO_7.out z25 (x23_1 : Int) p29 q29
              obtain rfl := k25_openM hM29
              have hx29_0 : World.cell? _ ⟨go29, (x23_1 : Int).toNat * 4, none⟩ = some (.int .i64 ((rd_T25 x7_1 x23_1).f0)) := hcc29 0 _ rfl
              have hx29_1 : World.cell? _ ⟨go29, (x23_1 : Int).toNat * 4 + 1, none⟩ = some (.int .i64 ((rd_T25 x7_1 x23_1).f1)) := hcc29 1 _ rfl
              have hx29_2 : World.cell? _ ⟨go29, (x23_1 : Int).toNat * 4 + 2, none⟩ = some (.int .i64 ((rd_T25 x7_1 x23_1).f2)) := hcc29 2 _ rfl
              have hx29_3 : World.cell? _ ⟨go29, (x23_1 : Int).toNat * 4 + 3, none⟩ = some (.int .i64 ((rd_T25 x7_1 x23_1).f3)) := hcc29 3 _ rfl
              have hf29_0 : World.frozen? _ ⟨go29, (x23_1 : Int).toNat * 4, none⟩ = false := hfr29 0
              have hf29_1 : World.frozen? _ ⟨go29, (x23_1 : Int).toNat * 4 + 1, none⟩ = false := hfr29 1
              have hf29_2 : World.frozen? _ ⟨go29, (x23_1 : Int).toNat * 4 + 2, none⟩ = false := hfr29 2
              have hf29_3 : World.frozen? _ ⟨go29, (x23_1 : Int).toNat * 4 + 3, none⟩ = false := hfr29 3
              (try rw [World.frozen?_setCells] at hf29_0)
              (try rw [World.frozen?_setCells] at hf29_1)
              (try rw [World.frozen?_setCells] at hf29_2)
              (try rw [World.frozen?_setCells] at hf29_3)
              clear hcl29 hcc29 hfr29 hM29
              replace p29 := eq_true p29
              replace q29 := eq_true q29
              obtain ⟨ce35, hcl35, hM35, hcc35, hfr35⟩ := Kd.R_elem HO_7.out z25 (x23_1 : Int) (of_decide_eq_true (by first | (with_reducible assumption) | assumption)) (by have h_ : (x23_1 : Int) < ((x7_1.length : Int) : Int) := of_decide_eq_true (by first | (with_reducible assumption) | assumption); first | exact h_ | (have e_ := (Kd.R_reads' HO_7.out).1; omega) | simpa using h_)
              obtain rfl := k25_openM hM35
              have HP35 := (Kd.R_seg HO_7.out (x23_1 : Int) (of_decide_eq_true (by first | (with_reducible assumption) | assumption)) (by have h_ : (x23_1 : Int) < ((x7_1.length : Int) : Int) := of_decide_eq_true (by first | (with_reducible assumption) | assumption); first | exact h_ | (have e_ := (Kd.R_reads' HO_7.out).1; omega) | simpa using h_) (seg := [.int .i64 t529, .int .i64 t530, .int .i64 t531, .int .i64 t532]) (j := 0) hcl35 hcc35 (show 4 ≤ 4 from by decide) (x' := (⟨t529, t530, t531, t532⟩ : S25)) (k25_mkM _ _ _ (⟨t529, t530, t531, t532⟩ : S25) ) (fun _ hk => hk)).1
              rw [← Ny533.out] at HP35
              have HQ35 := Aside0.mk HP35
              clear hcl35 hcc35 hfr35 hM35 HP35
              refine hK.out _ _ ⟨(blk_cell BK516.out 0).trans rfl, (blk_cell BK516.out 1).trans rfl, (blk_cell BK516.out 2).trans rfl, (blk_cell BK516.out 3).trans rfl, HS4_, HS5_, HS6_, HS7_⟩ (fun hHeld => ?_)
              clear hK K
              refine norm_ (a' := ?_) ?_ ?_
              rotate_left
              · show Act.put _ (some 36) _ = _
                simp only [Act.put, List.setIfInBounds_toArray, List.set_cons_zero, List.set_cons_succ, i64_w, i32_w]
                rfl
              refine pz 11 37 HT_ ?_
              refine last_ (i := 12) (N := none) #[true, true, true, true, true, true, true, true, true, true, true, true, true] rfl rfl (one_of HT_.out (by kernel_rfl)) (by decide) (fun K hK => ?_)
              refine skip_ (w1 := ?_) (by rfl) rfl ?_ ?_
              rotate_left
              · go_simp
                rfl
              refine hK.out _ _ ?_
              clear hK K
              refine done_ (done_of HT_.out (by kernel_rfl)) ?_
              try go_wp2
              (try simp only [← hl7_1])
              go_roundg k1
              case measure => have := HK1.out; omega
              case rel => exact ⟨(y533), (z534), (x517000_1), (x517001_1), (x517002_1), (x517003_1), (by first | rfl | (simp; done) | (simp [*]; done)), H', ⟨by have := HK1.out; omega⟩, ⟨by (try simp only [hl7_1]); (with_reducible repeat (first | apply Kd.R_alloc | apply Kd.R_drewN | apply Kd.R_drew)); exact HQ35.out⟩, ⟨by (try simp only [hl7_1]); (with_reducible repeat (first | refine blk_drewN ?_ _ | refine blk_drew ?_ | refine blk_alloc ?_ _)); refine blk_far ?_ (by have h_ := Kd.R_ne HO_7.out BK506.out (by decide); intro e_; exact h_ (by rw [e_]; rfl)) _; (with_reducible repeat (first | refine blk_drewN ?_ _ | refine blk_drew ?_ | refine blk_alloc ?_ _)); refine blk_far ?_ (by have h_ := Kd.R_ne HO_7.out BK506.out (by decide); intro e_; exact h_ (by rw [e_]; rfl)) _; (with_reducible repeat (first | refine blk_drewN ?_ _ | refine blk_drew ?_ | refine blk_alloc ?_ _)); refine blk_far ?_ (by have h_ := Kd.R_ne HO_7.out BK506.out (by decide); intro e_; exact h_ (by rw [e_]; rfl)) _; (with_reducible repeat (first | refine blk_drewN ?_ _ | refine blk_drew ?_ | refine blk_alloc ?_ _)); refine blk_far ?_ (by have h_ := Kd.R_ne HO_7.out BK506.out (by decide); intro e_; exact h_ (by rw [e_]; rfl)) _; (with_reducible repeat (first | refine blk_drewN ?_ _ | refine blk_drew ?_ | refine blk_alloc ?_ _)); exact BK506.out⟩, ⟨by (try simp only [hl7_1]); (with_reducible repeat (first | refine blk_drewN ?_ _ | refine blk_drew ?_ | refine blk_alloc ?_ _)); refine blk_far ?_ (by have h_ := Kd.R_ne HO_7.out BK515.out (by decide); intro e_; exact h_ (by rw [e_]; rfl)) _; (with_reducible repeat (first | refine blk_drewN ?_ _ | refine blk_drew ?_ | refine blk_alloc ?_ _)); refine blk_far ?_ (by have h_ := Kd.R_ne HO_7.out BK515.out (by decide); intro e_; exact h_ (by rw [e_]; rfl)) _; (with_reducible repeat (first | refine blk_drewN ?_ _ | refine blk_drew ?_ | refine blk_alloc ?_ _)); refine blk_far ?_ (by have h_ := Kd.R_ne HO_7.out BK515.out (by decide); intro e_; exact h_ (by rw [e_]; rfl)) _; (with_reducible repeat (first | refine blk_drewN ?_ _ | refine blk_drew ?_ | refine blk_alloc ?_ _)); refine blk_far ?_ (by have h_ := Kd.R_ne HO_7.out BK515.out (by decide); intro e_; exact h_ (by rw [e_]; rfl)) _; (with_reducible repeat (first | refine blk_drewN ?_ _ | refine blk_drew ?_ | refine blk_alloc ?_ _)); exact BK515.out⟩, ⟨by (try simp only [hl7_1]); (with_reducible repeat (first | refine blk_drewN ?_ _ | refine blk_drew ?_ | refine blk_alloc ?_ _)); refine blk_far ?_ (by have h_ := Kd.R_away HO_7.out (fun _ hk => hk); intro e_; exact h_ (by rw [e_]; rfl)) _; (with_reducible repeat (first | refine blk_drewN ?_ _ | refine blk_drew ?_ | refine blk_alloc ?_ _)); refine blk_far ?_ (by have h_ := Kd.R_away HO_7.out (fun _ hk => hk); intro e_; exact h_ (by rw [e_]; rfl)) _; (with_reducible repeat (first | refine blk_drewN ?_ _ | refine blk_drew ?_ | refine blk_alloc ?_ _)); refine blk_far ?_ (by have h_ := Kd.R_away HO_7.out (fun _ hk => hk); intro e_; exact h_ (by rw [e_]; rfl)) _; (with_reducible repeat (first | refine blk_drewN ?_ _ | refine blk_drew ?_ | refine blk_alloc ?_ _)); refine blk_far ?_ (by have h_ := Kd.R_away HO_7.out (fun _ hk => hk); intro e_; exact h_ (by rw [e_]; rfl)) _; (with_reducible repeat (first | refine blk_drewN ?_ _ | refine blk_drew ?_ | refine blk_alloc ?_ _)); exact BK516.out⟩, ⟨by repeat (first | (with_reducible first | exact HB.out | apply below_alloc | apply pw_below_drewN | apply below_drew1 | refine below_set ?_ GB29.out | refine below_set ?_ GB29.out | refine below_set ?_ GB29.out | refine below_set ?_ GB29.out | refine below_set ?_ GE506.out | refine below_set ?_ GE515.out | refine below_set ?_ GE516.out) | exact HB.out)⟩⟩
            · rw [if_neg c25] at H
              exact absurd H (by simp)
          · rw [if_neg c24] at H
            exact absurd H (by simp)
        · rw [if_neg c23] at H
          have c23b0 : decide (x23_1 < (t517.length : Int)) = false := decide_eq_false c23
          (try (have c23h0 := c23b0; simp only [hl7_1] at c23h0))
          clear c23
          replace H := Option.bind_eq_some_iff.mp H
          obtain ⟨t535, A360, H⟩ := H
          replace H : (some (t535, 0)) = some (r1, r2) := H
          have A36 := Aside0.mk A360
          clear A360
          simp only [Option.some.injEq, Prod.mk.injEq] at H
          obtain ⟨rfl, rfl⟩ := H
          go_wp2_with (first | ((with_reducible refine gate_callee (f := 58) rfl ?_); refine goesL_ (some 40) rfl rfl Try.func58 (by kernel_rfl) rfl #[.slice Ao22 x7_1.length co22, .func (.func 42) #[] #[]] rfl am ?_; (with_reducible refine (api_GrMatrix_58.calls k1 (fun k_ => some k_ = (.slice Ao22 x7_1.length co22 : Value).ownBlock) (.slice Ao22 x7_1.length co22) x7_1  t535 w _ ?side1 ?side2 A36.out).mono ?_); (case side1 => repeat (first | (with_reducible first | exact HB.out | apply below_alloc | apply pw_below_drewN | apply below_drew1 | refine below_set ?_ GE506.out | refine below_set ?_ GE515.out | refine below_set ?_ GE516.out) | exact HB.out)); (case side2 => exact Kd.R_tight rfl HO_7.out); rintro e w37 ⟨rfl, hy0, hb, hkp⟩; refine ⟨_, rfl, ?_⟩; have n0_ := Aside0.mk (Kd.R_reok rfl hy0 (fun k_ e_ => HO_7.out.1 k_ e_)); have n1_ := Aside0.mk (blk_kept (pk BK506) hkp (fun hs_ => (fun e_ => (Kd.R_ne HO_7.out BK506.out (by decide)) e_) hs_)); have n2_ := Aside0.mk (blk_kept (pk BK515) hkp (fun hs_ => (fun e_ => (Kd.R_ne HO_7.out BK515.out (by decide)) e_) hs_)); have n3_ := Aside0.mk (blk_kept (pk BK516) hkp (fun hs_ => (fun e_ => (Kd.R_away HO_7.out (fun _ hk => hk)) e_) hs_)); have n4_ := Aside0.mk (hb); clear HO_7; clear BK506; clear BK515; clear BK516; clear HB; have HO_7 := n0_; have BK506 := n1_; have BK515 := n2_; have BK516 := n3_; have HB := n4_; clear n0_ n1_ n2_ n3_ n4_; (try clear hb); (try clear hkp); (try clear hy0)))
          go_ret2
          exact ⟨_, by first | rfl | (simp [errW_none, errW_some] <;> rfl) | (simp [*, errW_none, errW_some] <;> rfl), by (with_reducible repeat (first | apply Kd.R_alloc | apply Kd.R_drewN | apply Kd.R_drew)); exact Kd.R_mono HO_7.out (fun _ hk => trivial), by repeat (first | (with_reducible first | exact HB.out | apply below_alloc | apply pw_below_drewN | apply below_drew1 | refine below_set ?_ GE506.out | refine below_set ?_ GE515.out | refine below_set ?_ GE516.out) | exact HB.out)⟩
  · rw [if_neg c3] at H
    have c3b0 : (t507 == 0) = false := beq_eq_false_iff_ne.mpr c3
    have c3b1 : (t507 != 0) = true := bne_iff_ne.mpr c3
    simp only [Option.some.injEq, Prod.mk.injEq] at H
    obtain ⟨rfl, rfl⟩ := H
    go_enter Try.func22, Try.ntmps22
    go_wp2_with (first | ((with_reducible refine gate_dst (N := 1) rfl ?_); refine bx 1 #[.int .i64 a0_0, .int .i64 a0_1, .int .i64 a0_2] 23 fun gb506 hg w38 BK506 hb => ?_; have GW506 := gw hg HB; have GE506 := gw hg HB; replace HB := bst HB hb; clear hb hg; have ⟨hcz39_0, hcz39_1, hcz39_2, hfz39_0, hfz39_1, hfz39_2⟩ := cf3 BK506) | ((with_reducible refine gate_callee (f := 14) rfl ?_); refine gl 10 Try.func14 (grids_Check.calls k a0_0 a0_1 a0_2 t507 _ A2.out) ?_; rintro e w40 ⟨rfl, hb⟩; refine ⟨_, rfl, ?_⟩; replace BK506 := bb BK506 hb; replace HB := bst HB hb; clear hb))
    go_ret2
    exact ⟨_, by first | rfl | (simp [errW_none, errW_some] <;> rfl) | (simp [*, errW_none, errW_some] <;> rfl), by first | exact Kd.R_nil _ _ _ _ _ | exact Kd.N_nil _ _ _ _ _ | exact Kd.V_nil _ _ _ _ _ | exact Kd.Q_nil _ _ _ _ _ | exact Kd.S_nil _ _ _ _ _, by repeat (first | (with_reducible first | exact HB.out | apply below_alloc | apply pw_below_drewN | apply below_drew1 | refine below_set ?_ GE506.out) | exact HB.out)⟩
end
section
attribute [local go_sem high] eqA25
/-! ### grids_Order: function 33 -/
mutual
def grids_Order.j0 : Nat → Int → Int → Bool → Option (Int × Int)
  | 0, _, _, _ => none
  | k + 1, x5, x6, x28 => if x28 = true then (some (3, 0)) else (if x5 = 1 then (grids_Order.j1 k x5 x6 (x6 == 0)) else (grids_Order.j1 k x5 x6 false))
def grids_Order.j1 : Nat → Int → Int → Bool → Option (Int × Int)
  | 0, _, _, _ => none
  | k + 1, x5, x6, x35 => if x35 = true then (some (4, 0)) else (if x5 = 1 then (if x6 = 1 then (some (6, 0)) else (some (0, 0))) else (some (0, 0)))
end
def grids_Order.f (k : Nat) (a0_0 : Int) (a0_1 : Int) (a0_2 : Int) (a0_3 : Int) : Option (Int × Int) := (grids_matrix.f a0_0 a0_1 a0_2 a0_3).bind fun t574 => (if t574 = true then ((grids_det.f a0_0 a0_1 a0_2 a0_3).bind fun t576 => ((some (wrap64 (a0_0 + a0_3))).bind fun z577 => (if (a0_0 == 1 && (a0_1 == 0 && (a0_2 == 0 && (a0_3 == 1)))) = true then (some (1, 0)) else ((grids_times.f a0_0 a0_1 a0_2 a0_3 a0_0 a0_1 a0_2 a0_3).bind fun bt578 => (if (bt578.1 == 1 && (bt578.2.1 == 0 && (bt578.2.2.1 == 0 && (bt578.2.2.2 == 1)))) = true then (some (2, 0)) else (if t576 = 1 then (grids_Order.j0 k t576 z577 (z577 == (-1))) else (grids_Order.j0 k t576 z577 false))))))) else (some (0, 2)))
theorem grids_Order.mono_l : ∀ k, (∀ y0 y1 y2, LeO (grids_Order.j0 k y0 y1 y2) (grids_Order.j0 (k + 1) y0 y1 y2)) ∧ (∀ y0 y1 y2, LeO (grids_Order.j1 k y0 y1 y2) (grids_Order.j1 (k + 1) y0 y1 y2))
  | 0 => ⟨fun _ _ _ r h => by simp [grids_Order.j0] at h, fun _ _ _ r h => by simp [grids_Order.j1] at h⟩
  | k + 1 => by
    obtain ⟨ih0, ih1⟩ := grids_Order.mono_l k
    refine ⟨?_, ?_⟩
    · intro y0 y1 y2
      unfold grids_Order.j0
      repeat' first
      | (with_reducible exact ih0 _ _ _)
      | (with_reducible exact ih1 _ _ _)
      | (with_reducible exact LeO.refl _)
      | (with_reducible exact LeO.none _)
      | (with_reducible refine LeO.ite ?_ ?_)
      | (with_reducible refine LeO.bind ?_ (fun _ => ?_))
      | exact ih0 _ _ _
      | exact ih1 _ _ _
      | exact LeO.none _
      | refine LeO.ite ?_ ?_
      | refine LeO.bind ?_ (fun _ => ?_)
    · intro y0 y1 y2
      unfold grids_Order.j1
      repeat' first
      | (with_reducible exact ih0 _ _ _)
      | (with_reducible exact ih1 _ _ _)
      | (with_reducible exact LeO.refl _)
      | (with_reducible exact LeO.none _)
      | (with_reducible refine LeO.ite ?_ ?_)
      | (with_reducible refine LeO.bind ?_ (fun _ => ?_))
      | exact ih0 _ _ _
      | exact ih1 _ _ _
      | exact LeO.none _
      | refine LeO.ite ?_ ?_
      | refine LeO.bind ?_ (fun _ => ?_)
theorem grids_Order.mono : ∀ a0 a1 a2 a3 k, LeO (grids_Order.f k a0 a1 a2 a3) (grids_Order.f (k + 1) a0 a1 a2 a3) := by
  intro a0 a1 a2 a3 k
  obtain ⟨ih0, ih1⟩ := grids_Order.mono_l k
  unfold grids_Order.f
  repeat' first
      | (with_reducible exact ih0 _ _ _)
      | (with_reducible exact ih1 _ _ _)
      | (with_reducible exact LeO.refl _)
      | (with_reducible exact LeO.none _)
      | (with_reducible refine LeO.ite ?_ ?_)
      | (with_reducible refine LeO.bind ?_ (fun _ => ?_))
      | exact ih0 _ _ _
      | exact ih1 _ _ _
      | exact LeO.none _
      | refine LeO.ite ?_ ?_
      | refine LeO.bind ?_ (fun _ => ?_)
def grids_Order.T4 : Bool × List (List Nat × List Nat) := (true, [([], []), ([0], [0]), ([], []), ([2], [2]), ([], []), ([4], [4]), ([3, 5], [3, 5]), ([1, 1, 0, 1], [1]), ([6, 7, 0, 1, 2, 3, 4, 5, 6, 7], [6])])
def grids_Order.B4 : List Nat := [0, 1, 0, 4, 0, 16, 60, 3, 255]
theorem grids_Order.tab4 : rtab .any (opsOf Try.f33 4) = grids_Order.T4 := by kernel_rfl
theorem grids_Order.bits4 : waitsOk grids_Order.T4.2 grids_Order.B4 = true := by kernel_rfl
set_option maxHeartbeats 8000000 in
set_option maxRecDepth 100000 in
theorem grids_Order.calls (k : Nat) (a0_0 : Int) (a0_1 : Int) (a0_2 : Int) (a0_3 : Int) (r1 : Int) (r2 : Int) (w : World) (h : grids_Order.f k a0_0 a0_1 a0_2 a0_3 = some (r1, r2)) :
    Calls Try.prog 33 #[.agg #[.int .i64 a0_0, .int .i64 a0_1, .int .i64 a0_2, .int .i64 a0_3]] w fun e w' => e = .returned (.tuple #[.int .i64 r1, .int .i64 r2]) ∧ Below w.heap.size w w' := by
  have hu25 := Try.underlying25
  have HB := Aside0.mk (Below.refl w.heap.size w)
  have H : ((grids_matrix.f a0_0 a0_1 a0_2 a0_3).bind fun t574 => (if t574 = true then ((grids_det.f a0_0 a0_1 a0_2 a0_3).bind fun t576 => ((some (wrap64 (a0_0 + a0_3))).bind fun z577 => (if (a0_0 == 1 && (a0_1 == 0 && (a0_2 == 0 && (a0_3 == 1)))) = true then (some (1, 0)) else ((grids_times.f a0_0 a0_1 a0_2 a0_3 a0_0 a0_1 a0_2 a0_3).bind fun bt578 => (if (bt578.1 == 1 && (bt578.2.1 == 0 && (bt578.2.2.1 == 0 && (bt578.2.2.2 == 1)))) = true then (some (2, 0)) else (if t576 = 1 then (grids_Order.j0 k t576 z577 (z577 == (-1))) else (grids_Order.j0 k t576 z577 false))))))) else (some (0, 2)))) = some (r1, r2) := h
  clear h
  replace H := Option.bind_eq_some_iff.mp H
  obtain ⟨t574, A20, H⟩ := H
  replace H : (if t574 = true then ((grids_det.f a0_0 a0_1 a0_2 a0_3).bind fun t576 => ((some (wrap64 (a0_0 + a0_3))).bind fun z577 => (if (a0_0 == 1 && (a0_1 == 0 && (a0_2 == 0 && (a0_3 == 1)))) = true then (some (1, 0)) else ((grids_times.f a0_0 a0_1 a0_2 a0_3 a0_0 a0_1 a0_2 a0_3).bind fun bt578 => (if (bt578.1 == 1 && (bt578.2.1 == 0 && (bt578.2.2.1 == 0 && (bt578.2.2.2 == 1)))) = true then (some (2, 0)) else (if t576 = 1 then (grids_Order.j0 k t576 z577 (z577 == (-1))) else (grids_Order.j0 k t576 z577 false))))))) else (some (0, 2))) = some (r1, r2) := H
  have A2 := Aside0.mk A20
  clear A20
  by_cases c3 : t574 = true
  · subst c3
    have H1 : ((grids_det.f a0_0 a0_1 a0_2 a0_3).bind fun t576 => ((some (wrap64 (a0_0 + a0_3))).bind fun z577 => (if (a0_0 == 1 && (a0_1 == 0 && (a0_2 == 0 && (a0_3 == 1)))) = true then (some (1, 0)) else ((grids_times.f a0_0 a0_1 a0_2 a0_3 a0_0 a0_1 a0_2 a0_3).bind fun bt578 => (if (bt578.1 == 1 && (bt578.2.1 == 0 && (bt578.2.2.1 == 0 && (bt578.2.2.2 == 1)))) = true then (some (2, 0)) else (if t576 = 1 then (grids_Order.j0 k t576 z577 (z577 == (-1))) else (grids_Order.j0 k t576 z577 false))))))) = some (r1, r2) := by rw [if_pos rfl] at H; exact H
    clear H
    have H := H1
    clear H1
    replace H := Option.bind_eq_some_iff.mp H
    obtain ⟨t576, A40, H⟩ := H
    replace H : ((some (wrap64 (a0_0 + a0_3))).bind fun z577 => (if (a0_0 == 1 && (a0_1 == 0 && (a0_2 == 0 && (a0_3 == 1)))) = true then (some (1, 0)) else ((grids_times.f a0_0 a0_1 a0_2 a0_3 a0_0 a0_1 a0_2 a0_3).bind fun bt578 => (if (bt578.1 == 1 && (bt578.2.1 == 0 && (bt578.2.2.1 == 0 && (bt578.2.2.2 == 1)))) = true then (some (2, 0)) else (if t576 = 1 then (grids_Order.j0 k t576 z577 (z577 == (-1))) else (grids_Order.j0 k t576 z577 false)))))) = some (r1, r2) := H
    have A4 := Aside0.mk A40
    clear A40
    replace H := Option.bind_eq_some_iff.mp H
    obtain ⟨z577, E50, H⟩ := H
    replace H : (if (a0_0 == 1 && (a0_1 == 0 && (a0_2 == 0 && (a0_3 == 1)))) = true then (some (1, 0)) else ((grids_times.f a0_0 a0_1 a0_2 a0_3 a0_0 a0_1 a0_2 a0_3).bind fun bt578 => (if (bt578.1 == 1 && (bt578.2.1 == 0 && (bt578.2.2.1 == 0 && (bt578.2.2.2 == 1)))) = true then (some (2, 0)) else (if t576 = 1 then (grids_Order.j0 k t576 z577 (z577 == (-1))) else (grids_Order.j0 k t576 z577 false))))) = some (r1, r2) := H
    replace E50 := Option.some.inj E50
    have E5w : (IntKind.i64.wrap (a0_0 + a0_3)) = z577 := (i64_w _).trans E50
    by_cases c6 : (a0_0 == 1 && (a0_1 == 0 && (a0_2 == 0 && (a0_3 == 1)))) = true
    · rw [if_pos c6] at H
      have c6b0 : (a0_0 == 1 && (a0_1 == 0 && (a0_2 == 0 && (a0_3 == 1)))) = true := c6
      (try (have c6b1 : decide (a0_0 = 1 && (a0_1 == 0 && (a0_2 == 0 && (a0_3 == 1)))) = true := by simpa using c6))
      (try (have c6b2 : (a0_0 == 1 && (a0_1 == 0 && (a0_2 == 0 && (a0_3 == 1)))) = true := by simpa using c6))
      clear c6
      simp only [Option.some.injEq, Prod.mk.injEq] at H
      obtain ⟨rfl, rfl⟩ := H
      go_enter Try.func33, Try.ntmps33
      try go_wp2_with (first | ((with_reducible refine gate_dst (N := 1) rfl ?_); refine bx 1 #[.int .i64 a0_0, .int .i64 a0_1, .int .i64 a0_2, .int .i64 a0_3] 25 fun gb573 hg w7 BK573 hb => ?_; have GW573 := gw hg HB; have GE573 := gw hg HB; replace HB := bst HB hb; clear hb hg; have ⟨hcz8_0, hcz8_1, hcz8_2, hcz8_3, hfz8_0, hfz8_1, hfz8_2, hfz8_3⟩ := cf4 BK573) | ((with_reducible refine gate_callee (f := 59) rfl ?_); refine gl 8 Try.func59 (grids_matrix.calls a0_0 a0_1 a0_2 a0_3 true _ A2.out) ?_; rintro e w9 ⟨rfl, hb⟩; refine ⟨_, rfl, ?_⟩; replace BK573 := bb BK573 hb; replace HB := bst HB hb; clear hb) | ((with_reducible refine gate_dst (N := 4) rfl ?_); refine bx 4 #[.int .i64 0, .int .i64 0, .int .i64 0, .int .i64 0] 25 fun gb575 hg w10 BK575 hb => ?_; have GW575 := gw hg HB; have GE575 := gw hg HB; have NB573_575 := nlt hg BK573; have NB575_573 := ngt hg BK573; replace BK573 := bb BK573 hb; replace HB := bst HB hb; clear hb hg; have hnb11 := NB575_573.out; have hnc11 := NB573_575.out; have ⟨hcz12_0, hcz12_1, hcz12_2, hcz12_3, hfz12_0, hfz12_1, hfz12_2, hfz12_3⟩ := cf4 BK575) | ((with_reducible refine gate_store (t := 25) (p := 4) rfl ?_); refine sx 25 4 (((((w10.setCell ⟨gb575, 0, none⟩ (.int .i64 1)).setCell ⟨gb575, 1, none⟩ (.int .i64 0)).setCell ⟨gb575, 2, none⟩ (.int .i64 0)).setCell ⟨gb575, 3, none⟩ (.int .i64 1))) fun w13 hw => ?_; replace BK573 := fw hw BK573; replace BK575 := pw4 hw BK575; replace HB := bw hw HB; clear hw))
      replace BK573 := bd BK573
      replace BK575 := bd BK575
      replace HB := bdn HB
      refine start_ (n := 9) (S := fun w' => w'.cell? ⟨gb573, 0, none⟩ = some (.int .i64 a0_0) ∧ w'.cell? ⟨gb573, 1, none⟩ = some (.int .i64 a0_1) ∧ w'.cell? ⟨gb573, 2, none⟩ = some (.int .i64 a0_2) ∧ w'.cell? ⟨gb573, 3, none⟩ = some (.int .i64 a0_3)) (ds := []) #[false, false, false, false, false, false, false, false, false] (by kernel_rfl) rfl rfl ⟨(blk_cell BK573.out 0).trans rfl, (blk_cell BK573.out 1).trans rfl, (blk_cell BK573.out 2).trans rfl, (blk_cell BK573.out 3).trans rfl⟩ (fun hHeld => ?_); refine with_tabW grids_Order.tab4 grids_Order.bits4 (fun HT_ HW_ => ?_)
      generalize w13.drew = w14 at BK573 BK575 HB hHeld ⊢
      refine pz 2 13 HT_ ?_
      refine pz 4 15 HT_ ?_
      refine tz 0 11 HT_ HW_ hHeld ?_
      refine tz 3 14 HT_ HW_ hHeld ?_
      refine tz 5 16 HT_ HW_ hHeld ?_
      refine pz 6 17 HT_ ?_
      refine one_ (i := 1) (N := some 12) #[true, true, true, true, true, true, true, false, false] rfl rfl (one_of HT_.out (by kernel_rfl)) (by decide) (fun K hK => ?_)
      refine gs _ Try.func68 (grids_det.calls a0_0 a0_1 a0_2 a0_3 t576 _ A4.out) ?_
      rintro e w15 ⟨rfl, hb⟩
      refine ⟨_, rfl, ?_⟩
      replace BK573 := bb BK573 hb
      replace BK575 := bb BK575 hb
      replace HB := bst HB hb
      (try clear hb)
      (try clear hb2)
      (try clear hk)
      (try clear hi)
      refine hK.out _ _ ⟨(blk_cell BK573.out 0).trans rfl, (blk_cell BK573.out 1).trans rfl, (blk_cell BK573.out 2).trans rfl, (blk_cell BK573.out 3).trans rfl⟩ (fun hHeld => ?_)
      clear hK K
      refine norm_ (a' := ?_) ?_ ?_
      rotate_left
      · show Act.put _ (some 12) _ = _
        simp only [Act.put, List.setIfInBounds_toArray, List.set_cons_zero, List.set_cons_succ, i64_w, i32_w]
        rfl
      refine pz 7 5 HT_ ?_
      refine pz 8 6 HT_ ?_
      refine done_ (done_of HT_.out (by kernel_rfl)) ?_
      have ⟨hcz16_0, hcz16_1, hcz16_2, hcz16_3, hfz16_0, hfz16_1, hfz16_2, hfz16_3⟩ := cf4 BK573
      have ⟨hcz17_0, hcz17_1, hcz17_2, hcz17_3, hfz17_0, hfz17_1, hfz17_2, hfz17_3⟩ := cf4 BK575
      try go_wp2
      go_ret2
      exact rt HB
    · rw [if_neg c6] at H
      have c6b0 : (a0_0 == 1 && (a0_1 == 0 && (a0_2 == 0 && (a0_3 == 1)))) = false := by simpa using c6
      (try (have c6b1 : decide (a0_0 = 1 && (a0_1 == 0 && (a0_2 == 0 && (a0_3 == 1)))) = false := by simpa using c6))
      (try (have c6b2 : (a0_0 == 1 && (a0_1 == 0 && (a0_2 == 0 && (a0_3 == 1)))) = false := by simpa using c6))
      (try (have c6b3 : ¬ (a0_0 = 1 && (a0_1 == 0 && (a0_2 == 0 && (a0_3 == 1)))) := by simpa using c6))
      clear c6
      replace H := Option.bind_eq_some_iff.mp H
      obtain ⟨⟨t578, t579, t580, t581⟩, A180, H⟩ := H
      replace H : (if (t578 == 1 && (t579 == 0 && (t580 == 0 && (t581 == 1)))) = true then (some (2, 0)) else (if t576 = 1 then (grids_Order.j0 k t576 z577 (z577 == (-1))) else (grids_Order.j0 k t576 z577 false))) = some (r1, r2) := H
      have A18 := Aside0.mk A180
      clear A180
      by_cases c19 : (t578 == 1 && (t579 == 0 && (t580 == 0 && (t581 == 1)))) = true
      · rw [if_pos c19] at H
        have c19b0 : (t578 == 1 && (t579 == 0 && (t580 == 0 && (t581 == 1)))) = true := c19
        (try (have c19b1 : decide (t578 = 1 && (t579 == 0 && (t580 == 0 && (t581 == 1)))) = true := by simpa using c19))
        (try (have c19b2 : (t578 == 1 && (t579 == 0 && (t580 == 0 && (t581 == 1)))) = true := by simpa using c19))
        clear c19
        simp only [Option.some.injEq, Prod.mk.injEq] at H
        obtain ⟨rfl, rfl⟩ := H
        go_enter Try.func33, Try.ntmps33
        try go_wp2_with (first | ((with_reducible refine gate_dst (N := 1) rfl ?_); refine bx 1 #[.int .i64 a0_0, .int .i64 a0_1, .int .i64 a0_2, .int .i64 a0_3] 25 fun gb573 hg w20 BK573 hb => ?_; have GW573 := gw hg HB; have GE573 := gw hg HB; replace HB := bst HB hb; clear hb hg; have ⟨hcz21_0, hcz21_1, hcz21_2, hcz21_3, hfz21_0, hfz21_1, hfz21_2, hfz21_3⟩ := cf4 BK573) | ((with_reducible refine gate_callee (f := 59) rfl ?_); refine gl 8 Try.func59 (grids_matrix.calls a0_0 a0_1 a0_2 a0_3 true _ A2.out) ?_; rintro e w22 ⟨rfl, hb⟩; refine ⟨_, rfl, ?_⟩; replace BK573 := bb BK573 hb; replace HB := bst HB hb; clear hb) | ((with_reducible refine gate_dst (N := 4) rfl ?_); refine bx 4 #[.int .i64 0, .int .i64 0, .int .i64 0, .int .i64 0] 25 fun gb575 hg w23 BK575 hb => ?_; have GW575 := gw hg HB; have GE575 := gw hg HB; have NB573_575 := nlt hg BK573; have NB575_573 := ngt hg BK573; replace BK573 := bb BK573 hb; replace HB := bst HB hb; clear hb hg; have hnb24 := NB575_573.out; have hnc24 := NB573_575.out; have ⟨hcz25_0, hcz25_1, hcz25_2, hcz25_3, hfz25_0, hfz25_1, hfz25_2, hfz25_3⟩ := cf4 BK575) | ((with_reducible refine gate_store (t := 25) (p := 4) rfl ?_); refine sx 25 4 (((((w23.setCell ⟨gb575, 0, none⟩ (.int .i64 1)).setCell ⟨gb575, 1, none⟩ (.int .i64 0)).setCell ⟨gb575, 2, none⟩ (.int .i64 0)).setCell ⟨gb575, 3, none⟩ (.int .i64 1))) fun w26 hw => ?_; replace BK573 := fw hw BK573; replace BK575 := pw4 hw BK575; replace HB := bw hw HB; clear hw))
        replace BK573 := bd BK573
        replace BK575 := bd BK575
        replace HB := bdn HB
        refine start_ (n := 9) (S := fun w' => w'.cell? ⟨gb573, 0, none⟩ = some (.int .i64 a0_0) ∧ w'.cell? ⟨gb573, 1, none⟩ = some (.int .i64 a0_1) ∧ w'.cell? ⟨gb573, 2, none⟩ = some (.int .i64 a0_2) ∧ w'.cell? ⟨gb573, 3, none⟩ = some (.int .i64 a0_3)) (ds := []) #[false, false, false, false, false, false, false, false, false] (by kernel_rfl) rfl rfl ⟨(blk_cell BK573.out 0).trans rfl, (blk_cell BK573.out 1).trans rfl, (blk_cell BK573.out 2).trans rfl, (blk_cell BK573.out 3).trans rfl⟩ (fun hHeld => ?_); refine with_tabW grids_Order.tab4 grids_Order.bits4 (fun HT_ HW_ => ?_)
        generalize w26.drew = w27 at BK573 BK575 HB hHeld ⊢
        refine pz 2 13 HT_ ?_
        refine pz 4 15 HT_ ?_
        refine tz 0 11 HT_ HW_ hHeld ?_
        refine tz 3 14 HT_ HW_ hHeld ?_
        refine tz 5 16 HT_ HW_ hHeld ?_
        refine pz 6 17 HT_ ?_
        refine one_ (i := 1) (N := some 12) #[true, true, true, true, true, true, true, false, false] rfl rfl (one_of HT_.out (by kernel_rfl)) (by decide) (fun K hK => ?_)
        refine gs _ Try.func68 (grids_det.calls a0_0 a0_1 a0_2 a0_3 t576 _ A4.out) ?_
        rintro e w28 ⟨rfl, hb⟩
        refine ⟨_, rfl, ?_⟩
        replace BK573 := bb BK573 hb
        replace BK575 := bb BK575 hb
        replace HB := bst HB hb
        (try clear hb)
        (try clear hb2)
        (try clear hk)
        (try clear hi)
        refine hK.out _ _ ⟨(blk_cell BK573.out 0).trans rfl, (blk_cell BK573.out 1).trans rfl, (blk_cell BK573.out 2).trans rfl, (blk_cell BK573.out 3).trans rfl⟩ (fun hHeld => ?_)
        clear hK K
        refine norm_ (a' := ?_) ?_ ?_
        rotate_left
        · show Act.put _ (some 12) _ = _
          simp only [Act.put, List.setIfInBounds_toArray, List.set_cons_zero, List.set_cons_succ, i64_w, i32_w]
          rfl
        refine pz 7 5 HT_ ?_
        refine pz 8 6 HT_ ?_
        refine done_ (done_of HT_.out (by kernel_rfl)) ?_
        have ⟨hcz29_0, hcz29_1, hcz29_2, hcz29_3, hfz29_0, hfz29_1, hfz29_2, hfz29_3⟩ := cf4 BK573
        have ⟨hcz30_0, hcz30_1, hcz30_2, hcz30_3, hfz30_0, hfz30_1, hfz30_2, hfz30_3⟩ := cf4 BK575
        try go_wp2
        replace BK573 := bd BK573
        replace BK575 := bd BK575
        replace HB := bdn HB
        refine start_ (n := 6) (S := fun w' => w'.cell? ⟨gb573, 0, none⟩ = some (.int .i64 a0_0) ∧ w'.cell? ⟨gb573, 1, none⟩ = some (.int .i64 a0_1) ∧ w'.cell? ⟨gb573, 2, none⟩ = some (.int .i64 a0_2) ∧ w'.cell? ⟨gb573, 3, none⟩ = some (.int .i64 a0_3) ∧ w'.cell? ⟨gb575, 0, none⟩ = some (.int .i64 1) ∧ w'.cell? ⟨gb575, 1, none⟩ = some (.int .i64 0) ∧ w'.cell? ⟨gb575, 2, none⟩ = some (.int .i64 0) ∧ w'.cell? ⟨gb575, 3, none⟩ = some (.int .i64 1)) (ds := []) #[false, false, false, false, false, false] (by kernel_rfl) rfl rfl ⟨(blk_cell BK573.out 0).trans rfl, (blk_cell BK573.out 1).trans rfl, (blk_cell BK573.out 2).trans rfl, (blk_cell BK573.out 3).trans rfl, (blk_cell BK575.out 0).trans rfl, (blk_cell BK575.out 1).trans rfl, (blk_cell BK575.out 2).trans rfl, (blk_cell BK575.out 3).trans rfl⟩ (fun hHeld => ?_)
        generalize w28.drew = w31 at BK573 BK575 HB hHeld ⊢
        refine take_ (i := 0) (N := some 23) (v := ?_) (a' := ?_) #[true, false, false, false, false, false] rfl rfl (by kernel_rfl) (fun _ _ _ h => h) (Or.inl ⟨by rfl, ?_⟩) hHeld ?_ ?_
        rotate_left
        · rintro w' ⟨s0, s1, s2, s3, s4, s5, s6, s7⟩
          go_simp
          with_reducible rfl
        rotate_left
        · simp only [Act.put, List.setIfInBounds_toArray, List.set_cons_zero, List.set_cons_succ, i64_w, i32_w]
          rfl
        refine take_ (i := 1) (N := some 24) (v := ?_) (a' := ?_) #[true, true, false, false, false, false] rfl rfl (by kernel_rfl) (fun _ _ _ h => h) (Or.inl ⟨by rfl, ?_⟩) hHeld ?_ ?_
        rotate_left
        · rintro w' ⟨s0, s1, s2, s3, s4, s5, s6, s7⟩
          go_simp
          with_reducible rfl
        rotate_left
        · simp only [Act.put, List.setIfInBounds_toArray, List.set_cons_zero, List.set_cons_succ, i64_w, i32_w]
          rfl
        refine take_ (i := 3) (N := some 26) (v := ?_) (a' := ?_) #[true, true, false, true, false, false] rfl rfl (by kernel_rfl) (fun _ _ _ h => h) (Or.inl ⟨by rfl, ?_⟩) hHeld ?_ ?_
        rotate_left
        · rintro w' ⟨s0, s1, s2, s3, s4, s5, s6, s7⟩
          go_simp
          with_reducible rfl
        rotate_left
        · simp only [Act.put, List.setIfInBounds_toArray, List.set_cons_zero, List.set_cons_succ, i64_w, i32_w]
          rfl
        refine one_ (i := 2) (N := some 25) #[true, true, true, true, false, false] rfl rfl (by kernel_rfl) (by decide) (fun K hK => ?_)
        refine gs _ Try.func40 (grids_times.calls a0_0 a0_1 a0_2 a0_3 a0_0 a0_1 a0_2 a0_3 t578 t579 t580 t581 _ A18.out) ?_
        rintro e w32 ⟨rfl, hb⟩
        refine ⟨_, rfl, ?_⟩
        replace BK573 := bb BK573 hb
        replace BK575 := bb BK575 hb
        replace HB := bst HB hb
        (try clear hb)
        (try clear hb2)
        (try clear hk)
        (try clear hi)
        refine hK.out _ _ ⟨(blk_cell BK573.out 0).trans rfl, (blk_cell BK573.out 1).trans rfl, (blk_cell BK573.out 2).trans rfl, (blk_cell BK573.out 3).trans rfl, (blk_cell BK575.out 0).trans rfl, (blk_cell BK575.out 1).trans rfl, (blk_cell BK575.out 2).trans rfl, (blk_cell BK575.out 3).trans rfl⟩ (fun hHeld => ?_)
        clear hK K
        refine norm_ (a' := ?_) ?_ ?_
        rotate_left
        · show Act.put _ (some 25) _ = _
          simp only [Act.put, List.setIfInBounds_toArray, List.set_cons_zero, List.set_cons_succ, i64_w, i32_w]
          rfl
        refine pure_ (i := 4) (N := some 27) (v := ?_) (a' := ?_) #[true, true, true, true, true, false] rfl rfl (by kernel_rfl) (fun _ _ _ h => h) (Or.inl ⟨by rfl, ?_⟩) ?_ ?_
        rotate_left
        · intro w'
          go_simp
          with_reducible rfl
        rotate_left
        · simp only [Act.put, List.setIfInBounds_toArray, List.set_cons_zero, List.set_cons_succ, i64_w, i32_w]
          rfl
        refine pure_ (i := 5) (N := some 22) (v := ?_) (a' := ?_) #[true, true, true, true, true, true] rfl rfl (by kernel_rfl) (fun _ _ _ h => h) (Or.inl ⟨by rfl, ?_⟩) ?_ ?_
        rotate_left
        · intro w'
          go_simp
          with_reducible rfl
        rotate_left
        · simp only [Act.put, List.setIfInBounds_toArray, List.set_cons_zero, List.set_cons_succ, i64_w, i32_w]
          rfl
        refine done_ (by kernel_rfl) ?_
        try go_wp2
        go_ret2
        exact rt HB
      · rw [if_neg c19] at H
        have c19b0 : (t578 == 1 && (t579 == 0 && (t580 == 0 && (t581 == 1)))) = false := by simpa using c19
        (try (have c19b1 : decide (t578 = 1 && (t579 == 0 && (t580 == 0 && (t581 == 1)))) = false := by simpa using c19))
        (try (have c19b2 : (t578 == 1 && (t579 == 0 && (t580 == 0 && (t581 == 1)))) = false := by simpa using c19))
        (try (have c19b3 : ¬ (t578 = 1 && (t579 == 0 && (t580 == 0 && (t581 == 1)))) := by simpa using c19))
        clear c19
        have HC33 := Aside0.mk H
        clear H
        go_enter Try.func33, Try.ntmps33
        try go_wp2_with (first | ((with_reducible refine gate_dst (N := 1) rfl ?_); refine bx 1 #[.int .i64 a0_0, .int .i64 a0_1, .int .i64 a0_2, .int .i64 a0_3] 25 fun gb573 hg w34 BK573 hb => ?_; have GW573 := gw hg HB; have GE573 := gw hg HB; replace HB := bst HB hb; clear hb hg; have ⟨hcz35_0, hcz35_1, hcz35_2, hcz35_3, hfz35_0, hfz35_1, hfz35_2, hfz35_3⟩ := cf4 BK573) | ((with_reducible refine gate_callee (f := 59) rfl ?_); refine gl 8 Try.func59 (grids_matrix.calls a0_0 a0_1 a0_2 a0_3 true _ A2.out) ?_; rintro e w36 ⟨rfl, hb⟩; refine ⟨_, rfl, ?_⟩; replace BK573 := bb BK573 hb; replace HB := bst HB hb; clear hb) | ((with_reducible refine gate_dst (N := 4) rfl ?_); refine bx 4 #[.int .i64 0, .int .i64 0, .int .i64 0, .int .i64 0] 25 fun gb575 hg w37 BK575 hb => ?_; have GW575 := gw hg HB; have GE575 := gw hg HB; have NB573_575 := nlt hg BK573; have NB575_573 := ngt hg BK573; replace BK573 := bb BK573 hb; replace HB := bst HB hb; clear hb hg; have hnb38 := NB575_573.out; have hnc38 := NB573_575.out; have ⟨hcz39_0, hcz39_1, hcz39_2, hcz39_3, hfz39_0, hfz39_1, hfz39_2, hfz39_3⟩ := cf4 BK575) | ((with_reducible refine gate_store (t := 25) (p := 4) rfl ?_); refine sx 25 4 (((((w37.setCell ⟨gb575, 0, none⟩ (.int .i64 1)).setCell ⟨gb575, 1, none⟩ (.int .i64 0)).setCell ⟨gb575, 2, none⟩ (.int .i64 0)).setCell ⟨gb575, 3, none⟩ (.int .i64 1))) fun w40 hw => ?_; replace BK573 := fw hw BK573; replace BK575 := pw4 hw BK575; replace HB := bw hw HB; clear hw))
        replace BK573 := bd BK573
        replace BK575 := bd BK575
        replace HB := bdn HB
        refine start_ (n := 9) (S := fun w' => w'.cell? ⟨gb573, 0, none⟩ = some (.int .i64 a0_0) ∧ w'.cell? ⟨gb573, 1, none⟩ = some (.int .i64 a0_1) ∧ w'.cell? ⟨gb573, 2, none⟩ = some (.int .i64 a0_2) ∧ w'.cell? ⟨gb573, 3, none⟩ = some (.int .i64 a0_3)) (ds := []) #[false, false, false, false, false, false, false, false, false] (by kernel_rfl) rfl rfl ⟨(blk_cell BK573.out 0).trans rfl, (blk_cell BK573.out 1).trans rfl, (blk_cell BK573.out 2).trans rfl, (blk_cell BK573.out 3).trans rfl⟩ (fun hHeld => ?_); refine with_tabW grids_Order.tab4 grids_Order.bits4 (fun HT_ HW_ => ?_)
        generalize w40.drew = w41 at BK573 BK575 HB hHeld ⊢
        refine pz 2 13 HT_ ?_
        refine pz 4 15 HT_ ?_
        refine tz 0 11 HT_ HW_ hHeld ?_
        refine tz 3 14 HT_ HW_ hHeld ?_
        refine tz 5 16 HT_ HW_ hHeld ?_
        refine pz 6 17 HT_ ?_
        refine one_ (i := 1) (N := some 12) #[true, true, true, true, true, true, true, false, false] rfl rfl (one_of HT_.out (by kernel_rfl)) (by decide) (fun K hK => ?_)
        refine gs _ Try.func68 (grids_det.calls a0_0 a0_1 a0_2 a0_3 t576 _ A4.out) ?_
        rintro e w42 ⟨rfl, hb⟩
        refine ⟨_, rfl, ?_⟩
        replace BK573 := bb BK573 hb
        replace BK575 := bb BK575 hb
        replace HB := bst HB hb
        (try clear hb)
        (try clear hb2)
        (try clear hk)
        (try clear hi)
        refine hK.out _ _ ⟨(blk_cell BK573.out 0).trans rfl, (blk_cell BK573.out 1).trans rfl, (blk_cell BK573.out 2).trans rfl, (blk_cell BK573.out 3).trans rfl⟩ (fun hHeld => ?_)
        clear hK K
        refine norm_ (a' := ?_) ?_ ?_
        rotate_left
        · show Act.put _ (some 12) _ = _
          simp only [Act.put, List.setIfInBounds_toArray, List.set_cons_zero, List.set_cons_succ, i64_w, i32_w]
          rfl
        refine pz 7 5 HT_ ?_
        refine pz 8 6 HT_ ?_
        refine done_ (done_of HT_.out (by kernel_rfl)) ?_
        have ⟨hcz43_0, hcz43_1, hcz43_2, hcz43_3, hfz43_0, hfz43_1, hfz43_2, hfz43_3⟩ := cf4 BK573
        have ⟨hcz44_0, hcz44_1, hcz44_2, hcz44_3, hfz44_0, hfz44_1, hfz44_2, hfz44_3⟩ := cf4 BK575
        try go_wp2
        replace BK573 := bd BK573
        replace BK575 := bd BK575
        replace HB := bdn HB
        refine start_ (n := 6) (S := fun w' => w'.cell? ⟨gb573, 0, none⟩ = some (.int .i64 a0_0) ∧ w'.cell? ⟨gb573, 1, none⟩ = some (.int .i64 a0_1) ∧ w'.cell? ⟨gb573, 2, none⟩ = some (.int .i64 a0_2) ∧ w'.cell? ⟨gb573, 3, none⟩ = some (.int .i64 a0_3) ∧ w'.cell? ⟨gb575, 0, none⟩ = some (.int .i64 1) ∧ w'.cell? ⟨gb575, 1, none⟩ = some (.int .i64 0) ∧ w'.cell? ⟨gb575, 2, none⟩ = some (.int .i64 0) ∧ w'.cell? ⟨gb575, 3, none⟩ = some (.int .i64 1)) (ds := []) #[false, false, false, false, false, false] (by kernel_rfl) rfl rfl ⟨(blk_cell BK573.out 0).trans rfl, (blk_cell BK573.out 1).trans rfl, (blk_cell BK573.out 2).trans rfl, (blk_cell BK573.out 3).trans rfl, (blk_cell BK575.out 0).trans rfl, (blk_cell BK575.out 1).trans rfl, (blk_cell BK575.out 2).trans rfl, (blk_cell BK575.out 3).trans rfl⟩ (fun hHeld => ?_)
        generalize w42.drew = w45 at BK573 BK575 HB hHeld ⊢
        refine take_ (i := 0) (N := some 23) (v := ?_) (a' := ?_) #[true, false, false, false, false, false] rfl rfl (by kernel_rfl) (fun _ _ _ h => h) (Or.inl ⟨by rfl, ?_⟩) hHeld ?_ ?_
        rotate_left
        · rintro w' ⟨s0, s1, s2, s3, s4, s5, s6, s7⟩
          go_simp
          with_reducible rfl
        rotate_left
        · simp only [Act.put, List.setIfInBounds_toArray, List.set_cons_zero, List.set_cons_succ, i64_w, i32_w]
          rfl
        refine take_ (i := 1) (N := some 24) (v := ?_) (a' := ?_) #[true, true, false, false, false, false] rfl rfl (by kernel_rfl) (fun _ _ _ h => h) (Or.inl ⟨by rfl, ?_⟩) hHeld ?_ ?_
        rotate_left
        · rintro w' ⟨s0, s1, s2, s3, s4, s5, s6, s7⟩
          go_simp
          with_reducible rfl
        rotate_left
        · simp only [Act.put, List.setIfInBounds_toArray, List.set_cons_zero, List.set_cons_succ, i64_w, i32_w]
          rfl
        refine take_ (i := 3) (N := some 26) (v := ?_) (a' := ?_) #[true, true, false, true, false, false] rfl rfl (by kernel_rfl) (fun _ _ _ h => h) (Or.inl ⟨by rfl, ?_⟩) hHeld ?_ ?_
        rotate_left
        · rintro w' ⟨s0, s1, s2, s3, s4, s5, s6, s7⟩
          go_simp
          with_reducible rfl
        rotate_left
        · simp only [Act.put, List.setIfInBounds_toArray, List.set_cons_zero, List.set_cons_succ, i64_w, i32_w]
          rfl
        refine one_ (i := 2) (N := some 25) #[true, true, true, true, false, false] rfl rfl (by kernel_rfl) (by decide) (fun K hK => ?_)
        refine gs _ Try.func40 (grids_times.calls a0_0 a0_1 a0_2 a0_3 a0_0 a0_1 a0_2 a0_3 t578 t579 t580 t581 _ A18.out) ?_
        rintro e w46 ⟨rfl, hb⟩
        refine ⟨_, rfl, ?_⟩
        replace BK573 := bb BK573 hb
        replace BK575 := bb BK575 hb
        replace HB := bst HB hb
        (try clear hb)
        (try clear hb2)
        (try clear hk)
        (try clear hi)
        refine hK.out _ _ ⟨(blk_cell BK573.out 0).trans rfl, (blk_cell BK573.out 1).trans rfl, (blk_cell BK573.out 2).trans rfl, (blk_cell BK573.out 3).trans rfl, (blk_cell BK575.out 0).trans rfl, (blk_cell BK575.out 1).trans rfl, (blk_cell BK575.out 2).trans rfl, (blk_cell BK575.out 3).trans rfl⟩ (fun hHeld => ?_)
        clear hK K
        refine norm_ (a' := ?_) ?_ ?_
        rotate_left
        · show Act.put _ (some 25) _ = _
          simp only [Act.put, List.setIfInBounds_toArray, List.set_cons_zero, List.set_cons_succ, i64_w, i32_w]
          rfl
        refine pure_ (i := 4) (N := some 27) (v := ?_) (a' := ?_) #[true, true, true, true, true, false] rfl rfl (by kernel_rfl) (fun _ _ _ h => h) (Or.inl ⟨by rfl, ?_⟩) ?_ ?_
        rotate_left
        · intro w'
          go_simp
          with_reducible rfl
        rotate_left
        · simp only [Act.put, List.setIfInBounds_toArray, List.set_cons_zero, List.set_cons_succ, i64_w, i32_w]
          rfl
        refine pure_ (i := 5) (N := some 22) (v := ?_) (a' := ?_) #[true, true, true, true, true, true] rfl rfl (by kernel_rfl) (fun _ _ _ h => h) (Or.inl ⟨by rfl, ?_⟩) ?_ ?_
        rotate_left
        · intro w'
          go_simp
          with_reducible rfl
        rotate_left
        · simp only [Act.put, List.setIfInBounds_toArray, List.set_cons_zero, List.set_cons_succ, i64_w, i32_w]
          rfl
        refine done_ (by kernel_rfl) ?_
        go_upto_region 9 with (fail)
        go_cut [28] (fun v28 wc => ∃ (kq : Nat) (x28_32 : Bool), v28 = .bool x28_32 ∧ Aside0 (grids_Order.j0 kq t576 z577 x28_32 = some (r1, r2)) ∧ Aside0 (kq ≤ k) ∧ Aside0 (wc.heap[gb573]? = some (.cells #[.int .i64 a0_0, .int .i64 a0_1, .int .i64 a0_2, .int .i64 a0_3] 25 (0, 0))) ∧ Aside0 (wc.heap[gb575]? = some (.cells #[.int .i64 1, .int .i64 0, .int .i64 0, .int .i64 1] 25 (0, 0))) ∧ Aside0 (Below w.heap.size w wc))
        case first =>
          have H := HC33.out
          clear HC33
          by_cases c47 : t576 = 1
          · rw [if_pos c47] at H
            have c47b0 : (t576 == 1) = true := beq_iff_eq.mpr c47
            have c47b1 : (t576 != 1) = false := bne_eq_false_iff_eq.mpr c47
            clear c47
            (first | rw [c47b0] | (simp only [i64_w, i32_w]; rw [c47b0]) | skip)
            have H' := Aside0.mk H
            clear H
            go_wp2
            go_meet
            case rel => exact ⟨_, ((z577 == (-1))), (by first | rfl | (simp; done) | (simp [*]; done)), H', ⟨by first | omega | exact Nat.le_refl _⟩, ⟨pk BK573⟩, ⟨pk BK575⟩, ⟨bnow HB⟩⟩
          · rw [if_neg c47] at H
            have c47b0 : (t576 == 1) = false := beq_eq_false_iff_ne.mpr c47
            have c47b1 : (t576 != 1) = true := bne_iff_ne.mpr c47
            (first | rw [c47b0] | (simp only [i64_w, i32_w]; rw [c47b0]) | skip)
            have H' := Aside0.mk H
            clear H
            go_wp2
            go_meet
            case rel => exact ⟨_, (false), (by first | rfl | (simp; done) | (simp [*]; done)), H', ⟨by first | omega | exact Nat.le_refl _⟩, ⟨pk BK573⟩, ⟨pk BK575⟩, ⟨bnow HB⟩⟩
        case rest =>
          clear HC33
          try clear c1; try clear c2; try clear p2; try clear c3; try clear c4; try clear c5; try clear c6; try clear c6b0; try clear c6b1; try clear c6b2; try clear p6; try clear c11; try clear c19; try clear c19b0; try clear c19b1; try clear c19b2; try clear c24; try clear c33; try clear c38; try clear c40; try clear c47; try clear c47b0; try clear c47b1; try clear hcz12_0; try clear hcz12_1; try clear hcz12_2; try clear hcz12_3; try clear hcz16_0; try clear hcz16_1; try clear hcz16_2; try clear hcz16_3; try clear hcz17_0; try clear hcz17_1; try clear hcz17_2; try clear hcz17_3; try clear hcz21_0; try clear hcz21_1; try clear hcz21_2; try clear hcz21_3; try clear hcz25_0; try clear hcz25_1; try clear hcz25_2; try clear hcz25_3; try clear hcz29_0; try clear hcz29_1; try clear hcz29_2; try clear hcz29_3; try clear hcz30_0; try clear hcz30_1; try clear hcz30_2; try clear hcz30_3; try clear hcz35_0; try clear hcz35_1; try clear hcz35_2; try clear hcz35_3; try clear hcz39_0; try clear hcz39_1; try clear hcz39_2; try clear hcz39_3; try clear hcz43_0; try clear hcz43_1; try clear hcz43_2; try clear hcz43_3; try clear hcz44_0; try clear hcz44_1; try clear hcz44_2; try clear hcz44_3; try clear hcz8_0; try clear hcz8_1; try clear hcz8_2; try clear hcz8_3; try clear hfz12_0; try clear hfz12_1; try clear hfz12_2; try clear hfz12_3; try clear hfz16_0; try clear hfz16_1; try clear hfz16_2; try clear hfz16_3; try clear hfz17_0; try clear hfz17_1; try clear hfz17_2; try clear hfz17_3; try clear hfz21_0; try clear hfz21_1; try clear hfz21_2; try clear hfz21_3; try clear hfz25_0; try clear hfz25_1; try clear hfz25_2; try clear hfz25_3; try clear hfz29_0; try clear hfz29_1; try clear hfz29_2; try clear hfz29_3; try clear hfz30_0; try clear hfz30_1; try clear hfz30_2; try clear hfz30_3; try clear hfz35_0; try clear hfz35_1; try clear hfz35_2; try clear hfz35_3; try clear hfz39_0; try clear hfz39_1; try clear hfz39_2; try clear hfz39_3; try clear hfz43_0; try clear hfz43_1; try clear hfz43_2; try clear hfz43_3; try clear hfz44_0; try clear hfz44_1; try clear hfz44_2; try clear hfz44_3; try clear hfz8_0; try clear hfz8_1; try clear hfz8_2; try clear hfz8_3
          obtain ⟨kq, x28_32, rfl, HA, HJ32, BK573, BK575, HB⟩ := hcut
          cases kq with
          | zero => exact absurd HA.out (by simp [grids_Order.j0])
          | succ kj32 =>
            have H := HA.out
            clear HA
            simp only [grids_Order.j0] at H
            by_cases c48 : x28_32 = true
            · subst c48
              have H1 : (some (3, 0)) = some (r1, r2) := by rw [if_pos rfl] at H; exact H
              clear H
              have H := H1
              clear H1
              simp only [Option.some.injEq, Prod.mk.injEq] at H
              obtain ⟨rfl, rfl⟩ := H
              go_wp2
              go_ret2
              exact rt HB
            · replace c48 := Bool.eq_false_iff.mpr c48
              subst c48
              have H1 : (if t576 = 1 then (grids_Order.j1 kj32 t576 z577 (z577 == 0)) else (grids_Order.j1 kj32 t576 z577 false)) = some (r1, r2) := by rw [if_neg (show ¬ (false = true) by decide)] at H; exact H
              clear H
              have H := H1
              clear H1
              have HC49 := Aside0.mk H
              clear H
              go_upto_region 11 with (fail)
              go_cut [35] (fun v35 wc => ∃ (kq : Nat) (x35_48 : Bool), v35 = .bool x35_48 ∧ Aside0 (grids_Order.j1 kq t576 z577 x35_48 = some (r1, r2)) ∧ Aside0 (kq ≤ kj32) ∧ Aside0 (wc.heap[gb573]? = some (.cells #[.int .i64 a0_0, .int .i64 a0_1, .int .i64 a0_2, .int .i64 a0_3] 25 (0, 0))) ∧ Aside0 (wc.heap[gb575]? = some (.cells #[.int .i64 1, .int .i64 0, .int .i64 0, .int .i64 1] 25 (0, 0))) ∧ Aside0 (Below w.heap.size w wc))
              case first =>
                have H := HC49.out
                clear HC49
                by_cases c50 : t576 = 1
                · rw [if_pos c50] at H
                  have c50b0 : (t576 == 1) = true := beq_iff_eq.mpr c50
                  have c50b1 : (t576 != 1) = false := bne_eq_false_iff_eq.mpr c50
                  clear c50
                  (first | rw [c50b0] | (simp only [i64_w, i32_w]; rw [c50b0]) | skip)
                  have H' := Aside0.mk H
                  clear H
                  go_wp2
                  go_meet
                  case rel => exact ⟨_, ((z577 == 0)), (by first | rfl | (simp; done) | (simp [*]; done)), H', ⟨by have := HJ32.out; first | omega | exact Nat.le_refl _⟩, ⟨pk BK573⟩, ⟨pk BK575⟩, ⟨bnow HB⟩⟩
                · rw [if_neg c50] at H
                  have c50b0 : (t576 == 1) = false := beq_eq_false_iff_ne.mpr c50
                  have c50b1 : (t576 != 1) = true := bne_iff_ne.mpr c50
                  (first | rw [c50b0] | (simp only [i64_w, i32_w]; rw [c50b0]) | skip)
                  have H' := Aside0.mk H
                  clear H
                  go_wp2
                  go_meet
                  case rel => exact ⟨_, (false), (by first | rfl | (simp; done) | (simp [*]; done)), H', ⟨by have := HJ32.out; first | omega | exact Nat.le_refl _⟩, ⟨pk BK573⟩, ⟨pk BK575⟩, ⟨bnow HB⟩⟩
              case rest =>
                clear HC49
                try clear c1; try clear c2; try clear p2; try clear c3; try clear c4; try clear c5; try clear c6; try clear c6b0; try clear c6b1; try clear c6b2; try clear p6; try clear c11; try clear c19; try clear c19b0; try clear c19b1; try clear c19b2; try clear c24; try clear c33; try clear c38; try clear c40; try clear c47; try clear c47b0; try clear c47b1; try clear c48; try clear c50; try clear c50b0; try clear c50b1; try clear hcz12_0; try clear hcz12_1; try clear hcz12_2; try clear hcz12_3; try clear hcz16_0; try clear hcz16_1; try clear hcz16_2; try clear hcz16_3; try clear hcz17_0; try clear hcz17_1; try clear hcz17_2; try clear hcz17_3; try clear hcz21_0; try clear hcz21_1; try clear hcz21_2; try clear hcz21_3; try clear hcz25_0; try clear hcz25_1; try clear hcz25_2; try clear hcz25_3; try clear hcz29_0; try clear hcz29_1; try clear hcz29_2; try clear hcz29_3; try clear hcz30_0; try clear hcz30_1; try clear hcz30_2; try clear hcz30_3; try clear hcz35_0; try clear hcz35_1; try clear hcz35_2; try clear hcz35_3; try clear hcz39_0; try clear hcz39_1; try clear hcz39_2; try clear hcz39_3; try clear hcz43_0; try clear hcz43_1; try clear hcz43_2; try clear hcz43_3; try clear hcz44_0; try clear hcz44_1; try clear hcz44_2; try clear hcz44_3; try clear hcz8_0; try clear hcz8_1; try clear hcz8_2; try clear hcz8_3; try clear hfz12_0; try clear hfz12_1; try clear hfz12_2; try clear hfz12_3; try clear hfz16_0; try clear hfz16_1; try clear hfz16_2; try clear hfz16_3; try clear hfz17_0; try clear hfz17_1; try clear hfz17_2; try clear hfz17_3; try clear hfz21_0; try clear hfz21_1; try clear hfz21_2; try clear hfz21_3; try clear hfz25_0; try clear hfz25_1; try clear hfz25_2; try clear hfz25_3; try clear hfz29_0; try clear hfz29_1; try clear hfz29_2; try clear hfz29_3; try clear hfz30_0; try clear hfz30_1; try clear hfz30_2; try clear hfz30_3; try clear hfz35_0; try clear hfz35_1; try clear hfz35_2; try clear hfz35_3; try clear hfz39_0; try clear hfz39_1; try clear hfz39_2; try clear hfz39_3; try clear hfz43_0; try clear hfz43_1; try clear hfz43_2; try clear hfz43_3; try clear hfz44_0; try clear hfz44_1; try clear hfz44_2; try clear hfz44_3; try clear hfz8_0; try clear hfz8_1; try clear hfz8_2; try clear hfz8_3; try clear p2; try clear p6
                obtain ⟨kq, x35_48, rfl, HA, HJ48, BK573, BK575, HB⟩ := hcut
                cases kq with
                | zero => exact absurd HA.out (by simp [grids_Order.j1])
                | succ kj48 =>
                  have H := HA.out
                  clear HA
                  simp only [grids_Order.j1] at H
                  by_cases c51 : x35_48 = true
                  · subst c51
                    have H1 : (some (4, 0)) = some (r1, r2) := by rw [if_pos rfl] at H; exact H
                    clear H
                    have H := H1
                    clear H1
                    simp only [Option.some.injEq, Prod.mk.injEq] at H
                    obtain ⟨rfl, rfl⟩ := H
                    go_wp2
                    go_ret2
                    exact rt HB
                  · replace c51 := Bool.eq_false_iff.mpr c51
                    subst c51
                    have H1 : (if t576 = 1 then (if z577 = 1 then (some (6, 0)) else (some (0, 0))) else (some (0, 0))) = some (r1, r2) := by rw [if_neg (show ¬ (false = true) by decide)] at H; exact H
                    clear H
                    have H := H1
                    clear H1
                    by_cases c52 : t576 = 1
                    · rw [if_pos c52] at H
                      have c52b0 : (t576 == 1) = true := beq_iff_eq.mpr c52
                      have c52b1 : (t576 != 1) = false := bne_eq_false_iff_eq.mpr c52
                      clear c52
                      by_cases c53 : z577 = 1
                      · rw [if_pos c53] at H
                        have c53b0 : (z577 == 1) = true := beq_iff_eq.mpr c53
                        have c53b1 : (z577 != 1) = false := bne_eq_false_iff_eq.mpr c53
                        clear c53
                        simp only [Option.some.injEq, Prod.mk.injEq] at H
                        obtain ⟨rfl, rfl⟩ := H
                        go_wp2
                        go_ret2
                        exact rt HB
                      · rw [if_neg c53] at H
                        have c53b0 : (z577 == 1) = false := beq_eq_false_iff_ne.mpr c53
                        have c53b1 : (z577 != 1) = true := bne_iff_ne.mpr c53
                        simp only [Option.some.injEq, Prod.mk.injEq] at H
                        obtain ⟨rfl, rfl⟩ := H
                        go_wp2
                        go_ret2
                        exact rt HB
                    · rw [if_neg c52] at H
                      have c52b0 : (t576 == 1) = false := beq_eq_false_iff_ne.mpr c52
                      have c52b1 : (t576 != 1) = true := bne_iff_ne.mpr c52
                      simp only [Option.some.injEq, Prod.mk.injEq] at H
                      obtain ⟨rfl, rfl⟩ := H
                      go_wp2
                      go_ret2
                      exact rt HB
  · replace c3 := Bool.eq_false_iff.mpr c3
    subst c3
    have H1 : (some (0, 2)) = some (r1, r2) := by rw [if_neg (show ¬ (false = true) by decide)] at H; exact H
    clear H
    have H := H1
    clear H1
    simp only [Option.some.injEq, Prod.mk.injEq] at H
    obtain ⟨rfl, rfl⟩ := H
    go_enter Try.func33, Try.ntmps33
    go_wp2_with (first | ((with_reducible refine gate_dst (N := 1) rfl ?_); refine bx 1 #[.int .i64 a0_0, .int .i64 a0_1, .int .i64 a0_2, .int .i64 a0_3] 25 fun gb573 hg w54 BK573 hb => ?_; have GW573 := gw hg HB; have GE573 := gw hg HB; replace HB := bst HB hb; clear hb hg; have ⟨hcz55_0, hcz55_1, hcz55_2, hcz55_3, hfz55_0, hfz55_1, hfz55_2, hfz55_3⟩ := cf4 BK573) | ((with_reducible refine gate_callee (f := 59) rfl ?_); refine gl 8 Try.func59 (grids_matrix.calls a0_0 a0_1 a0_2 a0_3 false _ A2.out) ?_; rintro e w56 ⟨rfl, hb⟩; refine ⟨_, rfl, ?_⟩; replace BK573 := bb BK573 hb; replace HB := bst HB hb; clear hb))
    go_ret2
    exact rt HB
end
section
attribute [local go_sem high] eqA23 eqA25 eqA37
/-! ### torchonlaw06_awake: function 13 -/
def torchonlaw06_awake.j0 : Nat → Int → Int → Int → List (S25) → Int → Bool → Int → Int → Int → Int → Int → Int → Int → Int → Int → Option (Bool)
  | 0, _, _, _, _, _, _, _, _, _, _, _, _, _, _, _ => none
  | k + 1, x2, x4, x6, x8, x12, x89, x623000, x623001, x638000, x638001, x638002, x639000, x639001, x639002, x639003 => if x89 = true then (none) else (if x2 = 6 then (if x4 = 1 then (if x6 = 1 then (if (x8.length : Int) = 12 then ((torchonlaw06_pt.f 1 5).bind fun bt639 => (if (x623000 == bt639.1 && (x623001 == bt639.2)) = true then (if x12 = 6 then (if (x638000 == 1 && (x638001 == 0 && (x638002 == 1))) = true then ((torchonlaw06_mat.f (-3) (-1) 2 1).bind fun bt641 => (some (x639000 == bt641.1 && (x639001 == bt641.2.1 && (x639002 == bt641.2.2.1 && (x639003 == bt641.2.2.2)))))) else (none)) else (none)) else (none))) else (none)) else (none)) else (none)) else (none))
def torchonlaw06_awake.f (k : Nat)  : Option (Bool) := (torchonlaw06_pt.f 0 0).bind fun bt583 => ((torchonlaw06_pt.f 1 1).bind fun bt585 => ((grids_Square.f k 2 1 2 bt583.1 bt583.2 bt585.1 bt585.2).bind fun bt587 => ((torchonlaw06_pt.f 0 0).bind fun bt589 => ((torchonlaw06_pt.f 1 0).bind fun bt591 => ((torchonlaw06_pt.f 0 1).bind fun bt593 => ((grids_Side.f k bt589.1 bt589.2 bt591.1 bt591.2 bt593.1 bt593.2).bind fun bt595 => ((torchonlaw06_pt.f 0 0).bind fun bt597 => ((torchonlaw06_pt.f 1 0).bind fun bt599 => ((torchonlaw06_pt.f 1 (-1)).bind fun bt601 => ((torchonlaw06_pt.f 0 1).bind fun bt603 => ((grids_Turn.f k bt597.1 bt597.2 bt599.1 bt599.2 bt601.1 bt601.2 bt603.1 bt603.2).bind fun bt605 => ((grids_Group.f k 2 1 2).bind fun bt607 => ((torchonlaw06_mat.f 0 (-1) 1 0).bind fun bt611 => ((torchonlaw06_pt.f 3 4).bind fun bt615 => ((torchonlaw06_pt.f 1 2).bind fun bt617 => ((grids_Apply.f k bt611.1 bt611.2.1 bt611.2.2.1 bt611.2.2.2 bt615.1 bt615.2 bt617.1 bt617.2).bind fun bt619 => ((torchonlaw06_mat.f 1 (-1) 1 0).bind fun bt623 => ((grids_Order.f k bt623.1 bt623.2.1 bt623.2.2.1 bt623.2.2.2).bind fun bt627 => ((grids_Reduce.f k 5 7 10).bind fun bt629 => (if bt587.2 = 0 then (if bt595.2 = 0 then (if bt605.2 = 0 then (if bt607.2 = 0 then (if bt619.2.2 = 0 then (if bt627.2 = 0 then (torchonlaw06_awake.j0 k bt587.1 bt595.1 bt605.1 bt607.1 bt627.1 (bt629.2.2.2.2.2.2.2 != 0) bt619.1 bt619.2.1 bt629.1 bt629.2.1 bt629.2.2.1 bt629.2.2.2.1 bt629.2.2.2.2.1 bt629.2.2.2.2.2.1 bt629.2.2.2.2.2.2.1) else (torchonlaw06_awake.j0 k bt587.1 bt595.1 bt605.1 bt607.1 bt627.1 true bt619.1 bt619.2.1 bt629.1 bt629.2.1 bt629.2.2.1 bt629.2.2.2.1 bt629.2.2.2.2.1 bt629.2.2.2.2.2.1 bt629.2.2.2.2.2.2.1)) else (torchonlaw06_awake.j0 k bt587.1 bt595.1 bt605.1 bt607.1 bt627.1 true bt619.1 bt619.2.1 bt629.1 bt629.2.1 bt629.2.2.1 bt629.2.2.2.1 bt629.2.2.2.2.1 bt629.2.2.2.2.2.1 bt629.2.2.2.2.2.2.1)) else (torchonlaw06_awake.j0 k bt587.1 bt595.1 bt605.1 bt607.1 bt627.1 true bt619.1 bt619.2.1 bt629.1 bt629.2.1 bt629.2.2.1 bt629.2.2.2.1 bt629.2.2.2.2.1 bt629.2.2.2.2.2.1 bt629.2.2.2.2.2.2.1)) else (torchonlaw06_awake.j0 k bt587.1 bt595.1 bt605.1 bt607.1 bt627.1 true bt619.1 bt619.2.1 bt629.1 bt629.2.1 bt629.2.2.1 bt629.2.2.2.1 bt629.2.2.2.2.1 bt629.2.2.2.2.2.1 bt629.2.2.2.2.2.2.1)) else (torchonlaw06_awake.j0 k bt587.1 bt595.1 bt605.1 bt607.1 bt627.1 true bt619.1 bt619.2.1 bt629.1 bt629.2.1 bt629.2.2.1 bt629.2.2.2.1 bt629.2.2.2.2.1 bt629.2.2.2.2.2.1 bt629.2.2.2.2.2.2.1)) else (torchonlaw06_awake.j0 k bt587.1 bt595.1 bt605.1 bt607.1 bt627.1 true bt619.1 bt619.2.1 bt629.1 bt629.2.1 bt629.2.2.1 bt629.2.2.2.1 bt629.2.2.2.2.1 bt629.2.2.2.2.2.1 bt629.2.2.2.2.2.2.1)))))))))))))))))))))
theorem torchonlaw06_awake.mono_l : ∀ k, (∀ y0 y1 y2 y3 y4 y5 y6 y7 y8 y9 y10 y11 y12 y13 y14, LeO (torchonlaw06_awake.j0 k y0 y1 y2 y3 y4 y5 y6 y7 y8 y9 y10 y11 y12 y13 y14) (torchonlaw06_awake.j0 (k + 1) y0 y1 y2 y3 y4 y5 y6 y7 y8 y9 y10 y11 y12 y13 y14))
  | 0 => fun _ _ _ _ _ _ _ _ _ _ _ _ _ _ _ r h => by simp [torchonlaw06_awake.j0] at h
  | k + 1 => by
    have ih0 := torchonlaw06_awake.mono_l k
    · intro y0 y1 y2 y3 y4 y5 y6 y7 y8 y9 y10 y11 y12 y13 y14
      unfold torchonlaw06_awake.j0
      repeat' first
      | (with_reducible exact ih0 _ _ _ _ _ _ _ _ _ _ _ _ _ _ _)
      | (with_reducible exact grids_Apply.mono _ _ _ _ _ _ _ _ _)
      | (with_reducible exact grids_Group.mono _ _ _ _)
      | (with_reducible exact grids_Order.mono _ _ _ _ _)
      | (with_reducible exact grids_Reduce.mono _ _ _ _)
      | (with_reducible exact grids_Side.mono _ _ _ _ _ _ _)
      | (with_reducible exact grids_Square.mono _ _ _ _ _ _ _ _)
      | (with_reducible exact grids_Turn.mono _ _ _ _ _ _ _ _ _)
      | (with_reducible exact LeO.refl _)
      | (with_reducible exact LeO.none _)
      | (with_reducible refine LeO.ite ?_ ?_)
      | (with_reducible refine LeO.bind ?_ (fun _ => ?_))
      | exact ih0 _ _ _ _ _ _ _ _ _ _ _ _ _ _ _
      | exact grids_Apply.mono _ _ _ _ _ _ _ _ _
      | exact grids_Group.mono _ _ _ _
      | exact grids_Order.mono _ _ _ _ _
      | exact grids_Reduce.mono _ _ _ _
      | exact grids_Side.mono _ _ _ _ _ _ _
      | exact grids_Square.mono _ _ _ _ _ _ _ _
      | exact grids_Turn.mono _ _ _ _ _ _ _ _ _
      | exact LeO.none _
      | refine LeO.ite ?_ ?_
      | refine LeO.bind ?_ (fun _ => ?_)
theorem torchonlaw06_awake.mono : ∀ k, LeO (torchonlaw06_awake.f k ) (torchonlaw06_awake.f (k + 1) ) := by
  intro  k
  have ih0 := torchonlaw06_awake.mono_l k
  unfold torchonlaw06_awake.f
  repeat' first
      | (with_reducible exact ih0 _ _ _ _ _ _ _ _ _ _ _ _ _ _ _)
      | (with_reducible exact grids_Apply.mono _ _ _ _ _ _ _ _ _)
      | (with_reducible exact grids_Group.mono _ _ _ _)
      | (with_reducible exact grids_Order.mono _ _ _ _ _)
      | (with_reducible exact grids_Reduce.mono _ _ _ _)
      | (with_reducible exact grids_Side.mono _ _ _ _ _ _ _)
      | (with_reducible exact grids_Square.mono _ _ _ _ _ _ _ _)
      | (with_reducible exact grids_Turn.mono _ _ _ _ _ _ _ _ _)
      | (with_reducible exact LeO.refl _)
      | (with_reducible exact LeO.none _)
      | (with_reducible refine LeO.ite ?_ ?_)
      | (with_reducible refine LeO.bind ?_ (fun _ => ?_))
      | exact ih0 _ _ _ _ _ _ _ _ _ _ _ _ _ _ _
      | exact grids_Apply.mono _ _ _ _ _ _ _ _ _
      | exact grids_Group.mono _ _ _ _
      | exact grids_Order.mono _ _ _ _ _
      | exact grids_Reduce.mono _ _ _ _
      | exact grids_Side.mono _ _ _ _ _ _ _
      | exact grids_Square.mono _ _ _ _ _ _ _ _
      | exact grids_Turn.mono _ _ _ _ _ _ _ _ _
      | exact LeO.none _
      | refine LeO.ite ?_ ?_
      | refine LeO.bind ?_ (fun _ => ?_)
def torchonlaw06_awake.T2 : Bool × List (List Nat × List Nat) := (true, [([], []), ([], []), ([1], []), ([0, 1, 2, 2], [0, 1, 2]), ([3], [3]), ([4], [4]), ([4], [4]), ([5, 3, 0, 1, 2, 3, 4, 5], [5]), ([6, 7, 0, 1, 2, 3, 4, 5, 6, 7], [6])])
def torchonlaw06_awake.B2 : List Nat := [0, 0, 2, 7, 15, 31, 31, 63, 255]
theorem torchonlaw06_awake.tab2 : rtab .any (opsOf Try.f13 2) = torchonlaw06_awake.T2 := by kernel_rfl
theorem torchonlaw06_awake.bits2 : waitsOk torchonlaw06_awake.T2.2 torchonlaw06_awake.B2 = true := by kernel_rfl
def torchonlaw06_awake.T11 : Bool × List (List Nat × List Nat) := (true, [([], []), ([0], [0]), ([1], [1]), ([2], [2]), ([3, 2], [2, 3]), ([2, 4], [2, 4]), ([5, 2], [5]), ([6], [6]), ([7, 6], [6, 7]), ([6, 8], [6, 8]), ([9, 6], [9]), ([10], [10]), ([11, 10], [10, 11]), ([12, 10], [10, 12]), ([10, 13], [10, 13]), ([14, 10], [14]), ([15], [15]), ([15, 15], [15]), ([16, 17, 15], [15, 16, 17]), ([15, 18], [15, 18]), ([19, 17], [19]), ([20], [20]), ([21, 20], [20, 21]), ([20, 22], [20, 22]), ([23, 20], [23]), ([24], [24]), ([24], [24]), ([25, 26, 24], [24, 25, 26]), ([24, 27], [24, 27]), ([28, 24], [28]), ([29], [29]), ([29, 29], [29]), ([30, 31, 29], [29, 30, 31]), ([29, 32], [29, 32]), ([33, 31, 0, 1, 2, 3, 4, 5, 6, 7, 8, 9, 10, 11, 12, 13, 14, 15, 16, 17, 18, 19, 20, 21, 22, 23, 24, 25, 26, 27, 28, 29, 30, 31, 32, 33], [33])])
def torchonlaw06_awake.B11 : List Nat := [0, 1, 3, 7, 15, 31, 63, 127, 255, 511, 1023, 2047, 4095, 8191, 16383, 32767, 65535, 65535, 262143, 524287, 1048575, 2097151, 4194303, 8388607, 16777215, 33554431, 33554431, 134217727, 268435455, 536870911, 1073741823, 1073741823, 4294967295, 8589934591, 17179869183]
theorem torchonlaw06_awake.tab11 : rtab .any (opsOf Try.f13 11) = torchonlaw06_awake.T11 := by kernel_rfl
theorem torchonlaw06_awake.bits11 : waitsOk torchonlaw06_awake.T11.2 torchonlaw06_awake.B11 = true := by kernel_rfl
set_option maxHeartbeats 8000000 in
set_option maxRecDepth 100000 in
theorem torchonlaw06_awake.calls (k : Nat)  (r : Bool) (w : World) (h : torchonlaw06_awake.f k  = some r) :
    Calls Try.prog 13 #[] w fun e w' => e = .returned (.bool r) ∧ Below w.heap.size w w' := by
  have hu23 := Try.underlying23
  have hu55 := Try.underlying55
  have hu37 := Try.underlying37
  have hu25 := Try.underlying25
  have HB := Aside0.mk (Below.refl w.heap.size w)
  have H : ((torchonlaw06_pt.f 0 0).bind fun bt583 => ((torchonlaw06_pt.f 1 1).bind fun bt585 => ((grids_Square.f k 2 1 2 bt583.1 bt583.2 bt585.1 bt585.2).bind fun bt587 => ((torchonlaw06_pt.f 0 0).bind fun bt589 => ((torchonlaw06_pt.f 1 0).bind fun bt591 => ((torchonlaw06_pt.f 0 1).bind fun bt593 => ((grids_Side.f k bt589.1 bt589.2 bt591.1 bt591.2 bt593.1 bt593.2).bind fun bt595 => ((torchonlaw06_pt.f 0 0).bind fun bt597 => ((torchonlaw06_pt.f 1 0).bind fun bt599 => ((torchonlaw06_pt.f 1 (-1)).bind fun bt601 => ((torchonlaw06_pt.f 0 1).bind fun bt603 => ((grids_Turn.f k bt597.1 bt597.2 bt599.1 bt599.2 bt601.1 bt601.2 bt603.1 bt603.2).bind fun bt605 => ((grids_Group.f k 2 1 2).bind fun bt607 => ((torchonlaw06_mat.f 0 (-1) 1 0).bind fun bt611 => ((torchonlaw06_pt.f 3 4).bind fun bt615 => ((torchonlaw06_pt.f 1 2).bind fun bt617 => ((grids_Apply.f k bt611.1 bt611.2.1 bt611.2.2.1 bt611.2.2.2 bt615.1 bt615.2 bt617.1 bt617.2).bind fun bt619 => ((torchonlaw06_mat.f 1 (-1) 1 0).bind fun bt623 => ((grids_Order.f k bt623.1 bt623.2.1 bt623.2.2.1 bt623.2.2.2).bind fun bt627 => ((grids_Reduce.f k 5 7 10).bind fun bt629 => (if bt587.2 = 0 then (if bt595.2 = 0 then (if bt605.2 = 0 then (if bt607.2 = 0 then (if bt619.2.2 = 0 then (if bt627.2 = 0 then (torchonlaw06_awake.j0 k bt587.1 bt595.1 bt605.1 bt607.1 bt627.1 (bt629.2.2.2.2.2.2.2 != 0) bt619.1 bt619.2.1 bt629.1 bt629.2.1 bt629.2.2.1 bt629.2.2.2.1 bt629.2.2.2.2.1 bt629.2.2.2.2.2.1 bt629.2.2.2.2.2.2.1) else (torchonlaw06_awake.j0 k bt587.1 bt595.1 bt605.1 bt607.1 bt627.1 true bt619.1 bt619.2.1 bt629.1 bt629.2.1 bt629.2.2.1 bt629.2.2.2.1 bt629.2.2.2.2.1 bt629.2.2.2.2.2.1 bt629.2.2.2.2.2.2.1)) else (torchonlaw06_awake.j0 k bt587.1 bt595.1 bt605.1 bt607.1 bt627.1 true bt619.1 bt619.2.1 bt629.1 bt629.2.1 bt629.2.2.1 bt629.2.2.2.1 bt629.2.2.2.2.1 bt629.2.2.2.2.2.1 bt629.2.2.2.2.2.2.1)) else (torchonlaw06_awake.j0 k bt587.1 bt595.1 bt605.1 bt607.1 bt627.1 true bt619.1 bt619.2.1 bt629.1 bt629.2.1 bt629.2.2.1 bt629.2.2.2.1 bt629.2.2.2.2.1 bt629.2.2.2.2.2.1 bt629.2.2.2.2.2.2.1)) else (torchonlaw06_awake.j0 k bt587.1 bt595.1 bt605.1 bt607.1 bt627.1 true bt619.1 bt619.2.1 bt629.1 bt629.2.1 bt629.2.2.1 bt629.2.2.2.1 bt629.2.2.2.2.1 bt629.2.2.2.2.2.1 bt629.2.2.2.2.2.2.1)) else (torchonlaw06_awake.j0 k bt587.1 bt595.1 bt605.1 bt607.1 bt627.1 true bt619.1 bt619.2.1 bt629.1 bt629.2.1 bt629.2.2.1 bt629.2.2.2.1 bt629.2.2.2.2.1 bt629.2.2.2.2.2.1 bt629.2.2.2.2.2.2.1)) else (torchonlaw06_awake.j0 k bt587.1 bt595.1 bt605.1 bt607.1 bt627.1 true bt619.1 bt619.2.1 bt629.1 bt629.2.1 bt629.2.2.1 bt629.2.2.2.1 bt629.2.2.2.2.1 bt629.2.2.2.2.2.1 bt629.2.2.2.2.2.2.1)))))))))))))))))))))) = some r := h
  clear h
  replace H := Option.bind_eq_some_iff.mp H
  obtain ⟨⟨t583, t584⟩, A10, H⟩ := H
  replace H : ((torchonlaw06_pt.f 1 1).bind fun bt585 => ((grids_Square.f k 2 1 2 t583 t584 bt585.1 bt585.2).bind fun bt587 => ((torchonlaw06_pt.f 0 0).bind fun bt589 => ((torchonlaw06_pt.f 1 0).bind fun bt591 => ((torchonlaw06_pt.f 0 1).bind fun bt593 => ((grids_Side.f k bt589.1 bt589.2 bt591.1 bt591.2 bt593.1 bt593.2).bind fun bt595 => ((torchonlaw06_pt.f 0 0).bind fun bt597 => ((torchonlaw06_pt.f 1 0).bind fun bt599 => ((torchonlaw06_pt.f 1 (-1)).bind fun bt601 => ((torchonlaw06_pt.f 0 1).bind fun bt603 => ((grids_Turn.f k bt597.1 bt597.2 bt599.1 bt599.2 bt601.1 bt601.2 bt603.1 bt603.2).bind fun bt605 => ((grids_Group.f k 2 1 2).bind fun bt607 => ((torchonlaw06_mat.f 0 (-1) 1 0).bind fun bt611 => ((torchonlaw06_pt.f 3 4).bind fun bt615 => ((torchonlaw06_pt.f 1 2).bind fun bt617 => ((grids_Apply.f k bt611.1 bt611.2.1 bt611.2.2.1 bt611.2.2.2 bt615.1 bt615.2 bt617.1 bt617.2).bind fun bt619 => ((torchonlaw06_mat.f 1 (-1) 1 0).bind fun bt623 => ((grids_Order.f k bt623.1 bt623.2.1 bt623.2.2.1 bt623.2.2.2).bind fun bt627 => ((grids_Reduce.f k 5 7 10).bind fun bt629 => (if bt587.2 = 0 then (if bt595.2 = 0 then (if bt605.2 = 0 then (if bt607.2 = 0 then (if bt619.2.2 = 0 then (if bt627.2 = 0 then (torchonlaw06_awake.j0 k bt587.1 bt595.1 bt605.1 bt607.1 bt627.1 (bt629.2.2.2.2.2.2.2 != 0) bt619.1 bt619.2.1 bt629.1 bt629.2.1 bt629.2.2.1 bt629.2.2.2.1 bt629.2.2.2.2.1 bt629.2.2.2.2.2.1 bt629.2.2.2.2.2.2.1) else (torchonlaw06_awake.j0 k bt587.1 bt595.1 bt605.1 bt607.1 bt627.1 true bt619.1 bt619.2.1 bt629.1 bt629.2.1 bt629.2.2.1 bt629.2.2.2.1 bt629.2.2.2.2.1 bt629.2.2.2.2.2.1 bt629.2.2.2.2.2.2.1)) else (torchonlaw06_awake.j0 k bt587.1 bt595.1 bt605.1 bt607.1 bt627.1 true bt619.1 bt619.2.1 bt629.1 bt629.2.1 bt629.2.2.1 bt629.2.2.2.1 bt629.2.2.2.2.1 bt629.2.2.2.2.2.1 bt629.2.2.2.2.2.2.1)) else (torchonlaw06_awake.j0 k bt587.1 bt595.1 bt605.1 bt607.1 bt627.1 true bt619.1 bt619.2.1 bt629.1 bt629.2.1 bt629.2.2.1 bt629.2.2.2.1 bt629.2.2.2.2.1 bt629.2.2.2.2.2.1 bt629.2.2.2.2.2.2.1)) else (torchonlaw06_awake.j0 k bt587.1 bt595.1 bt605.1 bt607.1 bt627.1 true bt619.1 bt619.2.1 bt629.1 bt629.2.1 bt629.2.2.1 bt629.2.2.2.1 bt629.2.2.2.2.1 bt629.2.2.2.2.2.1 bt629.2.2.2.2.2.2.1)) else (torchonlaw06_awake.j0 k bt587.1 bt595.1 bt605.1 bt607.1 bt627.1 true bt619.1 bt619.2.1 bt629.1 bt629.2.1 bt629.2.2.1 bt629.2.2.2.1 bt629.2.2.2.2.1 bt629.2.2.2.2.2.1 bt629.2.2.2.2.2.2.1)) else (torchonlaw06_awake.j0 k bt587.1 bt595.1 bt605.1 bt607.1 bt627.1 true bt619.1 bt619.2.1 bt629.1 bt629.2.1 bt629.2.2.1 bt629.2.2.2.1 bt629.2.2.2.2.1 bt629.2.2.2.2.2.1 bt629.2.2.2.2.2.2.1))))))))))))))))))))) = some r := H
  have A1 := Aside0.mk A10
  clear A10
  replace H := Option.bind_eq_some_iff.mp H
  obtain ⟨⟨t585, t586⟩, A20, H⟩ := H
  replace H : ((grids_Square.f k 2 1 2 t583 t584 t585 t586).bind fun bt587 => ((torchonlaw06_pt.f 0 0).bind fun bt589 => ((torchonlaw06_pt.f 1 0).bind fun bt591 => ((torchonlaw06_pt.f 0 1).bind fun bt593 => ((grids_Side.f k bt589.1 bt589.2 bt591.1 bt591.2 bt593.1 bt593.2).bind fun bt595 => ((torchonlaw06_pt.f 0 0).bind fun bt597 => ((torchonlaw06_pt.f 1 0).bind fun bt599 => ((torchonlaw06_pt.f 1 (-1)).bind fun bt601 => ((torchonlaw06_pt.f 0 1).bind fun bt603 => ((grids_Turn.f k bt597.1 bt597.2 bt599.1 bt599.2 bt601.1 bt601.2 bt603.1 bt603.2).bind fun bt605 => ((grids_Group.f k 2 1 2).bind fun bt607 => ((torchonlaw06_mat.f 0 (-1) 1 0).bind fun bt611 => ((torchonlaw06_pt.f 3 4).bind fun bt615 => ((torchonlaw06_pt.f 1 2).bind fun bt617 => ((grids_Apply.f k bt611.1 bt611.2.1 bt611.2.2.1 bt611.2.2.2 bt615.1 bt615.2 bt617.1 bt617.2).bind fun bt619 => ((torchonlaw06_mat.f 1 (-1) 1 0).bind fun bt623 => ((grids_Order.f k bt623.1 bt623.2.1 bt623.2.2.1 bt623.2.2.2).bind fun bt627 => ((grids_Reduce.f k 5 7 10).bind fun bt629 => (if bt587.2 = 0 then (if bt595.2 = 0 then (if bt605.2 = 0 then (if bt607.2 = 0 then (if bt619.2.2 = 0 then (if bt627.2 = 0 then (torchonlaw06_awake.j0 k bt587.1 bt595.1 bt605.1 bt607.1 bt627.1 (bt629.2.2.2.2.2.2.2 != 0) bt619.1 bt619.2.1 bt629.1 bt629.2.1 bt629.2.2.1 bt629.2.2.2.1 bt629.2.2.2.2.1 bt629.2.2.2.2.2.1 bt629.2.2.2.2.2.2.1) else (torchonlaw06_awake.j0 k bt587.1 bt595.1 bt605.1 bt607.1 bt627.1 true bt619.1 bt619.2.1 bt629.1 bt629.2.1 bt629.2.2.1 bt629.2.2.2.1 bt629.2.2.2.2.1 bt629.2.2.2.2.2.1 bt629.2.2.2.2.2.2.1)) else (torchonlaw06_awake.j0 k bt587.1 bt595.1 bt605.1 bt607.1 bt627.1 true bt619.1 bt619.2.1 bt629.1 bt629.2.1 bt629.2.2.1 bt629.2.2.2.1 bt629.2.2.2.2.1 bt629.2.2.2.2.2.1 bt629.2.2.2.2.2.2.1)) else (torchonlaw06_awake.j0 k bt587.1 bt595.1 bt605.1 bt607.1 bt627.1 true bt619.1 bt619.2.1 bt629.1 bt629.2.1 bt629.2.2.1 bt629.2.2.2.1 bt629.2.2.2.2.1 bt629.2.2.2.2.2.1 bt629.2.2.2.2.2.2.1)) else (torchonlaw06_awake.j0 k bt587.1 bt595.1 bt605.1 bt607.1 bt627.1 true bt619.1 bt619.2.1 bt629.1 bt629.2.1 bt629.2.2.1 bt629.2.2.2.1 bt629.2.2.2.2.1 bt629.2.2.2.2.2.1 bt629.2.2.2.2.2.2.1)) else (torchonlaw06_awake.j0 k bt587.1 bt595.1 bt605.1 bt607.1 bt627.1 true bt619.1 bt619.2.1 bt629.1 bt629.2.1 bt629.2.2.1 bt629.2.2.2.1 bt629.2.2.2.2.1 bt629.2.2.2.2.2.1 bt629.2.2.2.2.2.2.1)) else (torchonlaw06_awake.j0 k bt587.1 bt595.1 bt605.1 bt607.1 bt627.1 true bt619.1 bt619.2.1 bt629.1 bt629.2.1 bt629.2.2.1 bt629.2.2.2.1 bt629.2.2.2.2.1 bt629.2.2.2.2.2.1 bt629.2.2.2.2.2.2.1)))))))))))))))))))) = some r := H
  have A2 := Aside0.mk A20
  clear A20
  replace H := Option.bind_eq_some_iff.mp H
  obtain ⟨⟨t587, t588⟩, A30, H⟩ := H
  replace H : ((torchonlaw06_pt.f 0 0).bind fun bt589 => ((torchonlaw06_pt.f 1 0).bind fun bt591 => ((torchonlaw06_pt.f 0 1).bind fun bt593 => ((grids_Side.f k bt589.1 bt589.2 bt591.1 bt591.2 bt593.1 bt593.2).bind fun bt595 => ((torchonlaw06_pt.f 0 0).bind fun bt597 => ((torchonlaw06_pt.f 1 0).bind fun bt599 => ((torchonlaw06_pt.f 1 (-1)).bind fun bt601 => ((torchonlaw06_pt.f 0 1).bind fun bt603 => ((grids_Turn.f k bt597.1 bt597.2 bt599.1 bt599.2 bt601.1 bt601.2 bt603.1 bt603.2).bind fun bt605 => ((grids_Group.f k 2 1 2).bind fun bt607 => ((torchonlaw06_mat.f 0 (-1) 1 0).bind fun bt611 => ((torchonlaw06_pt.f 3 4).bind fun bt615 => ((torchonlaw06_pt.f 1 2).bind fun bt617 => ((grids_Apply.f k bt611.1 bt611.2.1 bt611.2.2.1 bt611.2.2.2 bt615.1 bt615.2 bt617.1 bt617.2).bind fun bt619 => ((torchonlaw06_mat.f 1 (-1) 1 0).bind fun bt623 => ((grids_Order.f k bt623.1 bt623.2.1 bt623.2.2.1 bt623.2.2.2).bind fun bt627 => ((grids_Reduce.f k 5 7 10).bind fun bt629 => (if t588 = 0 then (if bt595.2 = 0 then (if bt605.2 = 0 then (if bt607.2 = 0 then (if bt619.2.2 = 0 then (if bt627.2 = 0 then (torchonlaw06_awake.j0 k t587 bt595.1 bt605.1 bt607.1 bt627.1 (bt629.2.2.2.2.2.2.2 != 0) bt619.1 bt619.2.1 bt629.1 bt629.2.1 bt629.2.2.1 bt629.2.2.2.1 bt629.2.2.2.2.1 bt629.2.2.2.2.2.1 bt629.2.2.2.2.2.2.1) else (torchonlaw06_awake.j0 k t587 bt595.1 bt605.1 bt607.1 bt627.1 true bt619.1 bt619.2.1 bt629.1 bt629.2.1 bt629.2.2.1 bt629.2.2.2.1 bt629.2.2.2.2.1 bt629.2.2.2.2.2.1 bt629.2.2.2.2.2.2.1)) else (torchonlaw06_awake.j0 k t587 bt595.1 bt605.1 bt607.1 bt627.1 true bt619.1 bt619.2.1 bt629.1 bt629.2.1 bt629.2.2.1 bt629.2.2.2.1 bt629.2.2.2.2.1 bt629.2.2.2.2.2.1 bt629.2.2.2.2.2.2.1)) else (torchonlaw06_awake.j0 k t587 bt595.1 bt605.1 bt607.1 bt627.1 true bt619.1 bt619.2.1 bt629.1 bt629.2.1 bt629.2.2.1 bt629.2.2.2.1 bt629.2.2.2.2.1 bt629.2.2.2.2.2.1 bt629.2.2.2.2.2.2.1)) else (torchonlaw06_awake.j0 k t587 bt595.1 bt605.1 bt607.1 bt627.1 true bt619.1 bt619.2.1 bt629.1 bt629.2.1 bt629.2.2.1 bt629.2.2.2.1 bt629.2.2.2.2.1 bt629.2.2.2.2.2.1 bt629.2.2.2.2.2.2.1)) else (torchonlaw06_awake.j0 k t587 bt595.1 bt605.1 bt607.1 bt627.1 true bt619.1 bt619.2.1 bt629.1 bt629.2.1 bt629.2.2.1 bt629.2.2.2.1 bt629.2.2.2.2.1 bt629.2.2.2.2.2.1 bt629.2.2.2.2.2.2.1)) else (torchonlaw06_awake.j0 k t587 bt595.1 bt605.1 bt607.1 bt627.1 true bt619.1 bt619.2.1 bt629.1 bt629.2.1 bt629.2.2.1 bt629.2.2.2.1 bt629.2.2.2.2.1 bt629.2.2.2.2.2.1 bt629.2.2.2.2.2.2.1))))))))))))))))))) = some r := H
  have A3 := Aside0.mk A30
  clear A30
  replace H := Option.bind_eq_some_iff.mp H
  obtain ⟨⟨t589, t590⟩, A40, H⟩ := H
  replace H : ((torchonlaw06_pt.f 1 0).bind fun bt591 => ((torchonlaw06_pt.f 0 1).bind fun bt593 => ((grids_Side.f k t589 t590 bt591.1 bt591.2 bt593.1 bt593.2).bind fun bt595 => ((torchonlaw06_pt.f 0 0).bind fun bt597 => ((torchonlaw06_pt.f 1 0).bind fun bt599 => ((torchonlaw06_pt.f 1 (-1)).bind fun bt601 => ((torchonlaw06_pt.f 0 1).bind fun bt603 => ((grids_Turn.f k bt597.1 bt597.2 bt599.1 bt599.2 bt601.1 bt601.2 bt603.1 bt603.2).bind fun bt605 => ((grids_Group.f k 2 1 2).bind fun bt607 => ((torchonlaw06_mat.f 0 (-1) 1 0).bind fun bt611 => ((torchonlaw06_pt.f 3 4).bind fun bt615 => ((torchonlaw06_pt.f 1 2).bind fun bt617 => ((grids_Apply.f k bt611.1 bt611.2.1 bt611.2.2.1 bt611.2.2.2 bt615.1 bt615.2 bt617.1 bt617.2).bind fun bt619 => ((torchonlaw06_mat.f 1 (-1) 1 0).bind fun bt623 => ((grids_Order.f k bt623.1 bt623.2.1 bt623.2.2.1 bt623.2.2.2).bind fun bt627 => ((grids_Reduce.f k 5 7 10).bind fun bt629 => (if t588 = 0 then (if bt595.2 = 0 then (if bt605.2 = 0 then (if bt607.2 = 0 then (if bt619.2.2 = 0 then (if bt627.2 = 0 then (torchonlaw06_awake.j0 k t587 bt595.1 bt605.1 bt607.1 bt627.1 (bt629.2.2.2.2.2.2.2 != 0) bt619.1 bt619.2.1 bt629.1 bt629.2.1 bt629.2.2.1 bt629.2.2.2.1 bt629.2.2.2.2.1 bt629.2.2.2.2.2.1 bt629.2.2.2.2.2.2.1) else (torchonlaw06_awake.j0 k t587 bt595.1 bt605.1 bt607.1 bt627.1 true bt619.1 bt619.2.1 bt629.1 bt629.2.1 bt629.2.2.1 bt629.2.2.2.1 bt629.2.2.2.2.1 bt629.2.2.2.2.2.1 bt629.2.2.2.2.2.2.1)) else (torchonlaw06_awake.j0 k t587 bt595.1 bt605.1 bt607.1 bt627.1 true bt619.1 bt619.2.1 bt629.1 bt629.2.1 bt629.2.2.1 bt629.2.2.2.1 bt629.2.2.2.2.1 bt629.2.2.2.2.2.1 bt629.2.2.2.2.2.2.1)) else (torchonlaw06_awake.j0 k t587 bt595.1 bt605.1 bt607.1 bt627.1 true bt619.1 bt619.2.1 bt629.1 bt629.2.1 bt629.2.2.1 bt629.2.2.2.1 bt629.2.2.2.2.1 bt629.2.2.2.2.2.1 bt629.2.2.2.2.2.2.1)) else (torchonlaw06_awake.j0 k t587 bt595.1 bt605.1 bt607.1 bt627.1 true bt619.1 bt619.2.1 bt629.1 bt629.2.1 bt629.2.2.1 bt629.2.2.2.1 bt629.2.2.2.2.1 bt629.2.2.2.2.2.1 bt629.2.2.2.2.2.2.1)) else (torchonlaw06_awake.j0 k t587 bt595.1 bt605.1 bt607.1 bt627.1 true bt619.1 bt619.2.1 bt629.1 bt629.2.1 bt629.2.2.1 bt629.2.2.2.1 bt629.2.2.2.2.1 bt629.2.2.2.2.2.1 bt629.2.2.2.2.2.2.1)) else (torchonlaw06_awake.j0 k t587 bt595.1 bt605.1 bt607.1 bt627.1 true bt619.1 bt619.2.1 bt629.1 bt629.2.1 bt629.2.2.1 bt629.2.2.2.1 bt629.2.2.2.2.1 bt629.2.2.2.2.2.1 bt629.2.2.2.2.2.2.1)))))))))))))))))) = some r := H
  have A4 := Aside0.mk A40
  clear A40
  replace H := Option.bind_eq_some_iff.mp H
  obtain ⟨⟨t591, t592⟩, A50, H⟩ := H
  replace H : ((torchonlaw06_pt.f 0 1).bind fun bt593 => ((grids_Side.f k t589 t590 t591 t592 bt593.1 bt593.2).bind fun bt595 => ((torchonlaw06_pt.f 0 0).bind fun bt597 => ((torchonlaw06_pt.f 1 0).bind fun bt599 => ((torchonlaw06_pt.f 1 (-1)).bind fun bt601 => ((torchonlaw06_pt.f 0 1).bind fun bt603 => ((grids_Turn.f k bt597.1 bt597.2 bt599.1 bt599.2 bt601.1 bt601.2 bt603.1 bt603.2).bind fun bt605 => ((grids_Group.f k 2 1 2).bind fun bt607 => ((torchonlaw06_mat.f 0 (-1) 1 0).bind fun bt611 => ((torchonlaw06_pt.f 3 4).bind fun bt615 => ((torchonlaw06_pt.f 1 2).bind fun bt617 => ((grids_Apply.f k bt611.1 bt611.2.1 bt611.2.2.1 bt611.2.2.2 bt615.1 bt615.2 bt617.1 bt617.2).bind fun bt619 => ((torchonlaw06_mat.f 1 (-1) 1 0).bind fun bt623 => ((grids_Order.f k bt623.1 bt623.2.1 bt623.2.2.1 bt623.2.2.2).bind fun bt627 => ((grids_Reduce.f k 5 7 10).bind fun bt629 => (if t588 = 0 then (if bt595.2 = 0 then (if bt605.2 = 0 then (if bt607.2 = 0 then (if bt619.2.2 = 0 then (if bt627.2 = 0 then (torchonlaw06_awake.j0 k t587 bt595.1 bt605.1 bt607.1 bt627.1 (bt629.2.2.2.2.2.2.2 != 0) bt619.1 bt619.2.1 bt629.1 bt629.2.1 bt629.2.2.1 bt629.2.2.2.1 bt629.2.2.2.2.1 bt629.2.2.2.2.2.1 bt629.2.2.2.2.2.2.1) else (torchonlaw06_awake.j0 k t587 bt595.1 bt605.1 bt607.1 bt627.1 true bt619.1 bt619.2.1 bt629.1 bt629.2.1 bt629.2.2.1 bt629.2.2.2.1 bt629.2.2.2.2.1 bt629.2.2.2.2.2.1 bt629.2.2.2.2.2.2.1)) else (torchonlaw06_awake.j0 k t587 bt595.1 bt605.1 bt607.1 bt627.1 true bt619.1 bt619.2.1 bt629.1 bt629.2.1 bt629.2.2.1 bt629.2.2.2.1 bt629.2.2.2.2.1 bt629.2.2.2.2.2.1 bt629.2.2.2.2.2.2.1)) else (torchonlaw06_awake.j0 k t587 bt595.1 bt605.1 bt607.1 bt627.1 true bt619.1 bt619.2.1 bt629.1 bt629.2.1 bt629.2.2.1 bt629.2.2.2.1 bt629.2.2.2.2.1 bt629.2.2.2.2.2.1 bt629.2.2.2.2.2.2.1)) else (torchonlaw06_awake.j0 k t587 bt595.1 bt605.1 bt607.1 bt627.1 true bt619.1 bt619.2.1 bt629.1 bt629.2.1 bt629.2.2.1 bt629.2.2.2.1 bt629.2.2.2.2.1 bt629.2.2.2.2.2.1 bt629.2.2.2.2.2.2.1)) else (torchonlaw06_awake.j0 k t587 bt595.1 bt605.1 bt607.1 bt627.1 true bt619.1 bt619.2.1 bt629.1 bt629.2.1 bt629.2.2.1 bt629.2.2.2.1 bt629.2.2.2.2.1 bt629.2.2.2.2.2.1 bt629.2.2.2.2.2.2.1)) else (torchonlaw06_awake.j0 k t587 bt595.1 bt605.1 bt607.1 bt627.1 true bt619.1 bt619.2.1 bt629.1 bt629.2.1 bt629.2.2.1 bt629.2.2.2.1 bt629.2.2.2.2.1 bt629.2.2.2.2.2.1 bt629.2.2.2.2.2.2.1))))))))))))))))) = some r := H
  have A5 := Aside0.mk A50
  clear A50
  replace H := Option.bind_eq_some_iff.mp H
  obtain ⟨⟨t593, t594⟩, A60, H⟩ := H
  replace H : ((grids_Side.f k t589 t590 t591 t592 t593 t594).bind fun bt595 => ((torchonlaw06_pt.f 0 0).bind fun bt597 => ((torchonlaw06_pt.f 1 0).bind fun bt599 => ((torchonlaw06_pt.f 1 (-1)).bind fun bt601 => ((torchonlaw06_pt.f 0 1).bind fun bt603 => ((grids_Turn.f k bt597.1 bt597.2 bt599.1 bt599.2 bt601.1 bt601.2 bt603.1 bt603.2).bind fun bt605 => ((grids_Group.f k 2 1 2).bind fun bt607 => ((torchonlaw06_mat.f 0 (-1) 1 0).bind fun bt611 => ((torchonlaw06_pt.f 3 4).bind fun bt615 => ((torchonlaw06_pt.f 1 2).bind fun bt617 => ((grids_Apply.f k bt611.1 bt611.2.1 bt611.2.2.1 bt611.2.2.2 bt615.1 bt615.2 bt617.1 bt617.2).bind fun bt619 => ((torchonlaw06_mat.f 1 (-1) 1 0).bind fun bt623 => ((grids_Order.f k bt623.1 bt623.2.1 bt623.2.2.1 bt623.2.2.2).bind fun bt627 => ((grids_Reduce.f k 5 7 10).bind fun bt629 => (if t588 = 0 then (if bt595.2 = 0 then (if bt605.2 = 0 then (if bt607.2 = 0 then (if bt619.2.2 = 0 then (if bt627.2 = 0 then (torchonlaw06_awake.j0 k t587 bt595.1 bt605.1 bt607.1 bt627.1 (bt629.2.2.2.2.2.2.2 != 0) bt619.1 bt619.2.1 bt629.1 bt629.2.1 bt629.2.2.1 bt629.2.2.2.1 bt629.2.2.2.2.1 bt629.2.2.2.2.2.1 bt629.2.2.2.2.2.2.1) else (torchonlaw06_awake.j0 k t587 bt595.1 bt605.1 bt607.1 bt627.1 true bt619.1 bt619.2.1 bt629.1 bt629.2.1 bt629.2.2.1 bt629.2.2.2.1 bt629.2.2.2.2.1 bt629.2.2.2.2.2.1 bt629.2.2.2.2.2.2.1)) else (torchonlaw06_awake.j0 k t587 bt595.1 bt605.1 bt607.1 bt627.1 true bt619.1 bt619.2.1 bt629.1 bt629.2.1 bt629.2.2.1 bt629.2.2.2.1 bt629.2.2.2.2.1 bt629.2.2.2.2.2.1 bt629.2.2.2.2.2.2.1)) else (torchonlaw06_awake.j0 k t587 bt595.1 bt605.1 bt607.1 bt627.1 true bt619.1 bt619.2.1 bt629.1 bt629.2.1 bt629.2.2.1 bt629.2.2.2.1 bt629.2.2.2.2.1 bt629.2.2.2.2.2.1 bt629.2.2.2.2.2.2.1)) else (torchonlaw06_awake.j0 k t587 bt595.1 bt605.1 bt607.1 bt627.1 true bt619.1 bt619.2.1 bt629.1 bt629.2.1 bt629.2.2.1 bt629.2.2.2.1 bt629.2.2.2.2.1 bt629.2.2.2.2.2.1 bt629.2.2.2.2.2.2.1)) else (torchonlaw06_awake.j0 k t587 bt595.1 bt605.1 bt607.1 bt627.1 true bt619.1 bt619.2.1 bt629.1 bt629.2.1 bt629.2.2.1 bt629.2.2.2.1 bt629.2.2.2.2.1 bt629.2.2.2.2.2.1 bt629.2.2.2.2.2.2.1)) else (torchonlaw06_awake.j0 k t587 bt595.1 bt605.1 bt607.1 bt627.1 true bt619.1 bt619.2.1 bt629.1 bt629.2.1 bt629.2.2.1 bt629.2.2.2.1 bt629.2.2.2.2.1 bt629.2.2.2.2.2.1 bt629.2.2.2.2.2.2.1)))))))))))))))) = some r := H
  have A6 := Aside0.mk A60
  clear A60
  replace H := Option.bind_eq_some_iff.mp H
  obtain ⟨⟨t595, t596⟩, A70, H⟩ := H
  replace H : ((torchonlaw06_pt.f 0 0).bind fun bt597 => ((torchonlaw06_pt.f 1 0).bind fun bt599 => ((torchonlaw06_pt.f 1 (-1)).bind fun bt601 => ((torchonlaw06_pt.f 0 1).bind fun bt603 => ((grids_Turn.f k bt597.1 bt597.2 bt599.1 bt599.2 bt601.1 bt601.2 bt603.1 bt603.2).bind fun bt605 => ((grids_Group.f k 2 1 2).bind fun bt607 => ((torchonlaw06_mat.f 0 (-1) 1 0).bind fun bt611 => ((torchonlaw06_pt.f 3 4).bind fun bt615 => ((torchonlaw06_pt.f 1 2).bind fun bt617 => ((grids_Apply.f k bt611.1 bt611.2.1 bt611.2.2.1 bt611.2.2.2 bt615.1 bt615.2 bt617.1 bt617.2).bind fun bt619 => ((torchonlaw06_mat.f 1 (-1) 1 0).bind fun bt623 => ((grids_Order.f k bt623.1 bt623.2.1 bt623.2.2.1 bt623.2.2.2).bind fun bt627 => ((grids_Reduce.f k 5 7 10).bind fun bt629 => (if t588 = 0 then (if t596 = 0 then (if bt605.2 = 0 then (if bt607.2 = 0 then (if bt619.2.2 = 0 then (if bt627.2 = 0 then (torchonlaw06_awake.j0 k t587 t595 bt605.1 bt607.1 bt627.1 (bt629.2.2.2.2.2.2.2 != 0) bt619.1 bt619.2.1 bt629.1 bt629.2.1 bt629.2.2.1 bt629.2.2.2.1 bt629.2.2.2.2.1 bt629.2.2.2.2.2.1 bt629.2.2.2.2.2.2.1) else (torchonlaw06_awake.j0 k t587 t595 bt605.1 bt607.1 bt627.1 true bt619.1 bt619.2.1 bt629.1 bt629.2.1 bt629.2.2.1 bt629.2.2.2.1 bt629.2.2.2.2.1 bt629.2.2.2.2.2.1 bt629.2.2.2.2.2.2.1)) else (torchonlaw06_awake.j0 k t587 t595 bt605.1 bt607.1 bt627.1 true bt619.1 bt619.2.1 bt629.1 bt629.2.1 bt629.2.2.1 bt629.2.2.2.1 bt629.2.2.2.2.1 bt629.2.2.2.2.2.1 bt629.2.2.2.2.2.2.1)) else (torchonlaw06_awake.j0 k t587 t595 bt605.1 bt607.1 bt627.1 true bt619.1 bt619.2.1 bt629.1 bt629.2.1 bt629.2.2.1 bt629.2.2.2.1 bt629.2.2.2.2.1 bt629.2.2.2.2.2.1 bt629.2.2.2.2.2.2.1)) else (torchonlaw06_awake.j0 k t587 t595 bt605.1 bt607.1 bt627.1 true bt619.1 bt619.2.1 bt629.1 bt629.2.1 bt629.2.2.1 bt629.2.2.2.1 bt629.2.2.2.2.1 bt629.2.2.2.2.2.1 bt629.2.2.2.2.2.2.1)) else (torchonlaw06_awake.j0 k t587 t595 bt605.1 bt607.1 bt627.1 true bt619.1 bt619.2.1 bt629.1 bt629.2.1 bt629.2.2.1 bt629.2.2.2.1 bt629.2.2.2.2.1 bt629.2.2.2.2.2.1 bt629.2.2.2.2.2.2.1)) else (torchonlaw06_awake.j0 k t587 t595 bt605.1 bt607.1 bt627.1 true bt619.1 bt619.2.1 bt629.1 bt629.2.1 bt629.2.2.1 bt629.2.2.2.1 bt629.2.2.2.2.1 bt629.2.2.2.2.2.1 bt629.2.2.2.2.2.2.1))))))))))))))) = some r := H
  have A7 := Aside0.mk A70
  clear A70
  replace H := Option.bind_eq_some_iff.mp H
  obtain ⟨⟨t597, t598⟩, A80, H⟩ := H
  replace H : ((torchonlaw06_pt.f 1 0).bind fun bt599 => ((torchonlaw06_pt.f 1 (-1)).bind fun bt601 => ((torchonlaw06_pt.f 0 1).bind fun bt603 => ((grids_Turn.f k t597 t598 bt599.1 bt599.2 bt601.1 bt601.2 bt603.1 bt603.2).bind fun bt605 => ((grids_Group.f k 2 1 2).bind fun bt607 => ((torchonlaw06_mat.f 0 (-1) 1 0).bind fun bt611 => ((torchonlaw06_pt.f 3 4).bind fun bt615 => ((torchonlaw06_pt.f 1 2).bind fun bt617 => ((grids_Apply.f k bt611.1 bt611.2.1 bt611.2.2.1 bt611.2.2.2 bt615.1 bt615.2 bt617.1 bt617.2).bind fun bt619 => ((torchonlaw06_mat.f 1 (-1) 1 0).bind fun bt623 => ((grids_Order.f k bt623.1 bt623.2.1 bt623.2.2.1 bt623.2.2.2).bind fun bt627 => ((grids_Reduce.f k 5 7 10).bind fun bt629 => (if t588 = 0 then (if t596 = 0 then (if bt605.2 = 0 then (if bt607.2 = 0 then (if bt619.2.2 = 0 then (if bt627.2 = 0 then (torchonlaw06_awake.j0 k t587 t595 bt605.1 bt607.1 bt627.1 (bt629.2.2.2.2.2.2.2 != 0) bt619.1 bt619.2.1 bt629.1 bt629.2.1 bt629.2.2.1 bt629.2.2.2.1 bt629.2.2.2.2.1 bt629.2.2.2.2.2.1 bt629.2.2.2.2.2.2.1) else (torchonlaw06_awake.j0 k t587 t595 bt605.1 bt607.1 bt627.1 true bt619.1 bt619.2.1 bt629.1 bt629.2.1 bt629.2.2.1 bt629.2.2.2.1 bt629.2.2.2.2.1 bt629.2.2.2.2.2.1 bt629.2.2.2.2.2.2.1)) else (torchonlaw06_awake.j0 k t587 t595 bt605.1 bt607.1 bt627.1 true bt619.1 bt619.2.1 bt629.1 bt629.2.1 bt629.2.2.1 bt629.2.2.2.1 bt629.2.2.2.2.1 bt629.2.2.2.2.2.1 bt629.2.2.2.2.2.2.1)) else (torchonlaw06_awake.j0 k t587 t595 bt605.1 bt607.1 bt627.1 true bt619.1 bt619.2.1 bt629.1 bt629.2.1 bt629.2.2.1 bt629.2.2.2.1 bt629.2.2.2.2.1 bt629.2.2.2.2.2.1 bt629.2.2.2.2.2.2.1)) else (torchonlaw06_awake.j0 k t587 t595 bt605.1 bt607.1 bt627.1 true bt619.1 bt619.2.1 bt629.1 bt629.2.1 bt629.2.2.1 bt629.2.2.2.1 bt629.2.2.2.2.1 bt629.2.2.2.2.2.1 bt629.2.2.2.2.2.2.1)) else (torchonlaw06_awake.j0 k t587 t595 bt605.1 bt607.1 bt627.1 true bt619.1 bt619.2.1 bt629.1 bt629.2.1 bt629.2.2.1 bt629.2.2.2.1 bt629.2.2.2.2.1 bt629.2.2.2.2.2.1 bt629.2.2.2.2.2.2.1)) else (torchonlaw06_awake.j0 k t587 t595 bt605.1 bt607.1 bt627.1 true bt619.1 bt619.2.1 bt629.1 bt629.2.1 bt629.2.2.1 bt629.2.2.2.1 bt629.2.2.2.2.1 bt629.2.2.2.2.2.1 bt629.2.2.2.2.2.2.1)))))))))))))) = some r := H
  have A8 := Aside0.mk A80
  clear A80
  replace H := Option.bind_eq_some_iff.mp H
  obtain ⟨⟨t599, t600⟩, A90, H⟩ := H
  replace H : ((torchonlaw06_pt.f 1 (-1)).bind fun bt601 => ((torchonlaw06_pt.f 0 1).bind fun bt603 => ((grids_Turn.f k t597 t598 t599 t600 bt601.1 bt601.2 bt603.1 bt603.2).bind fun bt605 => ((grids_Group.f k 2 1 2).bind fun bt607 => ((torchonlaw06_mat.f 0 (-1) 1 0).bind fun bt611 => ((torchonlaw06_pt.f 3 4).bind fun bt615 => ((torchonlaw06_pt.f 1 2).bind fun bt617 => ((grids_Apply.f k bt611.1 bt611.2.1 bt611.2.2.1 bt611.2.2.2 bt615.1 bt615.2 bt617.1 bt617.2).bind fun bt619 => ((torchonlaw06_mat.f 1 (-1) 1 0).bind fun bt623 => ((grids_Order.f k bt623.1 bt623.2.1 bt623.2.2.1 bt623.2.2.2).bind fun bt627 => ((grids_Reduce.f k 5 7 10).bind fun bt629 => (if t588 = 0 then (if t596 = 0 then (if bt605.2 = 0 then (if bt607.2 = 0 then (if bt619.2.2 = 0 then (if bt627.2 = 0 then (torchonlaw06_awake.j0 k t587 t595 bt605.1 bt607.1 bt627.1 (bt629.2.2.2.2.2.2.2 != 0) bt619.1 bt619.2.1 bt629.1 bt629.2.1 bt629.2.2.1 bt629.2.2.2.1 bt629.2.2.2.2.1 bt629.2.2.2.2.2.1 bt629.2.2.2.2.2.2.1) else (torchonlaw06_awake.j0 k t587 t595 bt605.1 bt607.1 bt627.1 true bt619.1 bt619.2.1 bt629.1 bt629.2.1 bt629.2.2.1 bt629.2.2.2.1 bt629.2.2.2.2.1 bt629.2.2.2.2.2.1 bt629.2.2.2.2.2.2.1)) else (torchonlaw06_awake.j0 k t587 t595 bt605.1 bt607.1 bt627.1 true bt619.1 bt619.2.1 bt629.1 bt629.2.1 bt629.2.2.1 bt629.2.2.2.1 bt629.2.2.2.2.1 bt629.2.2.2.2.2.1 bt629.2.2.2.2.2.2.1)) else (torchonlaw06_awake.j0 k t587 t595 bt605.1 bt607.1 bt627.1 true bt619.1 bt619.2.1 bt629.1 bt629.2.1 bt629.2.2.1 bt629.2.2.2.1 bt629.2.2.2.2.1 bt629.2.2.2.2.2.1 bt629.2.2.2.2.2.2.1)) else (torchonlaw06_awake.j0 k t587 t595 bt605.1 bt607.1 bt627.1 true bt619.1 bt619.2.1 bt629.1 bt629.2.1 bt629.2.2.1 bt629.2.2.2.1 bt629.2.2.2.2.1 bt629.2.2.2.2.2.1 bt629.2.2.2.2.2.2.1)) else (torchonlaw06_awake.j0 k t587 t595 bt605.1 bt607.1 bt627.1 true bt619.1 bt619.2.1 bt629.1 bt629.2.1 bt629.2.2.1 bt629.2.2.2.1 bt629.2.2.2.2.1 bt629.2.2.2.2.2.1 bt629.2.2.2.2.2.2.1)) else (torchonlaw06_awake.j0 k t587 t595 bt605.1 bt607.1 bt627.1 true bt619.1 bt619.2.1 bt629.1 bt629.2.1 bt629.2.2.1 bt629.2.2.2.1 bt629.2.2.2.2.1 bt629.2.2.2.2.2.1 bt629.2.2.2.2.2.2.1))))))))))))) = some r := H
  have A9 := Aside0.mk A90
  clear A90
  replace H := Option.bind_eq_some_iff.mp H
  obtain ⟨⟨t601, t602⟩, A100, H⟩ := H
  replace H : ((torchonlaw06_pt.f 0 1).bind fun bt603 => ((grids_Turn.f k t597 t598 t599 t600 t601 t602 bt603.1 bt603.2).bind fun bt605 => ((grids_Group.f k 2 1 2).bind fun bt607 => ((torchonlaw06_mat.f 0 (-1) 1 0).bind fun bt611 => ((torchonlaw06_pt.f 3 4).bind fun bt615 => ((torchonlaw06_pt.f 1 2).bind fun bt617 => ((grids_Apply.f k bt611.1 bt611.2.1 bt611.2.2.1 bt611.2.2.2 bt615.1 bt615.2 bt617.1 bt617.2).bind fun bt619 => ((torchonlaw06_mat.f 1 (-1) 1 0).bind fun bt623 => ((grids_Order.f k bt623.1 bt623.2.1 bt623.2.2.1 bt623.2.2.2).bind fun bt627 => ((grids_Reduce.f k 5 7 10).bind fun bt629 => (if t588 = 0 then (if t596 = 0 then (if bt605.2 = 0 then (if bt607.2 = 0 then (if bt619.2.2 = 0 then (if bt627.2 = 0 then (torchonlaw06_awake.j0 k t587 t595 bt605.1 bt607.1 bt627.1 (bt629.2.2.2.2.2.2.2 != 0) bt619.1 bt619.2.1 bt629.1 bt629.2.1 bt629.2.2.1 bt629.2.2.2.1 bt629.2.2.2.2.1 bt629.2.2.2.2.2.1 bt629.2.2.2.2.2.2.1) else (torchonlaw06_awake.j0 k t587 t595 bt605.1 bt607.1 bt627.1 true bt619.1 bt619.2.1 bt629.1 bt629.2.1 bt629.2.2.1 bt629.2.2.2.1 bt629.2.2.2.2.1 bt629.2.2.2.2.2.1 bt629.2.2.2.2.2.2.1)) else (torchonlaw06_awake.j0 k t587 t595 bt605.1 bt607.1 bt627.1 true bt619.1 bt619.2.1 bt629.1 bt629.2.1 bt629.2.2.1 bt629.2.2.2.1 bt629.2.2.2.2.1 bt629.2.2.2.2.2.1 bt629.2.2.2.2.2.2.1)) else (torchonlaw06_awake.j0 k t587 t595 bt605.1 bt607.1 bt627.1 true bt619.1 bt619.2.1 bt629.1 bt629.2.1 bt629.2.2.1 bt629.2.2.2.1 bt629.2.2.2.2.1 bt629.2.2.2.2.2.1 bt629.2.2.2.2.2.2.1)) else (torchonlaw06_awake.j0 k t587 t595 bt605.1 bt607.1 bt627.1 true bt619.1 bt619.2.1 bt629.1 bt629.2.1 bt629.2.2.1 bt629.2.2.2.1 bt629.2.2.2.2.1 bt629.2.2.2.2.2.1 bt629.2.2.2.2.2.2.1)) else (torchonlaw06_awake.j0 k t587 t595 bt605.1 bt607.1 bt627.1 true bt619.1 bt619.2.1 bt629.1 bt629.2.1 bt629.2.2.1 bt629.2.2.2.1 bt629.2.2.2.2.1 bt629.2.2.2.2.2.1 bt629.2.2.2.2.2.2.1)) else (torchonlaw06_awake.j0 k t587 t595 bt605.1 bt607.1 bt627.1 true bt619.1 bt619.2.1 bt629.1 bt629.2.1 bt629.2.2.1 bt629.2.2.2.1 bt629.2.2.2.2.1 bt629.2.2.2.2.2.1 bt629.2.2.2.2.2.2.1)))))))))))) = some r := H
  have A10 := Aside0.mk A100
  clear A100
  replace H := Option.bind_eq_some_iff.mp H
  obtain ⟨⟨t603, t604⟩, A110, H⟩ := H
  replace H : ((grids_Turn.f k t597 t598 t599 t600 t601 t602 t603 t604).bind fun bt605 => ((grids_Group.f k 2 1 2).bind fun bt607 => ((torchonlaw06_mat.f 0 (-1) 1 0).bind fun bt611 => ((torchonlaw06_pt.f 3 4).bind fun bt615 => ((torchonlaw06_pt.f 1 2).bind fun bt617 => ((grids_Apply.f k bt611.1 bt611.2.1 bt611.2.2.1 bt611.2.2.2 bt615.1 bt615.2 bt617.1 bt617.2).bind fun bt619 => ((torchonlaw06_mat.f 1 (-1) 1 0).bind fun bt623 => ((grids_Order.f k bt623.1 bt623.2.1 bt623.2.2.1 bt623.2.2.2).bind fun bt627 => ((grids_Reduce.f k 5 7 10).bind fun bt629 => (if t588 = 0 then (if t596 = 0 then (if bt605.2 = 0 then (if bt607.2 = 0 then (if bt619.2.2 = 0 then (if bt627.2 = 0 then (torchonlaw06_awake.j0 k t587 t595 bt605.1 bt607.1 bt627.1 (bt629.2.2.2.2.2.2.2 != 0) bt619.1 bt619.2.1 bt629.1 bt629.2.1 bt629.2.2.1 bt629.2.2.2.1 bt629.2.2.2.2.1 bt629.2.2.2.2.2.1 bt629.2.2.2.2.2.2.1) else (torchonlaw06_awake.j0 k t587 t595 bt605.1 bt607.1 bt627.1 true bt619.1 bt619.2.1 bt629.1 bt629.2.1 bt629.2.2.1 bt629.2.2.2.1 bt629.2.2.2.2.1 bt629.2.2.2.2.2.1 bt629.2.2.2.2.2.2.1)) else (torchonlaw06_awake.j0 k t587 t595 bt605.1 bt607.1 bt627.1 true bt619.1 bt619.2.1 bt629.1 bt629.2.1 bt629.2.2.1 bt629.2.2.2.1 bt629.2.2.2.2.1 bt629.2.2.2.2.2.1 bt629.2.2.2.2.2.2.1)) else (torchonlaw06_awake.j0 k t587 t595 bt605.1 bt607.1 bt627.1 true bt619.1 bt619.2.1 bt629.1 bt629.2.1 bt629.2.2.1 bt629.2.2.2.1 bt629.2.2.2.2.1 bt629.2.2.2.2.2.1 bt629.2.2.2.2.2.2.1)) else (torchonlaw06_awake.j0 k t587 t595 bt605.1 bt607.1 bt627.1 true bt619.1 bt619.2.1 bt629.1 bt629.2.1 bt629.2.2.1 bt629.2.2.2.1 bt629.2.2.2.2.1 bt629.2.2.2.2.2.1 bt629.2.2.2.2.2.2.1)) else (torchonlaw06_awake.j0 k t587 t595 bt605.1 bt607.1 bt627.1 true bt619.1 bt619.2.1 bt629.1 bt629.2.1 bt629.2.2.1 bt629.2.2.2.1 bt629.2.2.2.2.1 bt629.2.2.2.2.2.1 bt629.2.2.2.2.2.2.1)) else (torchonlaw06_awake.j0 k t587 t595 bt605.1 bt607.1 bt627.1 true bt619.1 bt619.2.1 bt629.1 bt629.2.1 bt629.2.2.1 bt629.2.2.2.1 bt629.2.2.2.2.1 bt629.2.2.2.2.2.1 bt629.2.2.2.2.2.2.1))))))))))) = some r := H
  have A11 := Aside0.mk A110
  clear A110
  replace H := Option.bind_eq_some_iff.mp H
  obtain ⟨⟨t605, t606⟩, A120, H⟩ := H
  replace H : ((grids_Group.f k 2 1 2).bind fun bt607 => ((torchonlaw06_mat.f 0 (-1) 1 0).bind fun bt611 => ((torchonlaw06_pt.f 3 4).bind fun bt615 => ((torchonlaw06_pt.f 1 2).bind fun bt617 => ((grids_Apply.f k bt611.1 bt611.2.1 bt611.2.2.1 bt611.2.2.2 bt615.1 bt615.2 bt617.1 bt617.2).bind fun bt619 => ((torchonlaw06_mat.f 1 (-1) 1 0).bind fun bt623 => ((grids_Order.f k bt623.1 bt623.2.1 bt623.2.2.1 bt623.2.2.2).bind fun bt627 => ((grids_Reduce.f k 5 7 10).bind fun bt629 => (if t588 = 0 then (if t596 = 0 then (if t606 = 0 then (if bt607.2 = 0 then (if bt619.2.2 = 0 then (if bt627.2 = 0 then (torchonlaw06_awake.j0 k t587 t595 t605 bt607.1 bt627.1 (bt629.2.2.2.2.2.2.2 != 0) bt619.1 bt619.2.1 bt629.1 bt629.2.1 bt629.2.2.1 bt629.2.2.2.1 bt629.2.2.2.2.1 bt629.2.2.2.2.2.1 bt629.2.2.2.2.2.2.1) else (torchonlaw06_awake.j0 k t587 t595 t605 bt607.1 bt627.1 true bt619.1 bt619.2.1 bt629.1 bt629.2.1 bt629.2.2.1 bt629.2.2.2.1 bt629.2.2.2.2.1 bt629.2.2.2.2.2.1 bt629.2.2.2.2.2.2.1)) else (torchonlaw06_awake.j0 k t587 t595 t605 bt607.1 bt627.1 true bt619.1 bt619.2.1 bt629.1 bt629.2.1 bt629.2.2.1 bt629.2.2.2.1 bt629.2.2.2.2.1 bt629.2.2.2.2.2.1 bt629.2.2.2.2.2.2.1)) else (torchonlaw06_awake.j0 k t587 t595 t605 bt607.1 bt627.1 true bt619.1 bt619.2.1 bt629.1 bt629.2.1 bt629.2.2.1 bt629.2.2.2.1 bt629.2.2.2.2.1 bt629.2.2.2.2.2.1 bt629.2.2.2.2.2.2.1)) else (torchonlaw06_awake.j0 k t587 t595 t605 bt607.1 bt627.1 true bt619.1 bt619.2.1 bt629.1 bt629.2.1 bt629.2.2.1 bt629.2.2.2.1 bt629.2.2.2.2.1 bt629.2.2.2.2.2.1 bt629.2.2.2.2.2.2.1)) else (torchonlaw06_awake.j0 k t587 t595 t605 bt607.1 bt627.1 true bt619.1 bt619.2.1 bt629.1 bt629.2.1 bt629.2.2.1 bt629.2.2.2.1 bt629.2.2.2.2.1 bt629.2.2.2.2.2.1 bt629.2.2.2.2.2.2.1)) else (torchonlaw06_awake.j0 k t587 t595 t605 bt607.1 bt627.1 true bt619.1 bt619.2.1 bt629.1 bt629.2.1 bt629.2.2.1 bt629.2.2.2.1 bt629.2.2.2.2.1 bt629.2.2.2.2.2.1 bt629.2.2.2.2.2.2.1)))))))))) = some r := H
  have A12 := Aside0.mk A120
  clear A120
  replace H := Option.bind_eq_some_iff.mp H
  obtain ⟨⟨t607, t610⟩, A130, H⟩ := H
  replace H : ((torchonlaw06_mat.f 0 (-1) 1 0).bind fun bt611 => ((torchonlaw06_pt.f 3 4).bind fun bt615 => ((torchonlaw06_pt.f 1 2).bind fun bt617 => ((grids_Apply.f k bt611.1 bt611.2.1 bt611.2.2.1 bt611.2.2.2 bt615.1 bt615.2 bt617.1 bt617.2).bind fun bt619 => ((torchonlaw06_mat.f 1 (-1) 1 0).bind fun bt623 => ((grids_Order.f k bt623.1 bt623.2.1 bt623.2.2.1 bt623.2.2.2).bind fun bt627 => ((grids_Reduce.f k 5 7 10).bind fun bt629 => (if t588 = 0 then (if t596 = 0 then (if t606 = 0 then (if t610 = 0 then (if bt619.2.2 = 0 then (if bt627.2 = 0 then (torchonlaw06_awake.j0 k t587 t595 t605 t607 bt627.1 (bt629.2.2.2.2.2.2.2 != 0) bt619.1 bt619.2.1 bt629.1 bt629.2.1 bt629.2.2.1 bt629.2.2.2.1 bt629.2.2.2.2.1 bt629.2.2.2.2.2.1 bt629.2.2.2.2.2.2.1) else (torchonlaw06_awake.j0 k t587 t595 t605 t607 bt627.1 true bt619.1 bt619.2.1 bt629.1 bt629.2.1 bt629.2.2.1 bt629.2.2.2.1 bt629.2.2.2.2.1 bt629.2.2.2.2.2.1 bt629.2.2.2.2.2.2.1)) else (torchonlaw06_awake.j0 k t587 t595 t605 t607 bt627.1 true bt619.1 bt619.2.1 bt629.1 bt629.2.1 bt629.2.2.1 bt629.2.2.2.1 bt629.2.2.2.2.1 bt629.2.2.2.2.2.1 bt629.2.2.2.2.2.2.1)) else (torchonlaw06_awake.j0 k t587 t595 t605 t607 bt627.1 true bt619.1 bt619.2.1 bt629.1 bt629.2.1 bt629.2.2.1 bt629.2.2.2.1 bt629.2.2.2.2.1 bt629.2.2.2.2.2.1 bt629.2.2.2.2.2.2.1)) else (torchonlaw06_awake.j0 k t587 t595 t605 t607 bt627.1 true bt619.1 bt619.2.1 bt629.1 bt629.2.1 bt629.2.2.1 bt629.2.2.2.1 bt629.2.2.2.2.1 bt629.2.2.2.2.2.1 bt629.2.2.2.2.2.2.1)) else (torchonlaw06_awake.j0 k t587 t595 t605 t607 bt627.1 true bt619.1 bt619.2.1 bt629.1 bt629.2.1 bt629.2.2.1 bt629.2.2.2.1 bt629.2.2.2.2.1 bt629.2.2.2.2.2.1 bt629.2.2.2.2.2.2.1)) else (torchonlaw06_awake.j0 k t587 t595 t605 t607 bt627.1 true bt619.1 bt619.2.1 bt629.1 bt629.2.1 bt629.2.2.1 bt629.2.2.2.1 bt629.2.2.2.2.1 bt629.2.2.2.2.2.1 bt629.2.2.2.2.2.2.1))))))))) = some r := H
  have A13 := Aside0.mk A130
  clear A130
  replace H := Option.bind_eq_some_iff.mp H
  obtain ⟨⟨t611, t612, t613, t614⟩, A140, H⟩ := H
  replace H : ((torchonlaw06_pt.f 3 4).bind fun bt615 => ((torchonlaw06_pt.f 1 2).bind fun bt617 => ((grids_Apply.f k t611 t612 t613 t614 bt615.1 bt615.2 bt617.1 bt617.2).bind fun bt619 => ((torchonlaw06_mat.f 1 (-1) 1 0).bind fun bt623 => ((grids_Order.f k bt623.1 bt623.2.1 bt623.2.2.1 bt623.2.2.2).bind fun bt627 => ((grids_Reduce.f k 5 7 10).bind fun bt629 => (if t588 = 0 then (if t596 = 0 then (if t606 = 0 then (if t610 = 0 then (if bt619.2.2 = 0 then (if bt627.2 = 0 then (torchonlaw06_awake.j0 k t587 t595 t605 t607 bt627.1 (bt629.2.2.2.2.2.2.2 != 0) bt619.1 bt619.2.1 bt629.1 bt629.2.1 bt629.2.2.1 bt629.2.2.2.1 bt629.2.2.2.2.1 bt629.2.2.2.2.2.1 bt629.2.2.2.2.2.2.1) else (torchonlaw06_awake.j0 k t587 t595 t605 t607 bt627.1 true bt619.1 bt619.2.1 bt629.1 bt629.2.1 bt629.2.2.1 bt629.2.2.2.1 bt629.2.2.2.2.1 bt629.2.2.2.2.2.1 bt629.2.2.2.2.2.2.1)) else (torchonlaw06_awake.j0 k t587 t595 t605 t607 bt627.1 true bt619.1 bt619.2.1 bt629.1 bt629.2.1 bt629.2.2.1 bt629.2.2.2.1 bt629.2.2.2.2.1 bt629.2.2.2.2.2.1 bt629.2.2.2.2.2.2.1)) else (torchonlaw06_awake.j0 k t587 t595 t605 t607 bt627.1 true bt619.1 bt619.2.1 bt629.1 bt629.2.1 bt629.2.2.1 bt629.2.2.2.1 bt629.2.2.2.2.1 bt629.2.2.2.2.2.1 bt629.2.2.2.2.2.2.1)) else (torchonlaw06_awake.j0 k t587 t595 t605 t607 bt627.1 true bt619.1 bt619.2.1 bt629.1 bt629.2.1 bt629.2.2.1 bt629.2.2.2.1 bt629.2.2.2.2.1 bt629.2.2.2.2.2.1 bt629.2.2.2.2.2.2.1)) else (torchonlaw06_awake.j0 k t587 t595 t605 t607 bt627.1 true bt619.1 bt619.2.1 bt629.1 bt629.2.1 bt629.2.2.1 bt629.2.2.2.1 bt629.2.2.2.2.1 bt629.2.2.2.2.2.1 bt629.2.2.2.2.2.2.1)) else (torchonlaw06_awake.j0 k t587 t595 t605 t607 bt627.1 true bt619.1 bt619.2.1 bt629.1 bt629.2.1 bt629.2.2.1 bt629.2.2.2.1 bt629.2.2.2.2.1 bt629.2.2.2.2.2.1 bt629.2.2.2.2.2.2.1)))))))) = some r := H
  have A14 := Aside0.mk A140
  clear A140
  replace H := Option.bind_eq_some_iff.mp H
  obtain ⟨⟨t615, t616⟩, A150, H⟩ := H
  replace H : ((torchonlaw06_pt.f 1 2).bind fun bt617 => ((grids_Apply.f k t611 t612 t613 t614 t615 t616 bt617.1 bt617.2).bind fun bt619 => ((torchonlaw06_mat.f 1 (-1) 1 0).bind fun bt623 => ((grids_Order.f k bt623.1 bt623.2.1 bt623.2.2.1 bt623.2.2.2).bind fun bt627 => ((grids_Reduce.f k 5 7 10).bind fun bt629 => (if t588 = 0 then (if t596 = 0 then (if t606 = 0 then (if t610 = 0 then (if bt619.2.2 = 0 then (if bt627.2 = 0 then (torchonlaw06_awake.j0 k t587 t595 t605 t607 bt627.1 (bt629.2.2.2.2.2.2.2 != 0) bt619.1 bt619.2.1 bt629.1 bt629.2.1 bt629.2.2.1 bt629.2.2.2.1 bt629.2.2.2.2.1 bt629.2.2.2.2.2.1 bt629.2.2.2.2.2.2.1) else (torchonlaw06_awake.j0 k t587 t595 t605 t607 bt627.1 true bt619.1 bt619.2.1 bt629.1 bt629.2.1 bt629.2.2.1 bt629.2.2.2.1 bt629.2.2.2.2.1 bt629.2.2.2.2.2.1 bt629.2.2.2.2.2.2.1)) else (torchonlaw06_awake.j0 k t587 t595 t605 t607 bt627.1 true bt619.1 bt619.2.1 bt629.1 bt629.2.1 bt629.2.2.1 bt629.2.2.2.1 bt629.2.2.2.2.1 bt629.2.2.2.2.2.1 bt629.2.2.2.2.2.2.1)) else (torchonlaw06_awake.j0 k t587 t595 t605 t607 bt627.1 true bt619.1 bt619.2.1 bt629.1 bt629.2.1 bt629.2.2.1 bt629.2.2.2.1 bt629.2.2.2.2.1 bt629.2.2.2.2.2.1 bt629.2.2.2.2.2.2.1)) else (torchonlaw06_awake.j0 k t587 t595 t605 t607 bt627.1 true bt619.1 bt619.2.1 bt629.1 bt629.2.1 bt629.2.2.1 bt629.2.2.2.1 bt629.2.2.2.2.1 bt629.2.2.2.2.2.1 bt629.2.2.2.2.2.2.1)) else (torchonlaw06_awake.j0 k t587 t595 t605 t607 bt627.1 true bt619.1 bt619.2.1 bt629.1 bt629.2.1 bt629.2.2.1 bt629.2.2.2.1 bt629.2.2.2.2.1 bt629.2.2.2.2.2.1 bt629.2.2.2.2.2.2.1)) else (torchonlaw06_awake.j0 k t587 t595 t605 t607 bt627.1 true bt619.1 bt619.2.1 bt629.1 bt629.2.1 bt629.2.2.1 bt629.2.2.2.1 bt629.2.2.2.2.1 bt629.2.2.2.2.2.1 bt629.2.2.2.2.2.2.1))))))) = some r := H
  have A15 := Aside0.mk A150
  clear A150
  replace H := Option.bind_eq_some_iff.mp H
  obtain ⟨⟨t617, t618⟩, A160, H⟩ := H
  replace H : ((grids_Apply.f k t611 t612 t613 t614 t615 t616 t617 t618).bind fun bt619 => ((torchonlaw06_mat.f 1 (-1) 1 0).bind fun bt623 => ((grids_Order.f k bt623.1 bt623.2.1 bt623.2.2.1 bt623.2.2.2).bind fun bt627 => ((grids_Reduce.f k 5 7 10).bind fun bt629 => (if t588 = 0 then (if t596 = 0 then (if t606 = 0 then (if t610 = 0 then (if bt619.2.2 = 0 then (if bt627.2 = 0 then (torchonlaw06_awake.j0 k t587 t595 t605 t607 bt627.1 (bt629.2.2.2.2.2.2.2 != 0) bt619.1 bt619.2.1 bt629.1 bt629.2.1 bt629.2.2.1 bt629.2.2.2.1 bt629.2.2.2.2.1 bt629.2.2.2.2.2.1 bt629.2.2.2.2.2.2.1) else (torchonlaw06_awake.j0 k t587 t595 t605 t607 bt627.1 true bt619.1 bt619.2.1 bt629.1 bt629.2.1 bt629.2.2.1 bt629.2.2.2.1 bt629.2.2.2.2.1 bt629.2.2.2.2.2.1 bt629.2.2.2.2.2.2.1)) else (torchonlaw06_awake.j0 k t587 t595 t605 t607 bt627.1 true bt619.1 bt619.2.1 bt629.1 bt629.2.1 bt629.2.2.1 bt629.2.2.2.1 bt629.2.2.2.2.1 bt629.2.2.2.2.2.1 bt629.2.2.2.2.2.2.1)) else (torchonlaw06_awake.j0 k t587 t595 t605 t607 bt627.1 true bt619.1 bt619.2.1 bt629.1 bt629.2.1 bt629.2.2.1 bt629.2.2.2.1 bt629.2.2.2.2.1 bt629.2.2.2.2.2.1 bt629.2.2.2.2.2.2.1)) else (torchonlaw06_awake.j0 k t587 t595 t605 t607 bt627.1 true bt619.1 bt619.2.1 bt629.1 bt629.2.1 bt629.2.2.1 bt629.2.2.2.1 bt629.2.2.2.2.1 bt629.2.2.2.2.2.1 bt629.2.2.2.2.2.2.1)) else (torchonlaw06_awake.j0 k t587 t595 t605 t607 bt627.1 true bt619.1 bt619.2.1 bt629.1 bt629.2.1 bt629.2.2.1 bt629.2.2.2.1 bt629.2.2.2.2.1 bt629.2.2.2.2.2.1 bt629.2.2.2.2.2.2.1)) else (torchonlaw06_awake.j0 k t587 t595 t605 t607 bt627.1 true bt619.1 bt619.2.1 bt629.1 bt629.2.1 bt629.2.2.1 bt629.2.2.2.1 bt629.2.2.2.2.1 bt629.2.2.2.2.2.1 bt629.2.2.2.2.2.2.1)))))) = some r := H
  have A16 := Aside0.mk A160
  clear A160
  replace H := Option.bind_eq_some_iff.mp H
  obtain ⟨⟨t619, t620, t621⟩, A170, H⟩ := H
  replace H : ((torchonlaw06_mat.f 1 (-1) 1 0).bind fun bt623 => ((grids_Order.f k bt623.1 bt623.2.1 bt623.2.2.1 bt623.2.2.2).bind fun bt627 => ((grids_Reduce.f k 5 7 10).bind fun bt629 => (if t588 = 0 then (if t596 = 0 then (if t606 = 0 then (if t610 = 0 then (if t621 = 0 then (if bt627.2 = 0 then (torchonlaw06_awake.j0 k t587 t595 t605 t607 bt627.1 (bt629.2.2.2.2.2.2.2 != 0) t619 t620 bt629.1 bt629.2.1 bt629.2.2.1 bt629.2.2.2.1 bt629.2.2.2.2.1 bt629.2.2.2.2.2.1 bt629.2.2.2.2.2.2.1) else (torchonlaw06_awake.j0 k t587 t595 t605 t607 bt627.1 true t619 t620 bt629.1 bt629.2.1 bt629.2.2.1 bt629.2.2.2.1 bt629.2.2.2.2.1 bt629.2.2.2.2.2.1 bt629.2.2.2.2.2.2.1)) else (torchonlaw06_awake.j0 k t587 t595 t605 t607 bt627.1 true t619 t620 bt629.1 bt629.2.1 bt629.2.2.1 bt629.2.2.2.1 bt629.2.2.2.2.1 bt629.2.2.2.2.2.1 bt629.2.2.2.2.2.2.1)) else (torchonlaw06_awake.j0 k t587 t595 t605 t607 bt627.1 true t619 t620 bt629.1 bt629.2.1 bt629.2.2.1 bt629.2.2.2.1 bt629.2.2.2.2.1 bt629.2.2.2.2.2.1 bt629.2.2.2.2.2.2.1)) else (torchonlaw06_awake.j0 k t587 t595 t605 t607 bt627.1 true t619 t620 bt629.1 bt629.2.1 bt629.2.2.1 bt629.2.2.2.1 bt629.2.2.2.2.1 bt629.2.2.2.2.2.1 bt629.2.2.2.2.2.2.1)) else (torchonlaw06_awake.j0 k t587 t595 t605 t607 bt627.1 true t619 t620 bt629.1 bt629.2.1 bt629.2.2.1 bt629.2.2.2.1 bt629.2.2.2.2.1 bt629.2.2.2.2.2.1 bt629.2.2.2.2.2.2.1)) else (torchonlaw06_awake.j0 k t587 t595 t605 t607 bt627.1 true t619 t620 bt629.1 bt629.2.1 bt629.2.2.1 bt629.2.2.2.1 bt629.2.2.2.2.1 bt629.2.2.2.2.2.1 bt629.2.2.2.2.2.2.1))))) = some r := H
  have A17 := Aside0.mk A170
  clear A170
  replace H := Option.bind_eq_some_iff.mp H
  obtain ⟨⟨t623, t624, t625, t626⟩, A180, H⟩ := H
  replace H : ((grids_Order.f k t623 t624 t625 t626).bind fun bt627 => ((grids_Reduce.f k 5 7 10).bind fun bt629 => (if t588 = 0 then (if t596 = 0 then (if t606 = 0 then (if t610 = 0 then (if t621 = 0 then (if bt627.2 = 0 then (torchonlaw06_awake.j0 k t587 t595 t605 t607 bt627.1 (bt629.2.2.2.2.2.2.2 != 0) t619 t620 bt629.1 bt629.2.1 bt629.2.2.1 bt629.2.2.2.1 bt629.2.2.2.2.1 bt629.2.2.2.2.2.1 bt629.2.2.2.2.2.2.1) else (torchonlaw06_awake.j0 k t587 t595 t605 t607 bt627.1 true t619 t620 bt629.1 bt629.2.1 bt629.2.2.1 bt629.2.2.2.1 bt629.2.2.2.2.1 bt629.2.2.2.2.2.1 bt629.2.2.2.2.2.2.1)) else (torchonlaw06_awake.j0 k t587 t595 t605 t607 bt627.1 true t619 t620 bt629.1 bt629.2.1 bt629.2.2.1 bt629.2.2.2.1 bt629.2.2.2.2.1 bt629.2.2.2.2.2.1 bt629.2.2.2.2.2.2.1)) else (torchonlaw06_awake.j0 k t587 t595 t605 t607 bt627.1 true t619 t620 bt629.1 bt629.2.1 bt629.2.2.1 bt629.2.2.2.1 bt629.2.2.2.2.1 bt629.2.2.2.2.2.1 bt629.2.2.2.2.2.2.1)) else (torchonlaw06_awake.j0 k t587 t595 t605 t607 bt627.1 true t619 t620 bt629.1 bt629.2.1 bt629.2.2.1 bt629.2.2.2.1 bt629.2.2.2.2.1 bt629.2.2.2.2.2.1 bt629.2.2.2.2.2.2.1)) else (torchonlaw06_awake.j0 k t587 t595 t605 t607 bt627.1 true t619 t620 bt629.1 bt629.2.1 bt629.2.2.1 bt629.2.2.2.1 bt629.2.2.2.2.1 bt629.2.2.2.2.2.1 bt629.2.2.2.2.2.2.1)) else (torchonlaw06_awake.j0 k t587 t595 t605 t607 bt627.1 true t619 t620 bt629.1 bt629.2.1 bt629.2.2.1 bt629.2.2.2.1 bt629.2.2.2.2.1 bt629.2.2.2.2.2.1 bt629.2.2.2.2.2.2.1)))) = some r := H
  have A18 := Aside0.mk A180
  clear A180
  replace H := Option.bind_eq_some_iff.mp H
  obtain ⟨⟨t627, t628⟩, A190, H⟩ := H
  replace H : ((grids_Reduce.f k 5 7 10).bind fun bt629 => (if t588 = 0 then (if t596 = 0 then (if t606 = 0 then (if t610 = 0 then (if t621 = 0 then (if t628 = 0 then (torchonlaw06_awake.j0 k t587 t595 t605 t607 t627 (bt629.2.2.2.2.2.2.2 != 0) t619 t620 bt629.1 bt629.2.1 bt629.2.2.1 bt629.2.2.2.1 bt629.2.2.2.2.1 bt629.2.2.2.2.2.1 bt629.2.2.2.2.2.2.1) else (torchonlaw06_awake.j0 k t587 t595 t605 t607 t627 true t619 t620 bt629.1 bt629.2.1 bt629.2.2.1 bt629.2.2.2.1 bt629.2.2.2.2.1 bt629.2.2.2.2.2.1 bt629.2.2.2.2.2.2.1)) else (torchonlaw06_awake.j0 k t587 t595 t605 t607 t627 true t619 t620 bt629.1 bt629.2.1 bt629.2.2.1 bt629.2.2.2.1 bt629.2.2.2.2.1 bt629.2.2.2.2.2.1 bt629.2.2.2.2.2.2.1)) else (torchonlaw06_awake.j0 k t587 t595 t605 t607 t627 true t619 t620 bt629.1 bt629.2.1 bt629.2.2.1 bt629.2.2.2.1 bt629.2.2.2.2.1 bt629.2.2.2.2.2.1 bt629.2.2.2.2.2.2.1)) else (torchonlaw06_awake.j0 k t587 t595 t605 t607 t627 true t619 t620 bt629.1 bt629.2.1 bt629.2.2.1 bt629.2.2.2.1 bt629.2.2.2.2.1 bt629.2.2.2.2.2.1 bt629.2.2.2.2.2.2.1)) else (torchonlaw06_awake.j0 k t587 t595 t605 t607 t627 true t619 t620 bt629.1 bt629.2.1 bt629.2.2.1 bt629.2.2.2.1 bt629.2.2.2.2.1 bt629.2.2.2.2.2.1 bt629.2.2.2.2.2.2.1)) else (torchonlaw06_awake.j0 k t587 t595 t605 t607 t627 true t619 t620 bt629.1 bt629.2.1 bt629.2.2.1 bt629.2.2.2.1 bt629.2.2.2.2.1 bt629.2.2.2.2.2.1 bt629.2.2.2.2.2.2.1))) = some r := H
  have A19 := Aside0.mk A190
  clear A190
  replace H := Option.bind_eq_some_iff.mp H
  obtain ⟨⟨t629, t630, t631, t632, t633, t634, t635, t636⟩, A200, H⟩ := H
  replace H : (if t588 = 0 then (if t596 = 0 then (if t606 = 0 then (if t610 = 0 then (if t621 = 0 then (if t628 = 0 then (torchonlaw06_awake.j0 k t587 t595 t605 t607 t627 (t636 != 0) t619 t620 t629 t630 t631 t632 t633 t634 t635) else (torchonlaw06_awake.j0 k t587 t595 t605 t607 t627 true t619 t620 t629 t630 t631 t632 t633 t634 t635)) else (torchonlaw06_awake.j0 k t587 t595 t605 t607 t627 true t619 t620 t629 t630 t631 t632 t633 t634 t635)) else (torchonlaw06_awake.j0 k t587 t595 t605 t607 t627 true t619 t620 t629 t630 t631 t632 t633 t634 t635)) else (torchonlaw06_awake.j0 k t587 t595 t605 t607 t627 true t619 t620 t629 t630 t631 t632 t633 t634 t635)) else (torchonlaw06_awake.j0 k t587 t595 t605 t607 t627 true t619 t620 t629 t630 t631 t632 t633 t634 t635)) else (torchonlaw06_awake.j0 k t587 t595 t605 t607 t627 true t619 t620 t629 t630 t631 t632 t633 t634 t635)) = some r := H
  have A20 := Aside0.mk A200
  clear A200
  have HC21 := Aside0.mk H
  clear H
  go_enter Try.func13, Try.ntmps13
  try go_wp2_with (first | ((with_reducible refine gate_dst (N := 1) rfl ?_); (try (refine gate_guard (by rfl) ?_; dsimp only)); refine bx 1 #[.int .i64 0, .int .i64 0, .int .i64 0] 23 fun gb582 hg w22 BK582 hb => ?_; have GW582 := gw hg HB; have GE582 := gw hg HB; replace HB := bst HB hb; clear hb hg; have ⟨hcz23_0, hcz23_1, hcz23_2, hfz23_0, hfz23_1, hfz23_2⟩ := cf3 BK582) | ((with_reducible refine gate_store (t := 23) (p := 1) rfl ?_); refine sx 23 1 ((((w22.setCell ⟨gb582, 0, none⟩ (.int .i64 2)).setCell ⟨gb582, 1, none⟩ (.int .i64 1)).setCell ⟨gb582, 2, none⟩ (.int .i64 2))) fun w24 hw => ?_; replace BK582 := pw3 hw BK582; replace HB := bw hw HB; clear hw))
  replace BK582 := bd BK582
  replace HB := bdn HB
  refine start_ (n := 9) (S := fun w' => w'.cell? ⟨gb582, 0, none⟩ = some (.int .i64 2) ∧ w'.cell? ⟨gb582, 1, none⟩ = some (.int .i64 1) ∧ w'.cell? ⟨gb582, 2, none⟩ = some (.int .i64 2)) (ds := []) #[false, false, false, false, false, false, false, false, false] (by kernel_rfl) rfl rfl ⟨(blk_cell BK582.out 0).trans rfl, (blk_cell BK582.out 1).trans rfl, (blk_cell BK582.out 2).trans rfl⟩ (fun hHeld => ?_); refine with_tabW torchonlaw06_awake.tab2 torchonlaw06_awake.bits2 (fun HT_ HW_ => ?_)
  generalize w24.drew = w25 at BK582 HB hHeld ⊢
  refine tz 0 19 HT_ HW_ hHeld ?_
  refine one_ (i := 1) (N := some 20) #[true, true, false, false, false, false, false, false, false] rfl rfl (one_of HT_.out (by kernel_rfl)) (by decide) (fun K hK => ?_)
  refine gs _ Try.func19 (torchonlaw06_pt.calls 0 0 t583 t584 _ A1.out) ?_
  rintro e w26 ⟨rfl, hb⟩
  refine ⟨_, rfl, ?_⟩
  replace BK582 := bb BK582 hb
  replace HB := bst HB hb
  (try clear hb)
  (try clear hb2)
  (try clear hk)
  (try clear hi)
  refine hK.out _ _ ⟨(blk_cell BK582.out 0).trans rfl, (blk_cell BK582.out 1).trans rfl, (blk_cell BK582.out 2).trans rfl⟩ (fun hHeld => ?_)
  clear hK K
  refine norm_ (a' := ?_) ?_ ?_
  rotate_left
  · show Act.put _ (some 20) _ = _
    simp only [Act.put, List.setIfInBounds_toArray, List.set_cons_zero, List.set_cons_succ, i64_w, i32_w]
    rfl
  refine one_ (i := 2) (N := some 21) #[true, true, true, false, false, false, false, false, false] rfl rfl (one_of HT_.out (by kernel_rfl)) (by decide) (fun K hK => ?_)
  refine gs _ Try.func19 (torchonlaw06_pt.calls 1 1 t585 t586 _ A2.out) ?_
  rintro e w27 ⟨rfl, hb⟩
  refine ⟨_, rfl, ?_⟩
  replace BK582 := bb BK582 hb
  replace HB := bst HB hb
  (try clear hb)
  (try clear hb2)
  (try clear hk)
  (try clear hi)
  refine hK.out _ _ ⟨(blk_cell BK582.out 0).trans rfl, (blk_cell BK582.out 1).trans rfl, (blk_cell BK582.out 2).trans rfl⟩ (fun hHeld => ?_)
  clear hK K
  refine norm_ (a' := ?_) ?_ ?_
  rotate_left
  · show Act.put _ (some 21) _ = _
    simp only [Act.put, List.setIfInBounds_toArray, List.set_cons_zero, List.set_cons_succ, i64_w, i32_w]
    rfl
  refine one_ (i := 3) (N := some 22) #[true, true, true, true, false, false, false, false, false] rfl rfl (one_of HT_.out (by kernel_rfl)) (by decide) (fun K hK => ?_)
  refine gs _ Try.func20 (grids_Square.calls k 2 1 2 t583 t584 t585 t586 t587 t588 _ A3.out) ?_
  rintro e w28 ⟨rfl, hb⟩
  refine ⟨_, rfl, ?_⟩
  replace BK582 := bb BK582 hb
  replace HB := bst HB hb
  (try clear hb)
  (try clear hb2)
  (try clear hk)
  (try clear hi)
  refine hK.out _ _ ⟨(blk_cell BK582.out 0).trans rfl, (blk_cell BK582.out 1).trans rfl, (blk_cell BK582.out 2).trans rfl⟩ (fun hHeld => ?_)
  clear hK K
  refine norm_ (a' := ?_) ?_ ?_
  rotate_left
  · show Act.put _ (some 22) _ = _
    simp only [Act.put, List.setIfInBounds_toArray, List.set_cons_zero, List.set_cons_succ, i64_w, i32_w]
    rfl
  refine pz 4 18 HT_ ?_
  refine pz 5 23 HT_ ?_
  refine pz 6 24 HT_ ?_
  refine pz 7 2 HT_ ?_
  refine pz 8 3 HT_ ?_
  refine done_ (done_of HT_.out (by kernel_rfl)) ?_
  go_upto_region 9 with (first | ((with_reducible refine gate_callee (f := 19) rfl ?_); refine gl 26 Try.func19 (torchonlaw06_pt.calls 0 0 t589 t590 _ A4.out) ?_; rintro e w29 ⟨rfl, hb⟩; refine ⟨_, rfl, ?_⟩; replace BK582 := bb BK582 hb; replace HB := bst HB hb; clear hb) | ((with_reducible refine gate_callee (f := 19) rfl ?_); refine gl 27 Try.func19 (torchonlaw06_pt.calls 1 0 t591 t592 _ A5.out) ?_; rintro e w30 ⟨rfl, hb⟩; refine ⟨_, rfl, ?_⟩; replace BK582 := bb BK582 hb; replace HB := bst HB hb; clear hb) | ((with_reducible refine gate_callee (f := 19) rfl ?_); refine gl 28 Try.func19 (torchonlaw06_pt.calls 0 1 t593 t594 _ A6.out) ?_; rintro e w31 ⟨rfl, hb⟩; refine ⟨_, rfl, ?_⟩; replace BK582 := bb BK582 hb; replace HB := bst HB hb; clear hb) | ((with_reducible refine gate_callee (f := 21) rfl ?_); refine gl 29 Try.func21 (grids_Side.calls k t589 t590 t591 t592 t593 t594 t595 t596 _ A7.out) ?_; rintro e w32 ⟨rfl, hb⟩; refine ⟨_, rfl, ?_⟩; replace BK582 := bb BK582 hb; replace HB := bst HB hb; clear hb) | ((with_reducible refine gate_callee (f := 19) rfl ?_); refine gl 33 Try.func19 (torchonlaw06_pt.calls 0 0 t597 t598 _ A8.out) ?_; rintro e w33 ⟨rfl, hb⟩; refine ⟨_, rfl, ?_⟩; replace BK582 := bb BK582 hb; replace HB := bst HB hb; clear hb) | ((with_reducible refine gate_callee (f := 19) rfl ?_); refine gl 34 Try.func19 (torchonlaw06_pt.calls 1 0 t599 t600 _ A9.out) ?_; rintro e w34 ⟨rfl, hb⟩; refine ⟨_, rfl, ?_⟩; replace BK582 := bb BK582 hb; replace HB := bst HB hb; clear hb) | ((with_reducible refine gate_callee (f := 19) rfl ?_); refine gl 35 Try.func19 (torchonlaw06_pt.calls 1 (-1) t601 t602 _ A10.out) ?_; rintro e w35 ⟨rfl, hb⟩; refine ⟨_, rfl, ?_⟩; replace BK582 := bb BK582 hb; replace HB := bst HB hb; clear hb) | ((with_reducible refine gate_callee (f := 19) rfl ?_); refine gl 36 Try.func19 (torchonlaw06_pt.calls 0 1 t603 t604 _ A11.out) ?_; rintro e w36 ⟨rfl, hb⟩; refine ⟨_, rfl, ?_⟩; replace BK582 := bb BK582 hb; replace HB := bst HB hb; clear hb) | ((with_reducible refine gate_callee (f := 18) rfl ?_); refine gl 37 Try.func18 (grids_Turn.calls k t597 t598 t599 t600 t601 t602 t603 t604 t605 t606 _ A12.out) ?_; rintro e w37 ⟨rfl, hb⟩; refine ⟨_, rfl, ?_⟩; replace BK582 := bb BK582 hb; replace HB := bst HB hb; clear hb; have ⟨hcz38_0, hcz38_1, hcz38_2, hfz38_0, hfz38_1, hfz38_2⟩ := cf3 BK582) | ((with_reducible refine gate_callee (f := 22) rfl ?_); refine goesL_ (some 42) rfl rfl Try.func22 (by kernel_rfl) rfl #[.agg #[.int .i64 2, .int .i64 1, .int .i64 2]] rfl am ?_; (with_reducible refine (grids_Group.calls k 2 1 2 t607 t610 _ A13.out).mono ?_); rintro e w39 ⟨v608, rfl, ho0, hb⟩; refine ⟨_, rfl, ?_⟩; have HO609 := Aside0.mk (Kd.R_lower ho0 (below_size (bnow HB))); replace BK582 := bb BK582 hb; replace HB := bst HB hb; (try clear hb); (try clear hb2); (try clear hk); (try clear hi); (try clear ho0)) | ((with_reducible refine gate_callee (f := 17) rfl ?_); refine gl 46 Try.func17 (torchonlaw06_mat.calls 0 (-1) 1 0 t611 t612 t613 t614 _ A14.out) ?_; rintro e w40 ⟨rfl, hb⟩; refine ⟨_, rfl, ?_⟩; replace HO609 := Aside0.mk (Kd.R_below (by (with_reducible repeat (first | apply Kd.R_alloc | apply Kd.R_drewN | apply Kd.R_drew)); exact HO609.out) hb); replace BK582 := bb BK582 hb; replace HB := bst HB hb; (try clear hb); (try clear hb2); (try clear hk); (try clear hi)) | ((with_reducible refine gate_callee (f := 19) rfl ?_); refine gl 47 Try.func19 (torchonlaw06_pt.calls 3 4 t615 t616 _ A15.out) ?_; rintro e w41 ⟨rfl, hb⟩; refine ⟨_, rfl, ?_⟩; replace HO609 := Aside0.mk (Kd.R_below (by (with_reducible repeat (first | apply Kd.R_alloc | apply Kd.R_drewN | apply Kd.R_drew)); exact HO609.out) hb); replace BK582 := bb BK582 hb; replace HB := bst HB hb; (try clear hb); (try clear hb2); (try clear hk); (try clear hi)) | ((with_reducible refine gate_callee (f := 19) rfl ?_); refine gl 49 Try.func19 (torchonlaw06_pt.calls 1 2 t617 t618 _ A16.out) ?_; rintro e w42 ⟨rfl, hb⟩; refine ⟨_, rfl, ?_⟩; replace HO609 := Aside0.mk (Kd.R_below (by (with_reducible repeat (first | apply Kd.R_alloc | apply Kd.R_drewN | apply Kd.R_drew)); exact HO609.out) hb); replace BK582 := bb BK582 hb; replace HB := bst HB hb; (try clear hb); (try clear hb2); (try clear hk); (try clear hi)) | ((with_reducible refine gate_callee (f := 27) rfl ?_); refine gl 50 Try.func27 (grids_Apply.calls k t611 t612 t613 t614 t615 t616 t617 t618 t619 t620 t621 _ A17.out) ?_; rintro e w43 ⟨rfl, hb⟩; refine ⟨_, rfl, ?_⟩; replace HO609 := Aside0.mk (Kd.R_below (by (with_reducible repeat (first | apply Kd.R_alloc | apply Kd.R_drewN | apply Kd.R_drew)); exact HO609.out) hb); replace BK582 := bb BK582 hb; replace HB := bst HB hb; (try clear hb); (try clear hb2); (try clear hk); (try clear hi)) | ((with_reducible refine gate_dst (N := 10) rfl ?_); (try (refine gate_guard (by rfl) ?_; dsimp only)); refine box_event ?hg (N := 10) ?hd (cs := #[.int .i64 0, .int .i64 0]) (t := 37) ?hr ?_; (case hd => rfl); (case hg => rfl); (case hr => first | (go_simp; done) | (go_simp; rfl)); intro gb622 hg w44 hbox hb; have BK622 := Aside0.mk (hbox); have GW622 := gw hg HB; have GE622 := gw hg HB; have NB582_622 := nlt hg BK582; have NB622_582 := ngt hg BK582; replace HO609 := Aside0.mk (Kd.R_below (by (with_reducible repeat (first | apply Kd.R_alloc | apply Kd.R_drewN | apply Kd.R_drew)); exact HO609.out) hb); replace BK582 := bb BK582 hb; replace HB := bst HB hb; clear hb hg; have hnb45 := NB622_582.out; have hnc45 := NB582_622.out; have ⟨hcz46_0, hcz46_1, hfz46_0, hfz46_1⟩ := cf2 BK622) | ((with_reducible refine gate_callee (f := 17) rfl ?_); refine gl 54 Try.func17 (torchonlaw06_mat.calls 1 (-1) 1 0 t623 t624 t625 t626 _ A18.out) ?_; rintro e w47 ⟨rfl, hb⟩; refine ⟨_, rfl, ?_⟩; have n0_ := Aside0.mk (Kd.R_below (by (with_reducible repeat (first | apply Kd.R_alloc | apply Kd.R_drewN | apply Kd.R_drew)); exact (Kd.R_mono (Kd.R_far (p := ⟨gb622, 1, none⟩) (Kd.R_far (p := ⟨gb622, 0, none⟩) (Kd.R_types HO609.out BK622.out (by decide)) (fun _ hk => hk.2) (.int .i64 t619)) (fun _ hk => hk.2) (.int .i64 t620)) (fun _ h_ => h_.1))) hb); have n1_ := Aside0.mk (blk_below (g := gb582) (o := .cells #[.int .i64 2, .int .i64 1, .int .i64 2] 23 (0, 0)) (by (with_reducible repeat (first | refine blk_drewN ?_ _ | refine blk_drew ?_ | refine blk_alloc ?_ _)); refine blk_far ?_ NB582_622.out _; (with_reducible repeat (first | refine blk_drewN ?_ _ | refine blk_drew ?_ | refine blk_alloc ?_ _)); refine blk_far ?_ NB582_622.out _; (with_reducible repeat (first | refine blk_drewN ?_ _ | refine blk_drew ?_ | refine blk_alloc ?_ _)); exact BK582.out) hb); have n2_ := Aside0.mk (blk_below (g := gb622) (o := .cells #[.int .i64 t619, .int .i64 t620] 37 (0, 0)) (by (with_reducible repeat (first | refine blk_drewN ?_ _ | refine blk_drew ?_ | refine blk_alloc ?_ _)); refine blk_put (cs := #[.int .i64 t619, .int .i64 0]) ?_ 1 _ rfl; (with_reducible repeat (first | refine blk_drewN ?_ _ | refine blk_drew ?_ | refine blk_alloc ?_ _)); refine blk_put (cs := #[.int .i64 0, .int .i64 0]) ?_ 0 _ rfl; (with_reducible repeat (first | refine blk_drewN ?_ _ | refine blk_drew ?_ | refine blk_alloc ?_ _)); exact BK622.out) hb); have n3_ := bst HB hb; clear HO609; clear BK582; clear BK622; clear HB; have HO609 := n0_; have BK582 := n1_; have BK622 := n2_; have HB := n3_; clear n0_ n1_ n2_ n3_; (try clear hb); (try clear hb2); (try clear hk); (try clear hi)) | ((with_reducible refine gate_callee (f := 33) rfl ?_); refine gl 55 Try.func33 (grids_Order.calls k t623 t624 t625 t626 t627 t628 _ A19.out) ?_; rintro e w48 ⟨rfl, hb⟩; refine ⟨_, rfl, ?_⟩; replace HO609 := Aside0.mk (Kd.R_below (by (with_reducible repeat (first | apply Kd.R_alloc | apply Kd.R_drewN | apply Kd.R_drew)); exact HO609.out) hb); replace BK582 := bb BK582 hb; replace BK622 := bb BK622 hb; replace HB := bst HB hb; (try clear hb); (try clear hb2); (try clear hk); (try clear hi)) | ((with_reducible refine gate_callee (f := 11) rfl ?_); refine gl 60 Try.func11 (grids_Reduce.calls k 5 7 10 t629 t630 t631 t632 t633 t634 t635 t636 _ A20.out) ?_; rintro e w49 ⟨rfl, hb⟩; refine ⟨_, rfl, ?_⟩; replace HO609 := Aside0.mk (Kd.R_below (by (with_reducible repeat (first | apply Kd.R_alloc | apply Kd.R_drewN | apply Kd.R_drew)); exact HO609.out) hb); replace BK582 := bb BK582 hb; replace BK622 := bb BK622 hb; replace HB := bst HB hb; (try clear hb); (try clear hb2); (try clear hk); (try clear hi)) | ((with_reducible refine gate_dst (N := 14) rfl ?_); (try (refine gate_guard (by rfl) ?_; dsimp only)); refine box_event ?hg (N := 14) ?hd (cs := #[.int .i64 0, .int .i64 0, .int .i64 0]) (t := 23) ?hr ?_; (case hd => rfl); (case hg => rfl); (case hr => first | (go_simp; done) | (go_simp; rfl)); intro gb637 hg w50 hbox hb; have BK637 := Aside0.mk (hbox); have GW637 := gw hg HB; have GE637 := gw hg HB; have NB582_637 := nlt hg BK582; have NB637_582 := ngt hg BK582; have NB622_637 := nlt hg BK622; have NB637_622 := ngt hg BK622; replace HO609 := Aside0.mk (Kd.R_below (by (with_reducible repeat (first | apply Kd.R_alloc | apply Kd.R_drewN | apply Kd.R_drew)); exact HO609.out) hb); replace BK582 := bb BK582 hb; replace BK622 := bb BK622 hb; replace HB := bst HB hb; clear hb hg) | ((with_reducible refine gate_dst (N := 15) rfl ?_); (try (refine gate_guard (by rfl) ?_; dsimp only)); refine box_event ?hg (N := 15) ?hd (cs := #[.int .i64 0, .int .i64 0, .int .i64 0, .int .i64 0]) (t := 25) ?hr ?_; (case hd => rfl); (case hg => rfl); (case hr => first | (go_simp; done) | (go_simp; rfl)); intro gb638 hg w51 hbox hb; have BK638 := Aside0.mk (hbox); have GW638 := gw hg HB; have GE638 := gw hg HB; have NB582_638 := nlt hg BK582; have NB638_582 := ngt hg BK582; have NB622_638 := nlt hg BK622; have NB638_622 := ngt hg BK622; have NB637_638 := nlt hg BK637; have NB638_637 := ngt hg BK637; replace HO609 := Aside0.mk (Kd.R_below (Kd.R_elderB (by (with_reducible repeat (first | apply Kd.R_alloc | apply Kd.R_drewN | apply Kd.R_drew)); exact HO609.out) gb638 (Nat.le_of_eq hg.symm)) hb); replace BK582 := bb BK582 hb; replace BK622 := bb BK622 hb; replace BK637 := bb BK637 hb; replace HB := bst HB hb; clear hb hg; have hnb52 := NB637_582.out; have hnc52 := NB582_637.out; have hnb53 := NB637_622.out; have hnc53 := NB622_637.out; have hnb54 := NB637_638.out; have hnc54 := NB638_637.out; have ⟨hcz55_0, hcz55_1, hcz55_2, hfz55_0, hfz55_1, hfz55_2⟩ := cf3 BK637) | ((with_reducible refine gate_store (t := 23) (p := 14) rfl ?_); refine sx 23 14 ((((w51.setCell ⟨gb637, 0, none⟩ (.int .i64 t629)).setCell ⟨gb637, 1, none⟩ (.int .i64 t630)).setCell ⟨gb637, 2, none⟩ (.int .i64 t631))) fun w56 hw => ?_; have n0_ : Aside0 (Kd.R k25 25 w56 w.heap.size (fun k_ => k_ ≠ gb638) v608 t607) := ⟨(by rw [hw]; exact (by (with_reducible repeat (first | apply Kd.R_alloc | apply Kd.R_drewN | apply Kd.R_drew)); exact Kd.R_mono (Kd.R_far (p := ⟨gb637, 2, none⟩) (Kd.R_far (p := ⟨gb637, 1, none⟩) (Kd.R_far (p := ⟨gb637, 0, none⟩) (Kd.R_types HO609.out BK637.out (by decide)) (fun _ hk => hk.2) (.int .i64 t629)) (fun _ hk => hk.2) (.int .i64 t630)) (fun _ hk => hk.2) (.int .i64 t631)) (fun _ hk => hk.1.2)))⟩; have n1_ := fw hw BK582; have n2_ := fw hw BK622; have n3_ := pw3 hw BK637; have n4_ := fw hw BK638; have n5_ := bw hw HB; clear hw; clear HO609; clear BK582; clear BK622; clear BK637; clear BK638; clear HB; have HO609 := n0_; have BK582 := n1_; have BK622 := n2_; have BK637 := n3_; have BK638 := n4_; have HB := n5_; clear n0_ n1_ n2_ n3_ n4_ n5_; have hnb57 := NB638_582.out; have hnc57 := NB582_638.out; have hnb58 := NB638_622.out; have hnc58 := NB622_638.out; have ⟨hcz59_0, hcz59_1, hcz59_2, hcz59_3, hfz59_0, hfz59_1, hfz59_2, hfz59_3⟩ := cf4 BK638) | ((with_reducible refine gate_store (t := 25) (p := 15) rfl ?_); refine sx 25 15 (((((w56.setCell ⟨gb638, 0, none⟩ (.int .i64 t632)).setCell ⟨gb638, 1, none⟩ (.int .i64 t633)).setCell ⟨gb638, 2, none⟩ (.int .i64 t634)).setCell ⟨gb638, 3, none⟩ (.int .i64 t635))) fun w60 hw => ?_; have n0_ : Aside0 (Kd.R k25 25 w60 w.heap.size (fun k_ => k_ ≠ gb638) v608 t607) := ⟨(by rw [hw]; exact (by (with_reducible repeat (first | apply Kd.R_alloc | apply Kd.R_drewN | apply Kd.R_drew)); exact Kd.R_mono (Kd.R_far (p := ⟨gb638, 3, none⟩) (Kd.R_far (p := ⟨gb638, 2, none⟩) (Kd.R_far (p := ⟨gb638, 1, none⟩) (Kd.R_far (p := ⟨gb638, 0, none⟩) (Kd.R_mono HO609.out (fun k_ hk => (⟨hk, hk⟩ : _ ∧ k_ ≠ gb638))) (fun _ hk => hk.2) (.int .i64 t632)) (fun _ hk => hk.2) (.int .i64 t633)) (fun _ hk => hk.2) (.int .i64 t634)) (fun _ hk => hk.2) (.int .i64 t635)) (fun _ hk => hk.1)))⟩; have n1_ := fw hw BK582; have n2_ := fw hw BK622; have n3_ := fw hw BK637; have n4_ := pw4 hw BK638; have n5_ := bw hw HB; clear hw; clear HO609; clear BK582; clear BK622; clear BK637; clear BK638; clear HB; have HO609 := n0_; have BK582 := n1_; have BK622 := n2_; have BK637 := n3_; have BK638 := n4_; have HB := n5_; clear n0_ n1_ n2_ n3_ n4_ n5_))
  (try simp only [Act.put, List.setIfInBounds_toArray, List.set_cons_zero, List.set_cons_succ])
  go_cut [89] (fun v89 wc => ∃ (kq : Nat) (x89_20 : Bool), v89 = .bool x89_20 ∧ Aside0 (torchonlaw06_awake.j0 kq t587 t595 t605 t607 t627 x89_20 t619 t620 t629 t630 t631 t632 t633 t634 t635 = some r) ∧ Aside0 (kq ≤ k) ∧ Aside0 (Kd.R k25 25 wc w.heap.size (fun k_ => k_ ≠ gb638) v608 t607) ∧ Aside0 (wc.heap[gb582]? = some (.cells #[.int .i64 2, .int .i64 1, .int .i64 2] 23 (0, 0))) ∧ Aside0 (wc.heap[gb622]? = some (.cells #[.int .i64 t619, .int .i64 t620] 37 (0, 0))) ∧ Aside0 (wc.heap[gb637]? = some (.cells #[.int .i64 t629, .int .i64 t630, .int .i64 t631] 23 (0, 0))) ∧ Aside0 (wc.heap[gb638]? = some (.cells #[.int .i64 t632, .int .i64 t633, .int .i64 t634, .int .i64 t635] 25 (0, 0))) ∧ Aside0 (Below w.heap.size w wc))
  case first =>
    have H := HC21.out
    clear HC21
    by_cases c61 : t588 = 0
    · rw [if_pos c61] at H
      have c61b0 : (t588 == 0) = true := beq_iff_eq.mpr c61
      have c61b1 : (t588 != 0) = false := bne_eq_false_iff_eq.mpr c61
      clear c61
      (first | rw [c61b0] | (simp only [i64_w, i32_w]; rw [c61b0]) | skip)
      by_cases c62 : t596 = 0
      · rw [if_pos c62] at H
        have c62b0 : (t596 == 0) = true := beq_iff_eq.mpr c62
        have c62b1 : (t596 != 0) = false := bne_eq_false_iff_eq.mpr c62
        clear c62
        by_cases c63 : t606 = 0
        · rw [if_pos c63] at H
          have c63b0 : (t606 == 0) = true := beq_iff_eq.mpr c63
          have c63b1 : (t606 != 0) = false := bne_eq_false_iff_eq.mpr c63
          clear c63
          by_cases c64 : t610 = 0
          · rw [if_pos c64] at H
            have c64b0 : (t610 == 0) = true := beq_iff_eq.mpr c64
            have c64b1 : (t610 != 0) = false := bne_eq_false_iff_eq.mpr c64
            clear c64
            by_cases c65 : t621 = 0
            · rw [if_pos c65] at H
              have c65b0 : (t621 == 0) = true := beq_iff_eq.mpr c65
              have c65b1 : (t621 != 0) = false := bne_eq_false_iff_eq.mpr c65
              clear c65
              by_cases c66 : t628 = 0
              · rw [if_pos c66] at H
                have c66b0 : (t628 == 0) = true := beq_iff_eq.mpr c66
                have c66b1 : (t628 != 0) = false := bne_eq_false_iff_eq.mpr c66
                clear c66
                have H' := Aside0.mk H
                clear H
                go_wp2
                go_meet
                case rel => exact ⟨_, ((t636 != 0)), (by first | rfl | (simp; done) | (simp [*]; done)), H', ⟨by first | omega | exact Nat.le_refl _⟩, ⟨by (with_reducible repeat (first | apply Kd.R_alloc | apply Kd.R_drewN | apply Kd.R_drew)); exact HO609.out⟩, ⟨pk BK582⟩, ⟨pk BK622⟩, ⟨pk BK637⟩, ⟨pk BK638⟩, ⟨bnow HB⟩⟩
              · rw [if_neg c66] at H
                have c66b0 : (t628 == 0) = false := beq_eq_false_iff_ne.mpr c66
                have c66b1 : (t628 != 0) = true := bne_iff_ne.mpr c66
                have H' := Aside0.mk H
                clear H
                go_wp2
                go_meet
                case rel => exact ⟨_, (true), (by first | rfl | (simp; done) | (simp [*]; done)), H', ⟨by first | omega | exact Nat.le_refl _⟩, ⟨by (with_reducible repeat (first | apply Kd.R_alloc | apply Kd.R_drewN | apply Kd.R_drew)); exact HO609.out⟩, ⟨pk BK582⟩, ⟨pk BK622⟩, ⟨pk BK637⟩, ⟨pk BK638⟩, ⟨bnow HB⟩⟩
            · rw [if_neg c65] at H
              have c65b0 : (t621 == 0) = false := beq_eq_false_iff_ne.mpr c65
              have c65b1 : (t621 != 0) = true := bne_iff_ne.mpr c65
              have H' := Aside0.mk H
              clear H
              go_wp2
              go_meet
              case rel => exact ⟨_, (true), (by first | rfl | (simp; done) | (simp [*]; done)), H', ⟨by first | omega | exact Nat.le_refl _⟩, ⟨by (with_reducible repeat (first | apply Kd.R_alloc | apply Kd.R_drewN | apply Kd.R_drew)); exact HO609.out⟩, ⟨pk BK582⟩, ⟨pk BK622⟩, ⟨pk BK637⟩, ⟨pk BK638⟩, ⟨bnow HB⟩⟩
          · rw [if_neg c64] at H
            have c64b0 : (t610 == 0) = false := beq_eq_false_iff_ne.mpr c64
            have c64b1 : (t610 != 0) = true := bne_iff_ne.mpr c64
            have H' := Aside0.mk H
            clear H
            go_wp2
            go_meet
            case rel => exact ⟨_, (true), (by first | rfl | (simp; done) | (simp [*]; done)), H', ⟨by first | omega | exact Nat.le_refl _⟩, ⟨by (with_reducible repeat (first | apply Kd.R_alloc | apply Kd.R_drewN | apply Kd.R_drew)); exact HO609.out⟩, ⟨pk BK582⟩, ⟨pk BK622⟩, ⟨pk BK637⟩, ⟨pk BK638⟩, ⟨bnow HB⟩⟩
        · rw [if_neg c63] at H
          have c63b0 : (t606 == 0) = false := beq_eq_false_iff_ne.mpr c63
          have c63b1 : (t606 != 0) = true := bne_iff_ne.mpr c63
          have H' := Aside0.mk H
          clear H
          go_wp2
          go_meet
          case rel => exact ⟨_, (true), (by first | rfl | (simp; done) | (simp [*]; done)), H', ⟨by first | omega | exact Nat.le_refl _⟩, ⟨by (with_reducible repeat (first | apply Kd.R_alloc | apply Kd.R_drewN | apply Kd.R_drew)); exact HO609.out⟩, ⟨pk BK582⟩, ⟨pk BK622⟩, ⟨pk BK637⟩, ⟨pk BK638⟩, ⟨bnow HB⟩⟩
      · rw [if_neg c62] at H
        have c62b0 : (t596 == 0) = false := beq_eq_false_iff_ne.mpr c62
        have c62b1 : (t596 != 0) = true := bne_iff_ne.mpr c62
        have H' := Aside0.mk H
        clear H
        go_wp2
        go_meet
        case rel => exact ⟨_, (true), (by first | rfl | (simp; done) | (simp [*]; done)), H', ⟨by first | omega | exact Nat.le_refl _⟩, ⟨by (with_reducible repeat (first | apply Kd.R_alloc | apply Kd.R_drewN | apply Kd.R_drew)); exact HO609.out⟩, ⟨pk BK582⟩, ⟨pk BK622⟩, ⟨pk BK637⟩, ⟨pk BK638⟩, ⟨bnow HB⟩⟩
    · rw [if_neg c61] at H
      have c61b0 : (t588 == 0) = false := beq_eq_false_iff_ne.mpr c61
      have c61b1 : (t588 != 0) = true := bne_iff_ne.mpr c61
      (first | rw [c61b0] | (simp only [i64_w, i32_w]; rw [c61b0]) | skip)
      have H' := Aside0.mk H
      clear H
      go_wp2
      go_meet
      case rel => exact ⟨_, (true), (by first | rfl | (simp; done) | (simp [*]; done)), H', ⟨by first | omega | exact Nat.le_refl _⟩, ⟨by (with_reducible repeat (first | apply Kd.R_alloc | apply Kd.R_drewN | apply Kd.R_drew)); exact HO609.out⟩, ⟨pk BK582⟩, ⟨pk BK622⟩, ⟨pk BK637⟩, ⟨pk BK638⟩, ⟨bnow HB⟩⟩
  case rest =>
    clear HC21
    try clear c1; try clear c2; try clear p2; try clear c3; try clear c4; try clear c5; try clear c6; try clear c11; try clear c13; try clear c17; try clear c18; try clear c19; try clear c20; try clear c21; try clear c22; try clear c27; try clear c33; try clear c45; try clear c52; try clear c53; try clear c54; try clear c57; try clear c58; try clear c61; try clear c61b0; try clear c61b1; try clear c62; try clear c62b0; try clear c62b1; try clear c63; try clear c63b0; try clear c63b1; try clear c64; try clear c64b0; try clear c64b1; try clear c65; try clear c65b0; try clear c65b1; try clear c66; try clear c66b0; try clear c66b1; try clear hcz23_0; try clear hcz23_1; try clear hcz23_2; try clear hcz38_0; try clear hcz38_1; try clear hcz38_2; try clear hcz46_0; try clear hcz46_1; try clear hcz55_0; try clear hcz55_1; try clear hcz55_2; try clear hcz59_0; try clear hcz59_1; try clear hcz59_2; try clear hcz59_3; try clear hfz23_0; try clear hfz23_1; try clear hfz23_2; try clear hfz38_0; try clear hfz38_1; try clear hfz38_2; try clear hfz46_0; try clear hfz46_1; try clear hfz55_0; try clear hfz55_1; try clear hfz55_2; try clear hfz59_0; try clear hfz59_1; try clear hfz59_2; try clear hfz59_3
    obtain ⟨kq, x89_20, rfl, HA, HJ20, HO_8, BK582, BK622, BK637, BK638, HB⟩ := hcut
    cases kq with
    | zero => exact absurd HA.out (by simp [torchonlaw06_awake.j0])
    | succ kj20 =>
      have H := HA.out
      clear HA
      simp only [torchonlaw06_awake.j0] at H
      by_cases c67 : x89_20 = true
      · subst c67
        have H1 : (none) = some r := by rw [if_pos rfl] at H; exact H
        clear H
        have H := H1
        clear H1
        exact absurd H (by simp)
      · replace c67 := Bool.eq_false_iff.mpr c67
        subst c67
        have H1 : (if t587 = 6 then (if t595 = 1 then (if t605 = 1 then (if (t607.length : Int) = 12 then ((torchonlaw06_pt.f 1 5).bind fun bt639 => (if (t619 == bt639.1 && (t620 == bt639.2)) = true then (if t627 = 6 then (if (t629 == 1 && (t630 == 0 && (t631 == 1))) = true then ((torchonlaw06_mat.f (-3) (-1) 2 1).bind fun bt641 => (some (t632 == bt641.1 && (t633 == bt641.2.1 && (t634 == bt641.2.2.1 && (t635 == bt641.2.2.2)))))) else (none)) else (none)) else (none))) else (none)) else (none)) else (none)) else (none)) = some r := by rw [if_neg (show ¬ (false = true) by decide)] at H; exact H
        clear H
        have H := H1
        clear H1
        by_cases c68 : t587 = 6
        · rw [if_pos c68] at H
          have c68b0 : (t587 == 6) = true := beq_iff_eq.mpr c68
          have c68b1 : (t587 != 6) = false := bne_eq_false_iff_eq.mpr c68
          clear c68
          by_cases c69 : t595 = 1
          · rw [if_pos c69] at H
            have c69b0 : (t595 == 1) = true := beq_iff_eq.mpr c69
            have c69b1 : (t595 != 1) = false := bne_eq_false_iff_eq.mpr c69
            clear c69
            by_cases c70 : t605 = 1
            · rw [if_pos c70] at H
              have c70b0 : (t605 == 1) = true := beq_iff_eq.mpr c70
              have c70b1 : (t605 != 1) = false := bne_eq_false_iff_eq.mpr c70
              clear c70
              by_cases c71 : (t607.length : Int) = 12
              · rw [if_pos c71] at H
                have c71b0 : ((t607.length : Int) == 12) = true := beq_iff_eq.mpr c71
                have c71b1 : ((t607.length : Int) != 12) = false := bne_eq_false_iff_eq.mpr c71
                clear c71
                replace H := Option.bind_eq_some_iff.mp H
                obtain ⟨⟨t639, t640⟩, A720, H⟩ := H
                replace H : (if (t619 == t639 && (t620 == t640)) = true then (if t627 = 6 then (if (t629 == 1 && (t630 == 0 && (t631 == 1))) = true then ((torchonlaw06_mat.f (-3) (-1) 2 1).bind fun bt641 => (some (t632 == bt641.1 && (t633 == bt641.2.1 && (t634 == bt641.2.2.1 && (t635 == bt641.2.2.2)))))) else (none)) else (none)) else (none)) = some r := H
                have A72 := Aside0.mk A720
                clear A720
                by_cases c73 : (t619 == t639 && (t620 == t640)) = true
                · rw [if_pos c73] at H
                  have c73b0 : (t619 == t639 && (t620 == t640)) = true := c73
                  (try (have c73b1 : decide (t619 = t639 && (t620 == t640)) = true := by simpa using c73))
                  (try (have c73b2 : (t619 == t639 && (t620 == t640)) = true := by simpa using c73))
                  clear c73
                  by_cases c74 : t627 = 6
                  · rw [if_pos c74] at H
                    have c74b0 : (t627 == 6) = true := beq_iff_eq.mpr c74
                    have c74b1 : (t627 != 6) = false := bne_eq_false_iff_eq.mpr c74
                    clear c74
                    by_cases c75 : (t629 == 1 && (t630 == 0 && (t631 == 1))) = true
                    · rw [if_pos c75] at H
                      have c75b0 : (t629 == 1 && (t630 == 0 && (t631 == 1))) = true := c75
                      (try (have c75b1 : decide (t629 = 1 && (t630 == 0 && (t631 == 1))) = true := by simpa using c75))
                      (try (have c75b2 : (t629 == 1 && (t630 == 0 && (t631 == 1))) = true := by simpa using c75))
                      clear c75
                      replace H := Option.bind_eq_some_iff.mp H
                      obtain ⟨⟨t641, t642, t643, t644⟩, A760, H⟩ := H
                      replace H : (some (t632 == t641 && (t633 == t642 && (t634 == t643 && (t635 == t644))))) = some r := H
                      have A76 := Aside0.mk A760
                      clear A760
                      obtain rfl := Option.some.inj H
                      try go_wp2
                      replace HO_8 := Aside0.mk (Kd.R_drew HO_8.out)
                      replace BK582 := bd BK582
                      replace BK622 := bd BK622
                      replace BK637 := bd BK637
                      replace BK638 := bd BK638
                      replace HB := bdn HB
                      obtain ⟨Ao78, co78, eo78⟩ := Kd.R_slice HO_8.out
                      (first | subst eo78 | (injection eo78 with f1_ f2_ f3_; have f4_ := f1_.symm; have f5_ := f3_.symm; clear f1_ f2_ f3_; subst f4_; subst f5_))
                      refine start_ (n := 35) (S := fun w' => w'.cell? ⟨gb622, 0, none⟩ = some (.int .i64 t619) ∧ w'.cell? ⟨gb622, 1, none⟩ = some (.int .i64 t620) ∧ w'.cell? ⟨gb637, 0, none⟩ = some (.int .i64 t629) ∧ w'.cell? ⟨gb637, 1, none⟩ = some (.int .i64 t630) ∧ w'.cell? ⟨gb637, 2, none⟩ = some (.int .i64 t631) ∧ w'.cell? ⟨gb638, 0, none⟩ = some (.int .i64 t632) ∧ w'.cell? ⟨gb638, 1, none⟩ = some (.int .i64 t633) ∧ w'.cell? ⟨gb638, 2, none⟩ = some (.int .i64 t634) ∧ w'.cell? ⟨gb638, 3, none⟩ = some (.int .i64 t635)) (ds := []) #[false, false, false, false, false, false, false, false, false, false, false, false, false, false, false, false, false, false, false, false, false, false, false, false, false, false, false, false, false, false, false, false, false, false, false] (by kernel_rfl) rfl rfl ⟨(blk_cell BK622.out 0).trans rfl, (blk_cell BK622.out 1).trans rfl, (blk_cell BK637.out 0).trans rfl, (blk_cell BK637.out 1).trans rfl, (blk_cell BK637.out 2).trans rfl, (blk_cell BK638.out 0).trans rfl, (blk_cell BK638.out 1).trans rfl, (blk_cell BK638.out 2).trans rfl, (blk_cell BK638.out 3).trans rfl⟩ (fun hHeld => ?_); refine with_tabW torchonlaw06_awake.tab11 torchonlaw06_awake.bits11 (fun HT_ HW_ => ?_)
                      generalize wc.drew = w77 at HO_8 BK582 BK622 BK637 BK638 HB hHeld ⊢
                      refine pz 0 90 HT_ ?_
                      refine pz 1 91 HT_ ?_
                      refine pz 2 92 HT_ ?_
                      refine pz 3 93 HT_ ?_
                      refine pz 4 94 HT_ ?_
                      refine pz 5 95 HT_ ?_
                      refine pz 6 96 HT_ ?_
                      refine pz 7 97 HT_ ?_
                      refine pz 8 98 HT_ ?_
                      refine pz 9 99 HT_ ?_
                      refine pz 10 100 HT_ ?_
                      refine pz 11 101 HT_ ?_
                      refine pz 12 102 HT_ ?_
                      refine pz 13 103 HT_ ?_
                      refine pz 14 104 HT_ ?_
                      refine pz 15 105 HT_ ?_
                      refine tz 16 106 HT_ HW_ hHeld ?_
                      refine one_ (i := 17) (N := some 107) #[true, true, true, true, true, true, true, true, true, true, true, true, true, true, true, true, true, true, false, false, false, false, false, false, false, false, false, false, false, false, false, false, false, false, false] rfl rfl (one_of HT_.out (by kernel_rfl)) (by decide) (fun K hK => ?_)
                      refine gs _ Try.func19 (torchonlaw06_pt.calls 1 5 t639 t640 _ A72.out) ?_
                      rintro e w79 ⟨rfl, hb⟩
                      refine ⟨_, rfl, ?_⟩
                      have n0_ := Aside0.mk (Kd.R_below (by (with_reducible repeat (first | apply Kd.R_alloc | apply Kd.R_drewN | apply Kd.R_drew)); exact HO_8.out) hb)
                      have n1_ := bb BK582 hb
                      have n2_ := bb BK622 hb
                      have n3_ := bb BK637 hb
                      have n4_ := bb BK638 hb
                      have n5_ := bst HB hb
                      clear HO_8
                      clear BK582
                      clear BK622
                      clear BK637
                      clear BK638
                      clear HB
                      have HO_8 := n0_
                      have BK582 := n1_
                      have BK622 := n2_
                      have BK637 := n3_
                      have BK638 := n4_
                      have HB := n5_
                      clear n0_ n1_ n2_ n3_ n4_ n5_
                      (try clear hb)
                      (try clear hb2)
                      (try clear hk)
                      (try clear hi)
                      refine hK.out _ _ ⟨(blk_cell BK622.out 0).trans rfl, (blk_cell BK622.out 1).trans rfl, (blk_cell BK637.out 0).trans rfl, (blk_cell BK637.out 1).trans rfl, (blk_cell BK637.out 2).trans rfl, (blk_cell BK638.out 0).trans rfl, (blk_cell BK638.out 1).trans rfl, (blk_cell BK638.out 2).trans rfl, (blk_cell BK638.out 3).trans rfl⟩ (fun hHeld => ?_)
                      clear hK K
                      refine norm_ (a' := ?_) ?_ ?_
                      rotate_left
                      · show Act.put _ (some 107) _ = _
                        simp only [Act.put, List.setIfInBounds_toArray, List.set_cons_zero, List.set_cons_succ, i64_w, i32_w]
                        rfl
                      refine pz 18 108 HT_ ?_
                      refine pz 19 109 HT_ ?_
                      refine pz 20 110 HT_ ?_
                      refine pz 21 111 HT_ ?_
                      refine pz 22 112 HT_ ?_
                      refine pz 23 113 HT_ ?_
                      refine pz 24 114 HT_ ?_
                      refine pz 26 116 HT_ ?_
                      refine tz 25 115 HT_ HW_ hHeld ?_
                      refine pz 27 117 HT_ ?_
                      refine pz 28 118 HT_ ?_
                      refine pz 29 119 HT_ ?_
                      refine tz 30 120 HT_ HW_ hHeld ?_
                      refine one_ (i := 31) (N := some 121) #[true, true, true, true, true, true, true, true, true, true, true, true, true, true, true, true, true, true, true, true, true, true, true, true, true, true, true, true, true, true, true, true, false, false, false] rfl rfl (one_of HT_.out (by kernel_rfl)) (by decide) (fun K hK => ?_)
                      refine gs _ Try.func17 (torchonlaw06_mat.calls (-3) (-1) 2 1 t641 t642 t643 t644 _ A76.out) ?_
                      rintro e w80 ⟨rfl, hb⟩
                      refine ⟨_, rfl, ?_⟩
                      have n0_ := Aside0.mk (Kd.R_below (by (with_reducible repeat (first | apply Kd.R_alloc | apply Kd.R_drewN | apply Kd.R_drew)); exact HO_8.out) hb)
                      have n1_ := bb BK582 hb
                      have n2_ := bb BK622 hb
                      have n3_ := bb BK637 hb
                      have n4_ := bb BK638 hb
                      have n5_ := bst HB hb
                      clear HO_8
                      clear BK582
                      clear BK622
                      clear BK637
                      clear BK638
                      clear HB
                      have HO_8 := n0_
                      have BK582 := n1_
                      have BK622 := n2_
                      have BK637 := n3_
                      have BK638 := n4_
                      have HB := n5_
                      clear n0_ n1_ n2_ n3_ n4_ n5_
                      (try clear hb)
                      (try clear hb2)
                      (try clear hk)
                      (try clear hi)
                      refine hK.out _ _ ⟨(blk_cell BK622.out 0).trans rfl, (blk_cell BK622.out 1).trans rfl, (blk_cell BK637.out 0).trans rfl, (blk_cell BK637.out 1).trans rfl, (blk_cell BK637.out 2).trans rfl, (blk_cell BK638.out 0).trans rfl, (blk_cell BK638.out 1).trans rfl, (blk_cell BK638.out 2).trans rfl, (blk_cell BK638.out 3).trans rfl⟩ (fun hHeld => ?_)
                      clear hK K
                      refine norm_ (a' := ?_) ?_ ?_
                      rotate_left
                      · show Act.put _ (some 121) _ = _
                        simp only [Act.put, List.setIfInBounds_toArray, List.set_cons_zero, List.set_cons_succ, i64_w, i32_w]
                        rfl
                      refine pz 32 122 HT_ ?_
                      refine pz 33 123 HT_ ?_
                      refine pz 34 0 HT_ ?_
                      refine done_ (done_of HT_.out (by kernel_rfl)) ?_
                      try go_wp2
                      go_ret
                      exact rt HB
                    · rw [if_neg c75] at H
                      have c75b0 : (t629 == 1 && (t630 == 0 && (t631 == 1))) = false := by simpa using c75
                      (try (have c75b1 : decide (t629 = 1 && (t630 == 0 && (t631 == 1))) = false := by simpa using c75))
                      (try (have c75b2 : (t629 == 1 && (t630 == 0 && (t631 == 1))) = false := by simpa using c75))
                      (try (have c75b3 : ¬ (t629 = 1 && (t630 == 0 && (t631 == 1))) := by simpa using c75))
                      clear c75
                      exact absurd H (by simp)
                  · rw [if_neg c74] at H
                    have c74b0 : (t627 == 6) = false := beq_eq_false_iff_ne.mpr c74
                    have c74b1 : (t627 != 6) = true := bne_iff_ne.mpr c74
                    exact absurd H (by simp)
                · rw [if_neg c73] at H
                  have c73b0 : (t619 == t639 && (t620 == t640)) = false := by simpa using c73
                  (try (have c73b1 : decide (t619 = t639 && (t620 == t640)) = false := by simpa using c73))
                  (try (have c73b2 : (t619 == t639 && (t620 == t640)) = false := by simpa using c73))
                  (try (have c73b3 : ¬ (t619 = t639 && (t620 == t640)) := by simpa using c73))
                  clear c73
                  exact absurd H (by simp)
              · rw [if_neg c71] at H
                have c71b0 : ((t607.length : Int) == 12) = false := beq_eq_false_iff_ne.mpr c71
                have c71b1 : ((t607.length : Int) != 12) = true := bne_iff_ne.mpr c71
                exact absurd H (by simp)
            · rw [if_neg c70] at H
              have c70b0 : (t605 == 1) = false := beq_eq_false_iff_ne.mpr c70
              have c70b1 : (t605 != 1) = true := bne_iff_ne.mpr c70
              exact absurd H (by simp)
          · rw [if_neg c69] at H
            have c69b0 : (t595 == 1) = false := beq_eq_false_iff_ne.mpr c69
            have c69b1 : (t595 != 1) = true := bne_iff_ne.mpr c69
            exact absurd H (by simp)
        · rw [if_neg c68] at H
          have c68b0 : (t587 == 6) = false := beq_eq_false_iff_ne.mpr c68
          have c68b1 : (t587 != 6) = true := bne_iff_ne.mpr c68
          exact absurd H (by simp)
end
section
/-! ### grids_valid: function 67 -/
def grids_valid.f (k : Nat) (a0_0 : Int) (a0_1 : Int) (a0_2 : Int) (a0_3 : Int) (a0_4 : Int) (a0_5 : Int) : Option (Int × Int × Int × Int × Int × Int × Int) := (grids_move.f k a0_0 a0_1 a0_2 a0_3 a0_4 a0_5).bind fun t872 => (if t872 = true then (some (a0_0, a0_1, a0_2, a0_3, a0_4, a0_5, 0)) else (some (0, 0, 0, 0, 0, 0, 7)))
theorem grids_valid.mono : ∀ a0 a1 a2 a3 a4 a5 k, LeO (grids_valid.f k a0 a1 a2 a3 a4 a5) (grids_valid.f (k + 1) a0 a1 a2 a3 a4 a5) := by
  intro a0 a1 a2 a3 a4 a5 k
  unfold grids_valid.f
  repeat' first
      | (with_reducible exact grids_move.mono _ _ _ _ _ _ _)
      | (with_reducible exact LeO.refl _)
      | (with_reducible exact LeO.none _)
      | (with_reducible refine LeO.ite ?_ ?_)
      | (with_reducible refine LeO.bind ?_ (fun _ => ?_))
      | exact grids_move.mono _ _ _ _ _ _ _
      | exact LeO.none _
      | refine LeO.ite ?_ ?_
      | refine LeO.bind ?_ (fun _ => ?_)
set_option maxHeartbeats 8000000 in
set_option maxRecDepth 100000 in
theorem grids_valid.calls (k : Nat) (a0_0 : Int) (a0_1 : Int) (a0_2 : Int) (a0_3 : Int) (a0_4 : Int) (a0_5 : Int) (r1 : Int) (r2 : Int) (r3 : Int) (r4 : Int) (r5 : Int) (r6 : Int) (r7 : Int) (w : World) (h : grids_valid.f k a0_0 a0_1 a0_2 a0_3 a0_4 a0_5 = some (r1, r2, r3, r4, r5, r6, r7)) :
    Calls Try.prog 67 #[.agg #[.int .i64 a0_0, .int .i64 a0_1, .int .i64 a0_2, .int .i64 a0_3, .int .i64 a0_4, .int .i64 a0_5]] w fun e w' => e = .returned (.tuple #[.agg #[.int .i64 r1, .int .i64 r2, .int .i64 r3, .int .i64 r4, .int .i64 r5, .int .i64 r6], .int .i64 r7]) ∧ Below w.heap.size w w' := by
  have hu55 := Try.underlying55
  have HB := Aside0.mk (Below.refl w.heap.size w)
  have H : ((grids_move.f k a0_0 a0_1 a0_2 a0_3 a0_4 a0_5).bind fun t872 => (if t872 = true then (some (a0_0, a0_1, a0_2, a0_3, a0_4, a0_5, 0)) else (some (0, 0, 0, 0, 0, 0, 7)))) = some (r1, r2, r3, r4, r5, r6, r7) := h
  clear h
  replace H := Option.bind_eq_some_iff.mp H
  obtain ⟨t872, A20, H⟩ := H
  replace H : (if t872 = true then (some (a0_0, a0_1, a0_2, a0_3, a0_4, a0_5, 0)) else (some (0, 0, 0, 0, 0, 0, 7))) = some (r1, r2, r3, r4, r5, r6, r7) := H
  have A2 := Aside0.mk A20
  clear A20
  by_cases c3 : t872 = true
  · subst c3
    have H1 : (some (a0_0, a0_1, a0_2, a0_3, a0_4, a0_5, 0)) = some (r1, r2, r3, r4, r5, r6, r7) := by rw [if_pos rfl] at H; exact H
    clear H
    have H := H1
    clear H1
    simp only [Option.some.injEq, Prod.mk.injEq] at H
    obtain ⟨rfl, rfl, rfl, rfl, rfl, rfl, rfl⟩ := H
    go_enter Try.func67, Try.ntmps67
    go_wp2_with (first | ((with_reducible refine gate_dst (N := 1) rfl ?_); refine bx 1 #[.int .i64 a0_0, .int .i64 a0_1, .int .i64 a0_2, .int .i64 a0_3, .int .i64 a0_4, .int .i64 a0_5] 55 fun gb870 hg w4 BK870 hb => ?_; have GW870 := gw hg HB; have GE870 := gw hg HB; replace HB := bst HB hb; clear hb hg) | ((with_reducible refine gate_dst (N := 2) rfl ?_); refine bx 2 #[.int .i64 0, .int .i64 0, .int .i64 0, .int .i64 0, .int .i64 0, .int .i64 0] 55 fun gb871 hg w5 BK871 hb => ?_; have GW871 := gw hg HB; have GE871 := gw hg HB; have NB870_871 := nlt hg BK870; have NB871_870 := ngt hg BK870; replace BK870 := bb BK870 hb; replace HB := bst HB hb; clear hb hg; have hnb6 := NB870_871.out; have hnc6 := NB871_870.out; have ⟨hcz7_0, hcz7_1, hcz7_2, hcz7_3, hcz7_4, hcz7_5, hfz7_0, hfz7_1, hfz7_2, hfz7_3, hfz7_4, hfz7_5⟩ := cf6 BK870) | ((with_reducible refine gate_callee (f := 62) rfl ?_); refine gl 5 Try.func62 (grids_move.calls k a0_0 a0_1 a0_2 a0_3 a0_4 a0_5 true _ A2.out) ?_; rintro e w8 ⟨rfl, hb⟩; refine ⟨_, rfl, ?_⟩; replace BK870 := bb BK870 hb; replace BK871 := bb BK871 hb; replace HB := bst HB hb; clear hb; have ⟨hcz9_0, hcz9_1, hcz9_2, hcz9_3, hcz9_4, hcz9_5, hfz9_0, hfz9_1, hfz9_2, hfz9_3, hfz9_4, hfz9_5⟩ := cf6 BK870; have ⟨hcz10_0, hcz10_1, hcz10_2, hcz10_3, hcz10_4, hcz10_5, hfz10_0, hfz10_1, hfz10_2, hfz10_3, hfz10_4, hfz10_5⟩ := cf6 BK871) | ((with_reducible refine gate_store (t := 55) (p := 2) rfl ?_); refine sx 55 2 (((((((w8.setCell ⟨gb871, 0, none⟩ (.int .i64 a0_0)).setCell ⟨gb871, 1, none⟩ (.int .i64 a0_1)).setCell ⟨gb871, 2, none⟩ (.int .i64 a0_2)).setCell ⟨gb871, 3, none⟩ (.int .i64 a0_3)).setCell ⟨gb871, 4, none⟩ (.int .i64 a0_4)).setCell ⟨gb871, 5, none⟩ (.int .i64 a0_5))) fun w11 hw => ?_; replace BK870 := fw hw BK870; replace BK871 := pw6 hw BK871; replace HB := bw hw HB; clear hw))
    refine bodyPost_ret (results_ct rfl _ _ gb871 55 #[.int .i64 a0_0, .int .i64 a0_1, .int .i64 a0_2, .int .i64 a0_3, .int .i64 a0_4, .int .i64 a0_5] (0, 0) _ rfl (pk BK871) Try.underlying55 rfl (by kernel_rfl)) rfl ?_
    exact rt HB
  · replace c3 := Bool.eq_false_iff.mpr c3
    subst c3
    have H1 : (some (0, 0, 0, 0, 0, 0, 7)) = some (r1, r2, r3, r4, r5, r6, r7) := by rw [if_neg (show ¬ (false = true) by decide)] at H; exact H
    clear H
    have H := H1
    clear H1
    simp only [Option.some.injEq, Prod.mk.injEq] at H
    obtain ⟨rfl, rfl, rfl, rfl, rfl, rfl, rfl⟩ := H
    go_enter Try.func67, Try.ntmps67
    go_wp2_with (first | ((with_reducible refine gate_dst (N := 1) rfl ?_); refine bx 1 #[.int .i64 a0_0, .int .i64 a0_1, .int .i64 a0_2, .int .i64 a0_3, .int .i64 a0_4, .int .i64 a0_5] 55 fun gb870 hg w12 BK870 hb => ?_; have GW870 := gw hg HB; have GE870 := gw hg HB; replace HB := bst HB hb; clear hb hg) | ((with_reducible refine gate_dst (N := 2) rfl ?_); refine bx 2 #[.int .i64 0, .int .i64 0, .int .i64 0, .int .i64 0, .int .i64 0, .int .i64 0] 55 fun gb871 hg w13 BK871 hb => ?_; have GW871 := gw hg HB; have GE871 := gw hg HB; have NB870_871 := nlt hg BK870; have NB871_870 := ngt hg BK870; replace BK870 := bb BK870 hb; replace HB := bst HB hb; clear hb hg; have hnb14 := NB870_871.out; have hnc14 := NB871_870.out; have ⟨hcz15_0, hcz15_1, hcz15_2, hcz15_3, hcz15_4, hcz15_5, hfz15_0, hfz15_1, hfz15_2, hfz15_3, hfz15_4, hfz15_5⟩ := cf6 BK870) | ((with_reducible refine gate_callee (f := 62) rfl ?_); refine gl 5 Try.func62 (grids_move.calls k a0_0 a0_1 a0_2 a0_3 a0_4 a0_5 false _ A2.out) ?_; rintro e w16 ⟨rfl, hb⟩; refine ⟨_, rfl, ?_⟩; replace BK870 := bb BK870 hb; replace BK871 := bb BK871 hb; replace HB := bst HB hb; clear hb; have ⟨hcz17_0, hcz17_1, hcz17_2, hcz17_3, hcz17_4, hcz17_5, hfz17_0, hfz17_1, hfz17_2, hfz17_3, hfz17_4, hfz17_5⟩ := cf6 BK871) | ((with_reducible refine gate_store (t := 55) (p := 2) rfl ?_); refine sx 55 2 (((((((w16.setCell ⟨gb871, 0, none⟩ (.int .i64 0)).setCell ⟨gb871, 1, none⟩ (.int .i64 0)).setCell ⟨gb871, 2, none⟩ (.int .i64 0)).setCell ⟨gb871, 3, none⟩ (.int .i64 0)).setCell ⟨gb871, 4, none⟩ (.int .i64 0)).setCell ⟨gb871, 5, none⟩ (.int .i64 0))) fun w18 hw => ?_; replace BK870 := fw hw BK870; replace BK871 := pw6 hw BK871; replace HB := bw hw HB; clear hw))
    refine bodyPost_ret (results_ct rfl _ _ gb871 55 #[.int .i64 0, .int .i64 0, .int .i64 0, .int .i64 0, .int .i64 0, .int .i64 0] (0, 0) _ rfl (pk BK871) Try.underlying55 rfl (by kernel_rfl)) rfl ?_
    exact rt HB
end
end Go.Proofs.Ytmcajdepoohlhaa.G
