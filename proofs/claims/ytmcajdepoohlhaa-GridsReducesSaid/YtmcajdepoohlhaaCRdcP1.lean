/- Functions of the program as plain Lean functions, and their contracts (printed by a program of this session). No condition beyond what each states. -/
import Derived.Test.YtmcajdepoohlhaaCRdcY
import Derived.Test.YtmcajdepoohlhaaCRdcP0
namespace Go.Proofs.Ytmcajdepoohlhaa.G
open Go.RowKit Go.Proofs.YtmcajdepoohlhaaW.PrintWords Go.Proofs.YtmcajdepoohlhaaW.PrintLast Go.Proofs.YtmcajdepoohlhaaW.PrintMore
attribute [local go_sem] max2_int min2_int max_two min_two max_three min_three max_four min_four
set_option linter.unusedVariables false
set_option linter.unusedSimpArgs false
section
/-! ### torchonref06_Steps: function 73 -/
def torchonref06_Steps.l0 : Nat → Int → List (S37) → Int → Int → Int → Int → Option ((List (S37)))
  | 0, _, _, _, _, _, _ => none
  | k + 1, x1, x5, x6, x272000, x272001, x272002 => if x6 ≤ 10000 then ((some (wrap64 (x272000 * x1))).bind fun z272 => ((torchonref06_Det.f x272000 x272001 x272002).bind fun t273 => ((some (wrap64 (t273 * x6))).bind fun z274 => ((some (wrap64 (z274 * x6))).bind fun z275 => ((some (wrap64 (z272 - z275))).bind fun z276 => (if z276 < 0 then ((some (wrap64 (x6 + 1))).bind fun z277 => (torchonref06_Steps.l0 k x1 x5 z277 x272000 x272001 x272002)) else ((torchonref06_root.f k z276).bind fun t278 => ((some (wrap64 (t278 * t278))).bind fun z279 => (if z279 = z276 then ((some (wrap64 (x272001 * x6))).bind fun z281 => ((some (wrap64 (t278 - z281))).bind fun z282 => (if x272000 = 0 then (none) else ((some (Int.tmod z282 x272000)).bind fun z283 => (if z283 = 0 then ((some (wrap64 (Int.tdiv z282 x272000))).bind fun z284 => (if x5.length < 8796093022208 then ((some (x5 ++ [(⟨z284, x6⟩ : S37)] : List (S37))).bind fun y285 => (if t278 > 0 then ((some (wrap64 (t278 + z281))).bind fun z288 => ((some (Int.tmod z288 x272000)).bind fun z289 => (if z289 = 0 then ((some (wrap64 (-z288))).bind fun z290 => ((some (wrap64 (Int.tdiv z290 x272000))).bind fun z291 => (if y285.length < 8796093022208 then ((some (wrap64 (x6 + 1))).bind fun z295 => (torchonref06_Steps.l0 k x1 (y285 ++ [(⟨z291, x6⟩ : S37)]) z295 x272000 x272001 x272002)) else (none)))) else ((some (wrap64 (x6 + 1))).bind fun z296 => (torchonref06_Steps.l0 k x1 y285 z296 x272000 x272001 x272002))))) else ((some (wrap64 (x6 + 1))).bind fun z297 => (torchonref06_Steps.l0 k x1 y285 z297 x272000 x272001 x272002)))) else (none))) else (if t278 > 0 then ((some (wrap64 (t278 + z281))).bind fun z298 => ((some (Int.tmod z298 x272000)).bind fun z299 => (if z299 = 0 then ((some (wrap64 (-z298))).bind fun z300 => ((some (wrap64 (Int.tdiv z300 x272000))).bind fun z301 => (if x5.length < 8796093022208 then ((some (wrap64 (x6 + 1))).bind fun z305 => (torchonref06_Steps.l0 k x1 (x5 ++ [(⟨z301, x6⟩ : S37)]) z305 x272000 x272001 x272002)) else (none)))) else ((some (wrap64 (x6 + 1))).bind fun z306 => (torchonref06_Steps.l0 k x1 x5 z306 x272000 x272001 x272002))))) else ((some (wrap64 (x6 + 1))).bind fun z307 => (torchonref06_Steps.l0 k x1 x5 z307 x272000 x272001 x272002)))))))) else ((some (wrap64 (x6 + 1))).bind fun z280 => (torchonref06_Steps.l0 k x1 x5 z280 x272000 x272001 x272002))))))))))) else (some x5)
def torchonref06_Steps.f (k : Nat) (a0_0 : Int) (a0_1 : Int) (a0_2 : Int) (a1 : Int) : Option ((List (S37))) := torchonref06_Steps.l0 k a1 ([] : List (S37)) (-10000) a0_0 a0_1 a0_2
theorem torchonref06_Steps.mono_l : ∀ k, (∀ y0 y1 y2 y3 y4 y5, LeO (torchonref06_Steps.l0 k y0 y1 y2 y3 y4 y5) (torchonref06_Steps.l0 (k + 1) y0 y1 y2 y3 y4 y5))
  | 0 => fun _ _ _ _ _ _ r h => by simp [torchonref06_Steps.l0] at h
  | k + 1 => by
    have ih0 := torchonref06_Steps.mono_l k
    · intro y0 y1 y2 y3 y4 y5
      unfold torchonref06_Steps.l0
      repeat' first
      | (with_reducible exact ih0 _ _ _ _ _ _)
      | (with_reducible exact torchonref06_root.mono _ _)
      | (with_reducible exact LeO.refl _)
      | (with_reducible exact LeO.none _)
      | (with_reducible refine LeO.ite ?_ ?_)
      | (with_reducible refine LeO.bind ?_ (fun _ => ?_))
      | exact ih0 _ _ _ _ _ _
      | exact torchonref06_root.mono _ _
      | exact LeO.none _
      | refine LeO.ite ?_ ?_
      | refine LeO.bind ?_ (fun _ => ?_)
theorem torchonref06_Steps.mono : ∀ a0 a1 a2 a3 k, LeO (torchonref06_Steps.f k a0 a1 a2 a3) (torchonref06_Steps.f (k + 1) a0 a1 a2 a3) := by
  intro a0 a1 a2 a3 k
  have ih0 := torchonref06_Steps.mono_l k
  unfold torchonref06_Steps.f
  repeat' first
      | (with_reducible exact ih0 _ _ _ _ _ _)
      | (with_reducible exact torchonref06_root.mono _ _)
      | (with_reducible exact LeO.refl _)
      | (with_reducible exact LeO.none _)
      | (with_reducible refine LeO.ite ?_ ?_)
      | (with_reducible refine LeO.bind ?_ (fun _ => ?_))
      | exact ih0 _ _ _ _ _ _
      | exact torchonref06_root.mono _ _
      | exact LeO.none _
      | refine LeO.ite ?_ ?_
      | refine LeO.bind ?_ (fun _ => ?_)
def torchonref06_Steps.T5 : Bool × List (List Nat × List Nat) := (true, [([], []), ([0], [0]), ([], []), ([1, 2], [1, 2]), ([], []), ([4], [4]), ([], []), ([5, 6], [5, 6]), ([], []), ([7, 8], [7, 8]), ([3, 9], [3, 9]), ([10, 5, 0, 1, 2, 3, 4, 5, 6, 7, 8, 9, 10], [10])])
def torchonref06_Steps.B5 : List Nat := [0, 1, 0, 7, 0, 16, 0, 112, 0, 496, 1023, 2047]
theorem torchonref06_Steps.tab5 : rtab .any (opsOf Try.f73 5) = torchonref06_Steps.T5 := by kernel_rfl
theorem torchonref06_Steps.bits5 : waitsOk torchonref06_Steps.T5.2 torchonref06_Steps.B5 = true := by kernel_rfl
set_option maxHeartbeats 8000000 in
set_option maxRecDepth 100000 in
theorem torchonref06_Steps.calls (k : Nat) (a0_0 : Int) (a0_1 : Int) (a0_2 : Int) (a1 : Int) (r : List (S37)) (w : World) (h : torchonref06_Steps.f k a0_0 a0_1 a0_2 a1 = some r) :
    Calls Try.prog 73 #[.agg #[.int .i64 a0_0, .int .i64 a0_1, .int .i64 a0_2], .int .i64 a1] w fun e w' => ∃ v0_ : Value, e = .returned (v0_) ∧ Kd.R k37 37 w' w.heap.size (fun _ => True) v0_ r ∧ Below w.heap.size w w' := by
  have hu23 := Try.underlying23
  have hu37 := Try.underlying37
  have HB := Aside0.mk (Below.refl w.heap.size w)
  have H : (torchonref06_Steps.l0 k a1 ([] : List (S37)) (-10000) a0_0 a0_1 a0_2) = some r := h
  clear h
  have H' := Aside0.mk H
  clear H
  go_enter Try.func73, Try.ntmps73
  go_wp2_with (first | ((with_reducible refine gate_dst (N := 2) rfl ?_); refine bx 2 #[.int .i64 a0_0, .int .i64 a0_1, .int .i64 a0_2] 23 fun gb271 hg w3 BK271 hb => ?_; have GW271 := gw hg HB; have GE271 := gw hg HB; replace HB := bst HB hb; clear hb hg))
  (try simp only [Act.put, List.setIfInBounds_toArray, List.set_cons_zero, List.set_cons_succ])
  go_loopg [5, 6] k (fun kq v5 v6 w' => ∃ (x5_1 : List (S37)) (x6_1 : Int), v6 = .int .i64 x6_1 ∧ Aside0 (torchonref06_Steps.l0 kq a1 x5_1 x6_1 a0_0 a0_1 a0_2 = some r) ∧ Aside0 (kq ≤ k) ∧ Aside0 (Kd.R k37 37 w' w.heap.size (fun _ => True) v5 x5_1) ∧ Aside0 (w'.heap[gb271]? = some (.cells #[.int .i64 a0_0, .int .i64 a0_1, .int .i64 a0_2] 23 (0, 0))) ∧ Aside0 (Below w.heap.size w w'))
  case atStart => exact ⟨(([] : List (S37))), ((-10000)), (by first | rfl | (simp; done) | (simp [*]; done)), H', ⟨Nat.le_refl _⟩, ⟨by first | exact Kd.R_nil _ _ _ _ _ | exact Kd.N_nil _ _ _ _ _ | exact Kd.V_nil _ _ _ _ _ | exact Kd.Q_nil _ _ _ _ _ | exact Kd.S_nil _ _ _ _ _⟩, ⟨pk BK271⟩, ⟨bnow HB⟩⟩
  case round =>
    clear H'
    try clear p2
    obtain ⟨x5_1, x6_1, rfl, HA, HK1, HO_5, BK271, HB⟩ := hrel
    cases gk with
    | zero => exact absurd HA.out (by simp [torchonref06_Steps.l0])
    | succ k1 =>
      have H := HA.out
      clear HA
      simp only [torchonref06_Steps.l0] at H
      by_cases c4 : x6_1 ≤ 10000
      · rw [if_pos c4] at H
        have c4b0 : decide (x6_1 ≤ 10000) = true := decide_eq_true c4
        clear c4
        obtain ⟨z272, E50, H⟩ := oc H
        have E5w : (IntKind.i64.wrap (a0_0 * a1)) = z272 := (i64_w _).trans E50
        obtain ⟨t273, A6, H⟩ := ob H
        obtain ⟨z274, E70, H⟩ := oc H
        have E7w : (IntKind.i64.wrap (t273 * x6_1)) = z274 := (i64_w _).trans E70
        obtain ⟨z275, E80, H⟩ := oc H
        have E8w : (IntKind.i64.wrap (z274 * x6_1)) = z275 := (i64_w _).trans E80
        obtain ⟨z276, E90, H⟩ := oc H
        have E9w : (IntKind.i64.wrap (z272 - z275)) = z276 := (i64_w _).trans E90
        by_cases c10 : z276 < 0
        · rw [if_pos c10] at H
          have c10b0 : decide (z276 < 0) = true := decide_eq_true c10
          clear c10
          obtain ⟨z277, E110, H⟩ := oc H
          have E11w : (IntKind.i64.wrap (x6_1 + 1)) = z277 := (i64_w _).trans E110
          have H' := Aside0.mk H
          clear H
          try go_wp2
          replace HO_5 := Aside0.mk (Kd.R_drew HO_5.out)
          replace BK271 := bd BK271
          replace HB := bdn HB
          refine start_ (n := 12) (S := fun w' => w'.cell? ⟨gb271, 0, none⟩ = some (.int .i64 a0_0) ∧ w'.cell? ⟨gb271, 1, none⟩ = some (.int .i64 a0_1) ∧ w'.cell? ⟨gb271, 2, none⟩ = some (.int .i64 a0_2)) (ds := []) #[false, false, false, false, false, false, false, false, false, false, false, false] (by kernel_rfl) rfl rfl ⟨(blk_cell BK271.out 0).trans rfl, (blk_cell BK271.out 1).trans rfl, (blk_cell BK271.out 2).trans rfl⟩ (fun hHeld => ?_); refine with_tabW torchonref06_Steps.tab5 torchonref06_Steps.bits5 (fun HT_ HW_ => ?_)
          generalize wr.drew = w12 at HO_5 BK271 HB hHeld ⊢
          refine pz 0 13 HT_ ?_
          refine pz 2 15 HT_ ?_
          refine pz 6 19 HT_ ?_
          refine pz 8 21 HT_ ?_
          refine tz 1 14 HT_ HW_ hHeld ?_
          refine pz 3 16 HT_ ?_
          refine tz 4 17 HT_ HW_ hHeld ?_
          refine one_ (i := 5) (N := some 18) #[true, true, true, true, true, true, true, false, true, false, false, false] rfl rfl (one_of HT_.out (by kernel_rfl)) (by decide) (fun K hK => ?_)
          refine gs _ Try.func72 (torchonref06_Det.calls a0_0 a0_1 a0_2 t273 _ A6.out) ?_
          rintro e w13 ⟨rfl, hb⟩
          refine ⟨_, rfl, ?_⟩
          have n0_ := Aside0.mk (Kd.R_below (by (with_reducible repeat (first | apply Kd.R_alloc | apply Kd.R_drewN | apply Kd.R_drew)); exact HO_5.out) hb)
          have n1_ := bb BK271 hb
          have n2_ := bst HB hb
          clear HO_5
          clear BK271
          clear HB
          have HO_5 := n0_
          have BK271 := n1_
          have HB := n2_
          clear n0_ n1_ n2_
          (try clear hb)
          (try clear hb2)
          (try clear hk)
          (try clear hi)
          refine hK.out _ _ ⟨(blk_cell BK271.out 0).trans rfl, (blk_cell BK271.out 1).trans rfl, (blk_cell BK271.out 2).trans rfl⟩ (fun hHeld => ?_)
          clear hK K
          refine norm_ (a' := ?_) ?_ ?_
          rotate_left
          · show Act.put _ (some 18) _ = _
            simp only [Act.put, List.setIfInBounds_toArray, List.set_cons_zero, List.set_cons_succ, i64_w, i32_w]
            rfl
          refine pz 7 20 HT_ ?_
          refine pz 9 22 HT_ ?_
          refine pz 10 23 HT_ ?_
          refine pz 11 7 HT_ ?_
          refine done_ (done_of HT_.out (by kernel_rfl)) ?_
          try go_wp2
          go_roundg k1
          case measure => have := HK1.out; omega
          case rel => exact ⟨(x5_1), (z277), (by first | rfl | (simp; done) | (simp [*]; done)), H', ⟨by have := HK1.out; omega⟩, ⟨by (with_reducible repeat (first | apply Kd.R_alloc | apply Kd.R_drewN | apply Kd.R_drew)); exact HO_5.out⟩, ⟨pk BK271⟩, ⟨bnow HB⟩⟩
        · rw [if_neg c10] at H
          have c10b0 : decide (z276 < 0) = false := decide_eq_false c10
          clear c10
          obtain ⟨t278, A14, H⟩ := ob H
          obtain ⟨z279, E150, H⟩ := oc H
          have E15w : (IntKind.i64.wrap (t278 * t278)) = z279 := (i64_w _).trans E150
          by_cases c16 : z279 = z276
          · rw [if_pos c16] at H
            have c16b0 : (z279 == z276) = true := beq_iff_eq.mpr c16
            have c16b1 : (z279 != z276) = false := bne_eq_false_iff_eq.mpr c16
            clear c16
            obtain ⟨z281, E170, H⟩ := oc H
            have E17w : (IntKind.i64.wrap (a0_1 * x6_1)) = z281 := (i64_w _).trans E170
            obtain ⟨z282, E180, H⟩ := oc H
            have E18w : (IntKind.i64.wrap (t278 - z281)) = z282 := (i64_w _).trans E180
            by_cases c19 : a0_0 = 0
            · rw [if_pos c19] at H
              exact absurd H (by simp)
            · rw [if_neg c19] at H
              have c19b0 : (a0_0 == 0) = false := beq_eq_false_iff_ne.mpr c19
              have c19b1 : (a0_0 != 0) = true := bne_iff_ne.mpr c19
              obtain ⟨z283, E200, H⟩ := oc H
              by_cases c21 : z283 = 0
              · rw [if_pos c21] at H
                have c21b0 : (z283 == 0) = true := beq_iff_eq.mpr c21
                have c21b1 : (z283 != 0) = false := bne_eq_false_iff_eq.mpr c21
                clear c21
                obtain ⟨z284, E220, H⟩ := oc H
                have E22w : (IntKind.i64.wrap (Int.tdiv z282 a0_0)) = z284 := (i64_w _).trans E220
                by_cases c23 : x5_1.length < 8796093022208
                · rw [if_pos c23] at H
                  have LMc23 := Aside0.mk c23
                  clear c23
                  obtain ⟨y285, hy285⟩ : ∃ y_ : List (S37), y_ = (x5_1 ++ [(⟨z284, x6_1⟩ : S37)]) := ⟨_, rfl⟩
                  replace H : (if t278 > 0 then ((some (wrap64 (t278 + z281))).bind fun z288 => ((some (Int.tmod z288 a0_0)).bind fun z289 => (if z289 = 0 then ((some (wrap64 (-z288))).bind fun z290 => ((some (wrap64 (Int.tdiv z290 a0_0))).bind fun z291 => (if y285.length < 8796093022208 then ((some (wrap64 (x6_1 + 1))).bind fun z295 => (torchonref06_Steps.l0 k1 a1 (y285 ++ [(⟨z291, x6_1⟩ : S37)]) z295 a0_0 a0_1 a0_2)) else (none)))) else ((some (wrap64 (x6_1 + 1))).bind fun z296 => (torchonref06_Steps.l0 k1 a1 y285 z296 a0_0 a0_1 a0_2))))) else ((some (wrap64 (x6_1 + 1))).bind fun z297 => (torchonref06_Steps.l0 k1 a1 y285 z297 a0_0 a0_1 a0_2))) = some r := by first | (rw [hy285]; with_reducible exact H) | (have H2_ := (Option.bind_some _ _).symm.trans H; rw [hy285]; with_reducible exact H2_) | (have H2_ := (Option.bind_some _ _).symm.trans H; with_reducible exact H2_) | with_reducible exact H | (rw [hy285]; exact H) | exact H
                  have Ny285 := Aside0.mk hy285
                  clear hy285
                  by_cases c24 : t278 > 0
                  · rw [if_pos c24] at H
                    have c24b0 : decide (0 < t278) = true := decide_eq_true c24
                    clear c24
                    obtain ⟨z288, E250, H⟩ := oc H
                    have E25w : (IntKind.i64.wrap (t278 + z281)) = z288 := (i64_w _).trans E250
                    obtain ⟨z289, E260, H⟩ := oc H
                    by_cases c27 : z289 = 0
                    · rw [if_pos c27] at H
                      have c27b0 : (z289 == 0) = true := beq_iff_eq.mpr c27
                      have c27b1 : (z289 != 0) = false := bne_eq_false_iff_eq.mpr c27
                      clear c27
                      obtain ⟨z290, E280, H⟩ := oc H
                      have E28w : (IntKind.i64.wrap (-z288)) = z290 := (i64_w _).trans E280
                      obtain ⟨z291, E290, H⟩ := oc H
                      have E29w : (IntKind.i64.wrap (Int.tdiv z290 a0_0)) = z291 := (i64_w _).trans E290
                      by_cases c30 : y285.length < 8796093022208
                      · rw [if_pos c30] at H
                        have LMc30 := Aside0.mk c30
                        clear c30
                        obtain ⟨y292, hy292⟩ : ∃ y_ : List (S37), y_ = (y285 ++ [(⟨z291, x6_1⟩ : S37)]) := ⟨_, rfl⟩
                        replace H : ((some (wrap64 (x6_1 + 1))).bind fun z295 => (torchonref06_Steps.l0 k1 a1 y292 z295 a0_0 a0_1 a0_2)) = some r := by first | (rw [hy292]; with_reducible exact H) | (have H2_ := (Option.bind_some _ _).symm.trans H; rw [hy292]; with_reducible exact H2_) | (have H2_ := (Option.bind_some _ _).symm.trans H; with_reducible exact H2_) | with_reducible exact H | (rw [hy292]; exact H) | exact H
                        have Ny292 := Aside0.mk hy292
                        clear hy292
                        obtain ⟨z295, E310, H⟩ := oc H
                        have E31w : (IntKind.i64.wrap (x6_1 + 1)) = z295 := (i64_w _).trans E310
                        have H' := Aside0.mk H
                        clear H
                        try go_wp2
                        replace HO_5 := Aside0.mk (Kd.R_drew HO_5.out)
                        replace BK271 := bd BK271
                        replace HB := bdn HB
                        refine start_ (n := 12) (S := fun w' => w'.cell? ⟨gb271, 0, none⟩ = some (.int .i64 a0_0) ∧ w'.cell? ⟨gb271, 1, none⟩ = some (.int .i64 a0_1) ∧ w'.cell? ⟨gb271, 2, none⟩ = some (.int .i64 a0_2)) (ds := []) #[false, false, false, false, false, false, false, false, false, false, false, false] (by kernel_rfl) rfl rfl ⟨(blk_cell BK271.out 0).trans rfl, (blk_cell BK271.out 1).trans rfl, (blk_cell BK271.out 2).trans rfl⟩ (fun hHeld => ?_); refine with_tabW torchonref06_Steps.tab5 torchonref06_Steps.bits5 (fun HT_ HW_ => ?_)
                        generalize wr.drew = w32 at HO_5 BK271 HB hHeld ⊢
                        refine pz 0 13 HT_ ?_
                        refine pz 2 15 HT_ ?_
                        refine pz 6 19 HT_ ?_
                        refine pz 8 21 HT_ ?_
                        refine tz 1 14 HT_ HW_ hHeld ?_
                        refine pz 3 16 HT_ ?_
                        refine tz 4 17 HT_ HW_ hHeld ?_
                        refine one_ (i := 5) (N := some 18) #[true, true, true, true, true, true, true, false, true, false, false, false] rfl rfl (one_of HT_.out (by kernel_rfl)) (by decide) (fun K hK => ?_)
                        refine gs _ Try.func72 (torchonref06_Det.calls a0_0 a0_1 a0_2 t273 _ A6.out) ?_
                        rintro e w33 ⟨rfl, hb⟩
                        refine ⟨_, rfl, ?_⟩
                        have n0_ := Aside0.mk (Kd.R_below (by (with_reducible repeat (first | apply Kd.R_alloc | apply Kd.R_drewN | apply Kd.R_drew)); exact HO_5.out) hb)
                        have n1_ := bb BK271 hb
                        have n2_ := bst HB hb
                        clear HO_5
                        clear BK271
                        clear HB
                        have HO_5 := n0_
                        have BK271 := n1_
                        have HB := n2_
                        clear n0_ n1_ n2_
                        (try clear hb)
                        (try clear hb2)
                        (try clear hk)
                        (try clear hi)
                        refine hK.out _ _ ⟨(blk_cell BK271.out 0).trans rfl, (blk_cell BK271.out 1).trans rfl, (blk_cell BK271.out 2).trans rfl⟩ (fun hHeld => ?_)
                        clear hK K
                        refine norm_ (a' := ?_) ?_ ?_
                        rotate_left
                        · show Act.put _ (some 18) _ = _
                          simp only [Act.put, List.setIfInBounds_toArray, List.set_cons_zero, List.set_cons_succ, i64_w, i32_w]
                          rfl
                        refine pz 7 20 HT_ ?_
                        refine pz 9 22 HT_ ?_
                        refine pz 10 23 HT_ ?_
                        refine pz 11 7 HT_ ?_
                        refine done_ (done_of HT_.out (by kernel_rfl)) ?_
                        try go_wp2_with (first | ((with_reducible refine gate_callee (f := 83) rfl ?_); refine goesL_ (some 27) rfl rfl Try.func83 (by kernel_rfl) rfl #[.int .i64 z276] rfl am ?_; (with_reducible refine (torchonref06_root.calls k1 z276 t278 _ A14.out).mono ?_); rintro e w' ⟨rfl, ⟨nd, rfl⟩⟩; refine ⟨_, rfl, ?_⟩; have ⟨hcz34_0, hcz34_1, hcz34_2, hfz34_0, hfz34_1, hfz34_2⟩ := cf3 BK271) | ((with_reducible refine gate_builtin (b := .append) (xs := #[.tmp 43, .tmp 55]) rfl ?_); at_builtin; refine Kd.R_append k37 (w0 := w) w.heap.size rfl (.tmp 43) (.tmp 55) 98 37 (.agg #[(.int .i64 0), (.int .i64 0)]) 16 rfl Try.underlying98 info37 rfl (by decide) (by omega) u5 x5_1 (⟨z284, x6_1⟩ : S37) [.int .i64 z284, .int .i64 x6_1] (fun _ => True) (fun _ => False) rfl rfl ?aP (fun _ hk => hk.elim) ?aF ?aO ?aB ?aS ?aL ?_; (case aP => exact k37_mkM _ _ _ (⟨z284, x6_1⟩ : S37)); (case aB => exact (bnow HB)); (case aF => exact (fun _ _ => trivial)); (case aO => exact (by (with_reducible repeat (first | apply Kd.R_alloc | apply Kd.R_drewN | apply Kd.R_drew)); exact HO_5.out)); (case aS => exact (below_size (bnow HB))); (case aL => have := LMc23.out; omega); intro v286 w35 ho hb hg hat; rw [← Ny285.out] at ho; have n0_ := Aside0.mk (blk_grown (g := gb271) (o := .cells #[.int .i64 a0_0, .int .i64 a0_1, .int .i64 a0_2] 23 (0, 0)) (pk BK271) hg (Kd.R_ne HO_5.out BK271.out (by decide))); have n1_ := Aside0.mk (hb); have n2_ := Aside0.mk (ho); clear BK271; clear HB; clear HO_5; have BK271 := n0_; have HB := n1_; have HO287 := n2_; clear n0_ n1_ n2_; clear ho hb hg hat; have ⟨hcz36_0, hcz36_1, hcz36_2, hfz36_0, hfz36_1, hfz36_2⟩ := cf3 BK271) | ((with_reducible refine gate_builtin (b := .append) (xs := #[.tmp 71, .tmp 84]) rfl ?_); at_builtin; refine Kd.R_append k37 (w0 := w) w.heap.size rfl (.tmp 71) (.tmp 84) 98 37 (.agg #[(.int .i64 0), (.int .i64 0)]) 16 rfl Try.underlying98 info37 rfl (by decide) (by omega) v286 y285 (⟨z291, x6_1⟩ : S37) [.int .i64 z291, .int .i64 x6_1] (fun _ => True) (fun _ => False) rfl rfl ?aP (fun _ hk => hk.elim) ?aF ?aO ?aB ?aS ?aL ?_; (case aP => exact k37_mkM _ _ _ (⟨z291, x6_1⟩ : S37)); (case aB => exact (bnow HB)); (case aF => exact (fun _ _ => trivial)); (case aO => exact (by (with_reducible repeat (first | apply Kd.R_alloc | apply Kd.R_drewN | apply Kd.R_drew)); exact HO287.out)); (case aS => exact (below_size (bnow HB))); (case aL => have := LMc30.out; omega); intro v293 w37 ho hb hg hat; rw [← Ny292.out] at ho; have n0_ := Aside0.mk (blk_grown (g := gb271) (o := .cells #[.int .i64 a0_0, .int .i64 a0_1, .int .i64 a0_2] 23 (0, 0)) (pk BK271) hg (Kd.R_ne HO287.out BK271.out (by decide))); have n1_ := Aside0.mk (hb); have n2_ := Aside0.mk (ho); clear BK271; clear HB; clear HO287; have BK271 := n0_; have HB := n1_; have HO294 := n2_; clear n0_ n1_ n2_; clear ho hb hg hat))
                        go_roundg k1
                        case measure => have := HK1.out; omega
                        case rel => exact ⟨(y292), (z295), (by first | rfl | (simp; done) | (simp [*]; done)), H', ⟨by have := HK1.out; omega⟩, ⟨by (with_reducible repeat (first | apply Kd.R_alloc | apply Kd.R_drewN | apply Kd.R_drew)); exact HO294.out⟩, ⟨pk BK271⟩, ⟨bnow HB⟩⟩
                      · rw [if_neg c30] at H
                        exact absurd H (by simp)
                    · rw [if_neg c27] at H
                      have c27b0 : (z289 == 0) = false := beq_eq_false_iff_ne.mpr c27
                      have c27b1 : (z289 != 0) = true := bne_iff_ne.mpr c27
                      obtain ⟨z296, E380, H⟩ := oc H
                      have E38w : (IntKind.i64.wrap (x6_1 + 1)) = z296 := (i64_w _).trans E380
                      have H' := Aside0.mk H
                      clear H
                      try go_wp2
                      replace HO_5 := Aside0.mk (Kd.R_drew HO_5.out)
                      replace BK271 := bd BK271
                      replace HB := bdn HB
                      refine start_ (n := 12) (S := fun w' => w'.cell? ⟨gb271, 0, none⟩ = some (.int .i64 a0_0) ∧ w'.cell? ⟨gb271, 1, none⟩ = some (.int .i64 a0_1) ∧ w'.cell? ⟨gb271, 2, none⟩ = some (.int .i64 a0_2)) (ds := []) #[false, false, false, false, false, false, false, false, false, false, false, false] (by kernel_rfl) rfl rfl ⟨(blk_cell BK271.out 0).trans rfl, (blk_cell BK271.out 1).trans rfl, (blk_cell BK271.out 2).trans rfl⟩ (fun hHeld => ?_); refine with_tabW torchonref06_Steps.tab5 torchonref06_Steps.bits5 (fun HT_ HW_ => ?_)
                      generalize wr.drew = w39 at HO_5 BK271 HB hHeld ⊢
                      refine pz 0 13 HT_ ?_
                      refine pz 2 15 HT_ ?_
                      refine pz 6 19 HT_ ?_
                      refine pz 8 21 HT_ ?_
                      refine tz 1 14 HT_ HW_ hHeld ?_
                      refine pz 3 16 HT_ ?_
                      refine tz 4 17 HT_ HW_ hHeld ?_
                      refine one_ (i := 5) (N := some 18) #[true, true, true, true, true, true, true, false, true, false, false, false] rfl rfl (one_of HT_.out (by kernel_rfl)) (by decide) (fun K hK => ?_)
                      refine gs _ Try.func72 (torchonref06_Det.calls a0_0 a0_1 a0_2 t273 _ A6.out) ?_
                      rintro e w40 ⟨rfl, hb⟩
                      refine ⟨_, rfl, ?_⟩
                      have n0_ := Aside0.mk (Kd.R_below (by (with_reducible repeat (first | apply Kd.R_alloc | apply Kd.R_drewN | apply Kd.R_drew)); exact HO_5.out) hb)
                      have n1_ := bb BK271 hb
                      have n2_ := bst HB hb
                      clear HO_5
                      clear BK271
                      clear HB
                      have HO_5 := n0_
                      have BK271 := n1_
                      have HB := n2_
                      clear n0_ n1_ n2_
                      (try clear hb)
                      (try clear hb2)
                      (try clear hk)
                      (try clear hi)
                      refine hK.out _ _ ⟨(blk_cell BK271.out 0).trans rfl, (blk_cell BK271.out 1).trans rfl, (blk_cell BK271.out 2).trans rfl⟩ (fun hHeld => ?_)
                      clear hK K
                      refine norm_ (a' := ?_) ?_ ?_
                      rotate_left
                      · show Act.put _ (some 18) _ = _
                        simp only [Act.put, List.setIfInBounds_toArray, List.set_cons_zero, List.set_cons_succ, i64_w, i32_w]
                        rfl
                      refine pz 7 20 HT_ ?_
                      refine pz 9 22 HT_ ?_
                      refine pz 10 23 HT_ ?_
                      refine pz 11 7 HT_ ?_
                      refine done_ (done_of HT_.out (by kernel_rfl)) ?_
                      try go_wp2_with (first | ((with_reducible refine gate_callee (f := 83) rfl ?_); refine goesL_ (some 27) rfl rfl Try.func83 (by kernel_rfl) rfl #[.int .i64 z276] rfl am ?_; (with_reducible refine (torchonref06_root.calls k1 z276 t278 _ A14.out).mono ?_); rintro e w' ⟨rfl, ⟨nd, rfl⟩⟩; refine ⟨_, rfl, ?_⟩; have ⟨hcz41_0, hcz41_1, hcz41_2, hfz41_0, hfz41_1, hfz41_2⟩ := cf3 BK271) | ((with_reducible refine gate_builtin (b := .append) (xs := #[.tmp 43, .tmp 55]) rfl ?_); at_builtin; refine Kd.R_append k37 (w0 := w) w.heap.size rfl (.tmp 43) (.tmp 55) 98 37 (.agg #[(.int .i64 0), (.int .i64 0)]) 16 rfl Try.underlying98 info37 rfl (by decide) (by omega) u5 x5_1 (⟨z284, x6_1⟩ : S37) [.int .i64 z284, .int .i64 x6_1] (fun _ => True) (fun _ => False) rfl rfl ?aP (fun _ hk => hk.elim) ?aF ?aO ?aB ?aS ?aL ?_; (case aP => exact k37_mkM _ _ _ (⟨z284, x6_1⟩ : S37)); (case aB => exact (bnow HB)); (case aF => exact (fun _ _ => trivial)); (case aO => exact (by (with_reducible repeat (first | apply Kd.R_alloc | apply Kd.R_drewN | apply Kd.R_drew)); exact HO_5.out)); (case aS => exact (below_size (bnow HB))); (case aL => have := LMc23.out; omega); intro v286 w42 ho hb hg hat; rw [← Ny285.out] at ho; have n0_ := Aside0.mk (blk_grown (g := gb271) (o := .cells #[.int .i64 a0_0, .int .i64 a0_1, .int .i64 a0_2] 23 (0, 0)) (pk BK271) hg (Kd.R_ne HO_5.out BK271.out (by decide))); have n1_ := Aside0.mk (hb); have n2_ := Aside0.mk (ho); clear BK271; clear HB; clear HO_5; have BK271 := n0_; have HB := n1_; have HO287 := n2_; clear n0_ n1_ n2_; clear ho hb hg hat; have ⟨hcz43_0, hcz43_1, hcz43_2, hfz43_0, hfz43_1, hfz43_2⟩ := cf3 BK271))
                      go_roundg k1
                      case measure => have := HK1.out; omega
                      case rel => exact ⟨(y285), (z296), (by first | rfl | (simp; done) | (simp [*]; done)), H', ⟨by have := HK1.out; omega⟩, ⟨by (with_reducible repeat (first | apply Kd.R_alloc | apply Kd.R_drewN | apply Kd.R_drew)); exact HO287.out⟩, ⟨pk BK271⟩, ⟨bnow HB⟩⟩
                  · rw [if_neg c24] at H
                    have c24b0 : decide (0 < t278) = false := decide_eq_false c24
                    clear c24
                    obtain ⟨z297, E440, H⟩ := oc H
                    have E44w : (IntKind.i64.wrap (x6_1 + 1)) = z297 := (i64_w _).trans E440
                    have H' := Aside0.mk H
                    clear H
                    try go_wp2
                    replace HO_5 := Aside0.mk (Kd.R_drew HO_5.out)
                    replace BK271 := bd BK271
                    replace HB := bdn HB
                    refine start_ (n := 12) (S := fun w' => w'.cell? ⟨gb271, 0, none⟩ = some (.int .i64 a0_0) ∧ w'.cell? ⟨gb271, 1, none⟩ = some (.int .i64 a0_1) ∧ w'.cell? ⟨gb271, 2, none⟩ = some (.int .i64 a0_2)) (ds := []) #[false, false, false, false, false, false, false, false, false, false, false, false] (by kernel_rfl) rfl rfl ⟨(blk_cell BK271.out 0).trans rfl, (blk_cell BK271.out 1).trans rfl, (blk_cell BK271.out 2).trans rfl⟩ (fun hHeld => ?_); refine with_tabW torchonref06_Steps.tab5 torchonref06_Steps.bits5 (fun HT_ HW_ => ?_)
                    generalize wr.drew = w45 at HO_5 BK271 HB hHeld ⊢
                    refine pz 0 13 HT_ ?_
                    refine pz 2 15 HT_ ?_
                    refine pz 6 19 HT_ ?_
                    refine pz 8 21 HT_ ?_
                    refine tz 1 14 HT_ HW_ hHeld ?_
                    refine pz 3 16 HT_ ?_
                    refine tz 4 17 HT_ HW_ hHeld ?_
                    refine one_ (i := 5) (N := some 18) #[true, true, true, true, true, true, true, false, true, false, false, false] rfl rfl (one_of HT_.out (by kernel_rfl)) (by decide) (fun K hK => ?_)
                    refine gs _ Try.func72 (torchonref06_Det.calls a0_0 a0_1 a0_2 t273 _ A6.out) ?_
                    rintro e w46 ⟨rfl, hb⟩
                    refine ⟨_, rfl, ?_⟩
                    have n0_ := Aside0.mk (Kd.R_below (by (with_reducible repeat (first | apply Kd.R_alloc | apply Kd.R_drewN | apply Kd.R_drew)); exact HO_5.out) hb)
                    have n1_ := bb BK271 hb
                    have n2_ := bst HB hb
                    clear HO_5
                    clear BK271
                    clear HB
                    have HO_5 := n0_
                    have BK271 := n1_
                    have HB := n2_
                    clear n0_ n1_ n2_
                    (try clear hb)
                    (try clear hb2)
                    (try clear hk)
                    (try clear hi)
                    refine hK.out _ _ ⟨(blk_cell BK271.out 0).trans rfl, (blk_cell BK271.out 1).trans rfl, (blk_cell BK271.out 2).trans rfl⟩ (fun hHeld => ?_)
                    clear hK K
                    refine norm_ (a' := ?_) ?_ ?_
                    rotate_left
                    · show Act.put _ (some 18) _ = _
                      simp only [Act.put, List.setIfInBounds_toArray, List.set_cons_zero, List.set_cons_succ, i64_w, i32_w]
                      rfl
                    refine pz 7 20 HT_ ?_
                    refine pz 9 22 HT_ ?_
                    refine pz 10 23 HT_ ?_
                    refine pz 11 7 HT_ ?_
                    refine done_ (done_of HT_.out (by kernel_rfl)) ?_
                    try go_wp2_with (first | ((with_reducible refine gate_callee (f := 83) rfl ?_); refine goesL_ (some 27) rfl rfl Try.func83 (by kernel_rfl) rfl #[.int .i64 z276] rfl am ?_; (with_reducible refine (torchonref06_root.calls k1 z276 t278 _ A14.out).mono ?_); rintro e w' ⟨rfl, ⟨nd, rfl⟩⟩; refine ⟨_, rfl, ?_⟩; have ⟨hcz47_0, hcz47_1, hcz47_2, hfz47_0, hfz47_1, hfz47_2⟩ := cf3 BK271) | ((with_reducible refine gate_builtin (b := .append) (xs := #[.tmp 43, .tmp 55]) rfl ?_); at_builtin; refine Kd.R_append k37 (w0 := w) w.heap.size rfl (.tmp 43) (.tmp 55) 98 37 (.agg #[(.int .i64 0), (.int .i64 0)]) 16 rfl Try.underlying98 info37 rfl (by decide) (by omega) u5 x5_1 (⟨z284, x6_1⟩ : S37) [.int .i64 z284, .int .i64 x6_1] (fun _ => True) (fun _ => False) rfl rfl ?aP (fun _ hk => hk.elim) ?aF ?aO ?aB ?aS ?aL ?_; (case aP => exact k37_mkM _ _ _ (⟨z284, x6_1⟩ : S37)); (case aB => exact (bnow HB)); (case aF => exact (fun _ _ => trivial)); (case aO => exact (by (with_reducible repeat (first | apply Kd.R_alloc | apply Kd.R_drewN | apply Kd.R_drew)); exact HO_5.out)); (case aS => exact (below_size (bnow HB))); (case aL => have := LMc23.out; omega); intro v286 w48 ho hb hg hat; rw [← Ny285.out] at ho; have n0_ := Aside0.mk (blk_grown (g := gb271) (o := .cells #[.int .i64 a0_0, .int .i64 a0_1, .int .i64 a0_2] 23 (0, 0)) (pk BK271) hg (Kd.R_ne HO_5.out BK271.out (by decide))); have n1_ := Aside0.mk (hb); have n2_ := Aside0.mk (ho); clear BK271; clear HB; clear HO_5; have BK271 := n0_; have HB := n1_; have HO287 := n2_; clear n0_ n1_ n2_; clear ho hb hg hat))
                    go_roundg k1
                    case measure => have := HK1.out; omega
                    case rel => exact ⟨(y285), (z297), (by first | rfl | (simp; done) | (simp [*]; done)), H', ⟨by have := HK1.out; omega⟩, ⟨by (with_reducible repeat (first | apply Kd.R_alloc | apply Kd.R_drewN | apply Kd.R_drew)); exact HO287.out⟩, ⟨pk BK271⟩, ⟨bnow HB⟩⟩
                · rw [if_neg c23] at H
                  exact absurd H (by simp)
              · rw [if_neg c21] at H
                have c21b0 : (z283 == 0) = false := beq_eq_false_iff_ne.mpr c21
                have c21b1 : (z283 != 0) = true := bne_iff_ne.mpr c21
                by_cases c49 : t278 > 0
                · rw [if_pos c49] at H
                  have c49b0 : decide (0 < t278) = true := decide_eq_true c49
                  clear c49
                  obtain ⟨z298, E500, H⟩ := oc H
                  have E50w : (IntKind.i64.wrap (t278 + z281)) = z298 := (i64_w _).trans E500
                  obtain ⟨z299, E510, H⟩ := oc H
                  by_cases c52 : z299 = 0
                  · rw [if_pos c52] at H
                    have c52b0 : (z299 == 0) = true := beq_iff_eq.mpr c52
                    have c52b1 : (z299 != 0) = false := bne_eq_false_iff_eq.mpr c52
                    clear c52
                    obtain ⟨z300, E530, H⟩ := oc H
                    have E53w : (IntKind.i64.wrap (-z298)) = z300 := (i64_w _).trans E530
                    obtain ⟨z301, E540, H⟩ := oc H
                    have E54w : (IntKind.i64.wrap (Int.tdiv z300 a0_0)) = z301 := (i64_w _).trans E540
                    by_cases c55 : x5_1.length < 8796093022208
                    · rw [if_pos c55] at H
                      have LMc55 := Aside0.mk c55
                      clear c55
                      obtain ⟨y302, hy302⟩ : ∃ y_ : List (S37), y_ = (x5_1 ++ [(⟨z301, x6_1⟩ : S37)]) := ⟨_, rfl⟩
                      replace H : ((some (wrap64 (x6_1 + 1))).bind fun z305 => (torchonref06_Steps.l0 k1 a1 y302 z305 a0_0 a0_1 a0_2)) = some r := by first | (rw [hy302]; with_reducible exact H) | (have H2_ := (Option.bind_some _ _).symm.trans H; rw [hy302]; with_reducible exact H2_) | (have H2_ := (Option.bind_some _ _).symm.trans H; with_reducible exact H2_) | with_reducible exact H | (rw [hy302]; exact H) | exact H
                      have Ny302 := Aside0.mk hy302
                      clear hy302
                      obtain ⟨z305, E560, H⟩ := oc H
                      have E56w : (IntKind.i64.wrap (x6_1 + 1)) = z305 := (i64_w _).trans E560
                      have H' := Aside0.mk H
                      clear H
                      try go_wp2
                      replace HO_5 := Aside0.mk (Kd.R_drew HO_5.out)
                      replace BK271 := bd BK271
                      replace HB := bdn HB
                      refine start_ (n := 12) (S := fun w' => w'.cell? ⟨gb271, 0, none⟩ = some (.int .i64 a0_0) ∧ w'.cell? ⟨gb271, 1, none⟩ = some (.int .i64 a0_1) ∧ w'.cell? ⟨gb271, 2, none⟩ = some (.int .i64 a0_2)) (ds := []) #[false, false, false, false, false, false, false, false, false, false, false, false] (by kernel_rfl) rfl rfl ⟨(blk_cell BK271.out 0).trans rfl, (blk_cell BK271.out 1).trans rfl, (blk_cell BK271.out 2).trans rfl⟩ (fun hHeld => ?_); refine with_tabW torchonref06_Steps.tab5 torchonref06_Steps.bits5 (fun HT_ HW_ => ?_)
                      generalize wr.drew = w57 at HO_5 BK271 HB hHeld ⊢
                      refine pz 0 13 HT_ ?_
                      refine pz 2 15 HT_ ?_
                      refine pz 6 19 HT_ ?_
                      refine pz 8 21 HT_ ?_
                      refine tz 1 14 HT_ HW_ hHeld ?_
                      refine pz 3 16 HT_ ?_
                      refine tz 4 17 HT_ HW_ hHeld ?_
                      refine one_ (i := 5) (N := some 18) #[true, true, true, true, true, true, true, false, true, false, false, false] rfl rfl (one_of HT_.out (by kernel_rfl)) (by decide) (fun K hK => ?_)
                      refine gs _ Try.func72 (torchonref06_Det.calls a0_0 a0_1 a0_2 t273 _ A6.out) ?_
                      rintro e w58 ⟨rfl, hb⟩
                      refine ⟨_, rfl, ?_⟩
                      have n0_ := Aside0.mk (Kd.R_below (by (with_reducible repeat (first | apply Kd.R_alloc | apply Kd.R_drewN | apply Kd.R_drew)); exact HO_5.out) hb)
                      have n1_ := bb BK271 hb
                      have n2_ := bst HB hb
                      clear HO_5
                      clear BK271
                      clear HB
                      have HO_5 := n0_
                      have BK271 := n1_
                      have HB := n2_
                      clear n0_ n1_ n2_
                      (try clear hb)
                      (try clear hb2)
                      (try clear hk)
                      (try clear hi)
                      refine hK.out _ _ ⟨(blk_cell BK271.out 0).trans rfl, (blk_cell BK271.out 1).trans rfl, (blk_cell BK271.out 2).trans rfl⟩ (fun hHeld => ?_)
                      clear hK K
                      refine norm_ (a' := ?_) ?_ ?_
                      rotate_left
                      · show Act.put _ (some 18) _ = _
                        simp only [Act.put, List.setIfInBounds_toArray, List.set_cons_zero, List.set_cons_succ, i64_w, i32_w]
                        rfl
                      refine pz 7 20 HT_ ?_
                      refine pz 9 22 HT_ ?_
                      refine pz 10 23 HT_ ?_
                      refine pz 11 7 HT_ ?_
                      refine done_ (done_of HT_.out (by kernel_rfl)) ?_
                      try go_wp2_with (first | ((with_reducible refine gate_callee (f := 83) rfl ?_); refine goesL_ (some 27) rfl rfl Try.func83 (by kernel_rfl) rfl #[.int .i64 z276] rfl am ?_; (with_reducible refine (torchonref06_root.calls k1 z276 t278 _ A14.out).mono ?_); rintro e w' ⟨rfl, ⟨nd, rfl⟩⟩; refine ⟨_, rfl, ?_⟩; have ⟨hcz59_0, hcz59_1, hcz59_2, hfz59_0, hfz59_1, hfz59_2⟩ := cf3 BK271) | ((with_reducible refine gate_builtin (b := .append) (xs := #[.tmp 71, .tmp 84]) rfl ?_); at_builtin; refine Kd.R_append k37 (w0 := w) w.heap.size rfl (.tmp 71) (.tmp 84) 98 37 (.agg #[(.int .i64 0), (.int .i64 0)]) 16 rfl Try.underlying98 info37 rfl (by decide) (by omega) u5 x5_1 (⟨z301, x6_1⟩ : S37) [.int .i64 z301, .int .i64 x6_1] (fun _ => True) (fun _ => False) rfl rfl ?aP (fun _ hk => hk.elim) ?aF ?aO ?aB ?aS ?aL ?_; (case aP => exact k37_mkM _ _ _ (⟨z301, x6_1⟩ : S37)); (case aB => exact (bnow HB)); (case aF => exact (fun _ _ => trivial)); (case aO => exact (by (with_reducible repeat (first | apply Kd.R_alloc | apply Kd.R_drewN | apply Kd.R_drew)); exact HO_5.out)); (case aS => exact (below_size (bnow HB))); (case aL => have := LMc55.out; omega); intro v303 w60 ho hb hg hat; rw [← Ny302.out] at ho; have n0_ := Aside0.mk (blk_grown (g := gb271) (o := .cells #[.int .i64 a0_0, .int .i64 a0_1, .int .i64 a0_2] 23 (0, 0)) (pk BK271) hg (Kd.R_ne HO_5.out BK271.out (by decide))); have n1_ := Aside0.mk (hb); have n2_ := Aside0.mk (ho); clear BK271; clear HB; clear HO_5; have BK271 := n0_; have HB := n1_; have HO304 := n2_; clear n0_ n1_ n2_; clear ho hb hg hat))
                      go_roundg k1
                      case measure => have := HK1.out; omega
                      case rel => exact ⟨(y302), (z305), (by first | rfl | (simp; done) | (simp [*]; done)), H', ⟨by have := HK1.out; omega⟩, ⟨by (with_reducible repeat (first | apply Kd.R_alloc | apply Kd.R_drewN | apply Kd.R_drew)); exact HO304.out⟩, ⟨pk BK271⟩, ⟨bnow HB⟩⟩
                    · rw [if_neg c55] at H
                      exact absurd H (by simp)
                  · rw [if_neg c52] at H
                    have c52b0 : (z299 == 0) = false := beq_eq_false_iff_ne.mpr c52
                    have c52b1 : (z299 != 0) = true := bne_iff_ne.mpr c52
                    obtain ⟨z306, E610, H⟩ := oc H
                    have E61w : (IntKind.i64.wrap (x6_1 + 1)) = z306 := (i64_w _).trans E610
                    have H' := Aside0.mk H
                    clear H
                    try go_wp2
                    replace HO_5 := Aside0.mk (Kd.R_drew HO_5.out)
                    replace BK271 := bd BK271
                    replace HB := bdn HB
                    refine start_ (n := 12) (S := fun w' => w'.cell? ⟨gb271, 0, none⟩ = some (.int .i64 a0_0) ∧ w'.cell? ⟨gb271, 1, none⟩ = some (.int .i64 a0_1) ∧ w'.cell? ⟨gb271, 2, none⟩ = some (.int .i64 a0_2)) (ds := []) #[false, false, false, false, false, false, false, false, false, false, false, false] (by kernel_rfl) rfl rfl ⟨(blk_cell BK271.out 0).trans rfl, (blk_cell BK271.out 1).trans rfl, (blk_cell BK271.out 2).trans rfl⟩ (fun hHeld => ?_); refine with_tabW torchonref06_Steps.tab5 torchonref06_Steps.bits5 (fun HT_ HW_ => ?_)
                    generalize wr.drew = w62 at HO_5 BK271 HB hHeld ⊢
                    refine pz 0 13 HT_ ?_
                    refine pz 2 15 HT_ ?_
                    refine pz 6 19 HT_ ?_
                    refine pz 8 21 HT_ ?_
                    refine tz 1 14 HT_ HW_ hHeld ?_
                    refine pz 3 16 HT_ ?_
                    refine tz 4 17 HT_ HW_ hHeld ?_
                    refine one_ (i := 5) (N := some 18) #[true, true, true, true, true, true, true, false, true, false, false, false] rfl rfl (one_of HT_.out (by kernel_rfl)) (by decide) (fun K hK => ?_)
                    refine gs _ Try.func72 (torchonref06_Det.calls a0_0 a0_1 a0_2 t273 _ A6.out) ?_
                    rintro e w63 ⟨rfl, hb⟩
                    refine ⟨_, rfl, ?_⟩
                    have n0_ := Aside0.mk (Kd.R_below (by (with_reducible repeat (first | apply Kd.R_alloc | apply Kd.R_drewN | apply Kd.R_drew)); exact HO_5.out) hb)
                    have n1_ := bb BK271 hb
                    have n2_ := bst HB hb
                    clear HO_5
                    clear BK271
                    clear HB
                    have HO_5 := n0_
                    have BK271 := n1_
                    have HB := n2_
                    clear n0_ n1_ n2_
                    (try clear hb)
                    (try clear hb2)
                    (try clear hk)
                    (try clear hi)
                    refine hK.out _ _ ⟨(blk_cell BK271.out 0).trans rfl, (blk_cell BK271.out 1).trans rfl, (blk_cell BK271.out 2).trans rfl⟩ (fun hHeld => ?_)
                    clear hK K
                    refine norm_ (a' := ?_) ?_ ?_
                    rotate_left
                    · show Act.put _ (some 18) _ = _
                      simp only [Act.put, List.setIfInBounds_toArray, List.set_cons_zero, List.set_cons_succ, i64_w, i32_w]
                      rfl
                    refine pz 7 20 HT_ ?_
                    refine pz 9 22 HT_ ?_
                    refine pz 10 23 HT_ ?_
                    refine pz 11 7 HT_ ?_
                    refine done_ (done_of HT_.out (by kernel_rfl)) ?_
                    try go_wp2_with (first | ((with_reducible refine gate_callee (f := 83) rfl ?_); refine goesL_ (some 27) rfl rfl Try.func83 (by kernel_rfl) rfl #[.int .i64 z276] rfl am ?_; (with_reducible refine (torchonref06_root.calls k1 z276 t278 _ A14.out).mono ?_); rintro e w' ⟨rfl, ⟨nd, rfl⟩⟩; refine ⟨_, rfl, ?_⟩; have ⟨hcz64_0, hcz64_1, hcz64_2, hfz64_0, hfz64_1, hfz64_2⟩ := cf3 BK271))
                    go_roundg k1
                    case measure => have := HK1.out; omega
                    case rel => exact ⟨(x5_1), (z306), (by first | rfl | (simp; done) | (simp [*]; done)), H', ⟨by have := HK1.out; omega⟩, ⟨by (with_reducible repeat (first | apply Kd.R_alloc | apply Kd.R_drewN | apply Kd.R_drew)); exact HO_5.out⟩, ⟨pk BK271⟩, ⟨bnow HB⟩⟩
                · rw [if_neg c49] at H
                  have c49b0 : decide (0 < t278) = false := decide_eq_false c49
                  clear c49
                  obtain ⟨z307, E650, H⟩ := oc H
                  have E65w : (IntKind.i64.wrap (x6_1 + 1)) = z307 := (i64_w _).trans E650
                  have H' := Aside0.mk H
                  clear H
                  try go_wp2
                  replace HO_5 := Aside0.mk (Kd.R_drew HO_5.out)
                  replace BK271 := bd BK271
                  replace HB := bdn HB
                  refine start_ (n := 12) (S := fun w' => w'.cell? ⟨gb271, 0, none⟩ = some (.int .i64 a0_0) ∧ w'.cell? ⟨gb271, 1, none⟩ = some (.int .i64 a0_1) ∧ w'.cell? ⟨gb271, 2, none⟩ = some (.int .i64 a0_2)) (ds := []) #[false, false, false, false, false, false, false, false, false, false, false, false] (by kernel_rfl) rfl rfl ⟨(blk_cell BK271.out 0).trans rfl, (blk_cell BK271.out 1).trans rfl, (blk_cell BK271.out 2).trans rfl⟩ (fun hHeld => ?_); refine with_tabW torchonref06_Steps.tab5 torchonref06_Steps.bits5 (fun HT_ HW_ => ?_)
                  generalize wr.drew = w66 at HO_5 BK271 HB hHeld ⊢
                  refine pz 0 13 HT_ ?_
                  refine pz 2 15 HT_ ?_
                  refine pz 6 19 HT_ ?_
                  refine pz 8 21 HT_ ?_
                  refine tz 1 14 HT_ HW_ hHeld ?_
                  refine pz 3 16 HT_ ?_
                  refine tz 4 17 HT_ HW_ hHeld ?_
                  refine one_ (i := 5) (N := some 18) #[true, true, true, true, true, true, true, false, true, false, false, false] rfl rfl (one_of HT_.out (by kernel_rfl)) (by decide) (fun K hK => ?_)
                  refine gs _ Try.func72 (torchonref06_Det.calls a0_0 a0_1 a0_2 t273 _ A6.out) ?_
                  rintro e w67 ⟨rfl, hb⟩
                  refine ⟨_, rfl, ?_⟩
                  have n0_ := Aside0.mk (Kd.R_below (by (with_reducible repeat (first | apply Kd.R_alloc | apply Kd.R_drewN | apply Kd.R_drew)); exact HO_5.out) hb)
                  have n1_ := bb BK271 hb
                  have n2_ := bst HB hb
                  clear HO_5
                  clear BK271
                  clear HB
                  have HO_5 := n0_
                  have BK271 := n1_
                  have HB := n2_
                  clear n0_ n1_ n2_
                  (try clear hb)
                  (try clear hb2)
                  (try clear hk)
                  (try clear hi)
                  refine hK.out _ _ ⟨(blk_cell BK271.out 0).trans rfl, (blk_cell BK271.out 1).trans rfl, (blk_cell BK271.out 2).trans rfl⟩ (fun hHeld => ?_)
                  clear hK K
                  refine norm_ (a' := ?_) ?_ ?_
                  rotate_left
                  · show Act.put _ (some 18) _ = _
                    simp only [Act.put, List.setIfInBounds_toArray, List.set_cons_zero, List.set_cons_succ, i64_w, i32_w]
                    rfl
                  refine pz 7 20 HT_ ?_
                  refine pz 9 22 HT_ ?_
                  refine pz 10 23 HT_ ?_
                  refine pz 11 7 HT_ ?_
                  refine done_ (done_of HT_.out (by kernel_rfl)) ?_
                  try go_wp2_with (first | ((with_reducible refine gate_callee (f := 83) rfl ?_); refine goesL_ (some 27) rfl rfl Try.func83 (by kernel_rfl) rfl #[.int .i64 z276] rfl am ?_; (with_reducible refine (torchonref06_root.calls k1 z276 t278 _ A14.out).mono ?_); rintro e w' ⟨rfl, ⟨nd, rfl⟩⟩; refine ⟨_, rfl, ?_⟩; have ⟨hcz68_0, hcz68_1, hcz68_2, hfz68_0, hfz68_1, hfz68_2⟩ := cf3 BK271))
                  go_roundg k1
                  case measure => have := HK1.out; omega
                  case rel => exact ⟨(x5_1), (z307), (by first | rfl | (simp; done) | (simp [*]; done)), H', ⟨by have := HK1.out; omega⟩, ⟨by (with_reducible repeat (first | apply Kd.R_alloc | apply Kd.R_drewN | apply Kd.R_drew)); exact HO_5.out⟩, ⟨pk BK271⟩, ⟨bnow HB⟩⟩
          · rw [if_neg c16] at H
            have c16b0 : (z279 == z276) = false := beq_eq_false_iff_ne.mpr c16
            have c16b1 : (z279 != z276) = true := bne_iff_ne.mpr c16
            obtain ⟨z280, E690, H⟩ := oc H
            have E69w : (IntKind.i64.wrap (x6_1 + 1)) = z280 := (i64_w _).trans E690
            have H' := Aside0.mk H
            clear H
            try go_wp2
            replace HO_5 := Aside0.mk (Kd.R_drew HO_5.out)
            replace BK271 := bd BK271
            replace HB := bdn HB
            refine start_ (n := 12) (S := fun w' => w'.cell? ⟨gb271, 0, none⟩ = some (.int .i64 a0_0) ∧ w'.cell? ⟨gb271, 1, none⟩ = some (.int .i64 a0_1) ∧ w'.cell? ⟨gb271, 2, none⟩ = some (.int .i64 a0_2)) (ds := []) #[false, false, false, false, false, false, false, false, false, false, false, false] (by kernel_rfl) rfl rfl ⟨(blk_cell BK271.out 0).trans rfl, (blk_cell BK271.out 1).trans rfl, (blk_cell BK271.out 2).trans rfl⟩ (fun hHeld => ?_); refine with_tabW torchonref06_Steps.tab5 torchonref06_Steps.bits5 (fun HT_ HW_ => ?_)
            generalize wr.drew = w70 at HO_5 BK271 HB hHeld ⊢
            refine pz 0 13 HT_ ?_
            refine pz 2 15 HT_ ?_
            refine pz 6 19 HT_ ?_
            refine pz 8 21 HT_ ?_
            refine tz 1 14 HT_ HW_ hHeld ?_
            refine pz 3 16 HT_ ?_
            refine tz 4 17 HT_ HW_ hHeld ?_
            refine one_ (i := 5) (N := some 18) #[true, true, true, true, true, true, true, false, true, false, false, false] rfl rfl (one_of HT_.out (by kernel_rfl)) (by decide) (fun K hK => ?_)
            refine gs _ Try.func72 (torchonref06_Det.calls a0_0 a0_1 a0_2 t273 _ A6.out) ?_
            rintro e w71 ⟨rfl, hb⟩
            refine ⟨_, rfl, ?_⟩
            have n0_ := Aside0.mk (Kd.R_below (by (with_reducible repeat (first | apply Kd.R_alloc | apply Kd.R_drewN | apply Kd.R_drew)); exact HO_5.out) hb)
            have n1_ := bb BK271 hb
            have n2_ := bst HB hb
            clear HO_5
            clear BK271
            clear HB
            have HO_5 := n0_
            have BK271 := n1_
            have HB := n2_
            clear n0_ n1_ n2_
            (try clear hb)
            (try clear hb2)
            (try clear hk)
            (try clear hi)
            refine hK.out _ _ ⟨(blk_cell BK271.out 0).trans rfl, (blk_cell BK271.out 1).trans rfl, (blk_cell BK271.out 2).trans rfl⟩ (fun hHeld => ?_)
            clear hK K
            refine norm_ (a' := ?_) ?_ ?_
            rotate_left
            · show Act.put _ (some 18) _ = _
              simp only [Act.put, List.setIfInBounds_toArray, List.set_cons_zero, List.set_cons_succ, i64_w, i32_w]
              rfl
            refine pz 7 20 HT_ ?_
            refine pz 9 22 HT_ ?_
            refine pz 10 23 HT_ ?_
            refine pz 11 7 HT_ ?_
            refine done_ (done_of HT_.out (by kernel_rfl)) ?_
            try go_wp2_with (first | ((with_reducible refine gate_callee (f := 83) rfl ?_); refine goesL_ (some 27) rfl rfl Try.func83 (by kernel_rfl) rfl #[.int .i64 z276] rfl am ?_; (with_reducible refine (torchonref06_root.calls k1 z276 t278 _ A14.out).mono ?_); rintro e w' ⟨rfl, ⟨nd, rfl⟩⟩; refine ⟨_, rfl, ?_⟩))
            go_roundg k1
            case measure => have := HK1.out; omega
            case rel => exact ⟨(x5_1), (z280), (by first | rfl | (simp; done) | (simp [*]; done)), H', ⟨by have := HK1.out; omega⟩, ⟨by (with_reducible repeat (first | apply Kd.R_alloc | apply Kd.R_drewN | apply Kd.R_drew)); exact HO_5.out⟩, ⟨pk BK271⟩, ⟨bnow HB⟩⟩
      · rw [if_neg c4] at H
        have c4b0 : decide (x6_1 ≤ 10000) = false := decide_eq_false c4
        clear c4
        obtain rfl := Option.some.inj H
        go_wp2
        go_ret
        exact ⟨_, by first | rfl | (simp [errW_none, errW_some] <;> rfl) | (simp [*, errW_none, errW_some] <;> rfl), by (with_reducible repeat (first | apply Kd.R_alloc | apply Kd.R_drewN | apply Kd.R_drew)); exact HO_5.out, by repeat (first | (with_reducible first | exact HB.out | apply below_alloc | apply pw_below_drewN | apply below_drew1 | refine below_set ?_ GE271.out) | exact HB.out)⟩
end
section
/-! ### torchonref06_cross: function 74 -/
def torchonref06_cross.f (a0_0 : Int) (a0_1 : Int) (a1_0 : Int) (a1_1 : Int) : Option (Int) := (some (wrap64 (a0_0 * a1_1))).bind fun z310 => ((some (wrap64 (a0_1 * a1_0))).bind fun z311 => ((some (wrap64 (z310 - z311))).bind fun z312 => (some z312)))
set_option maxHeartbeats 8000000 in
set_option maxRecDepth 100000 in
theorem torchonref06_cross.calls (a0_0 : Int) (a0_1 : Int) (a1_0 : Int) (a1_1 : Int) (r : Int) (w : World) (h : torchonref06_cross.f a0_0 a0_1 a1_0 a1_1 = some r) :
    Calls Try.prog 74 #[.agg #[.int .i64 a0_0, .int .i64 a0_1], .agg #[.int .i64 a1_0, .int .i64 a1_1]] w fun e w' => e = .returned (.int .i64 r) ∧ Below w.heap.size w w' := by
  have hu37 := Try.underlying37
  have HB := Aside0.mk (Below.refl w.heap.size w)
  have H : ((some (wrap64 (a0_0 * a1_1))).bind fun z310 => ((some (wrap64 (a0_1 * a1_0))).bind fun z311 => ((some (wrap64 (z310 - z311))).bind fun z312 => (some z312)))) = some r := h
  clear h
  obtain ⟨z310, E30, H⟩ := oc H
  have E3w : (IntKind.i64.wrap (a0_0 * a1_1)) = z310 := (i64_w _).trans E30
  obtain ⟨z311, E40, H⟩ := oc H
  have E4w : (IntKind.i64.wrap (a0_1 * a1_0)) = z311 := (i64_w _).trans E40
  obtain ⟨z312, E50, H⟩ := oc H
  have E5w : (IntKind.i64.wrap (z310 - z311)) = z312 := (i64_w _).trans E50
  obtain rfl := Option.some.inj H
  go_enter Try.func74, Try.ntmps74
  go_wp2_with (first | ((with_reducible refine gate_dst (N := 2) rfl ?_); refine bx 2 #[.int .i64 a0_0, .int .i64 a0_1] 37 fun gb308 hg w6 BK308 hb => ?_; have GW308 := gw hg HB; have GE308 := gw hg HB; replace HB := bst HB hb; clear hb hg) | ((with_reducible refine gate_dst (N := 3) rfl ?_); refine bx 3 #[.int .i64 a1_0, .int .i64 a1_1] 37 fun gb309 hg w7 BK309 hb => ?_; have GW309 := gw hg HB; have GE309 := gw hg HB; have NB308_309 := nlt hg BK308; have NB309_308 := ngt hg BK308; replace BK308 := bb BK308 hb; replace HB := bst HB hb; clear hb hg; have hnb8 := NB308_309.out; have hnc8 := NB309_308.out; have ⟨hcz9_0, hcz9_1, hfz9_0, hfz9_1⟩ := cf2 BK308; have ⟨hcz10_0, hcz10_1, hfz10_0, hfz10_1⟩ := cf2 BK309))
  go_ret
  exact rt HB
end
section
/-! ### torchonref06_Less: function 75 -/
def torchonref06_Less.f (a0_0 : Int) (a0_1 : Int) (a0_2 : Int) (a0_3 : Int) (a1_0 : Int) (a1_1 : Int) (a1_2 : Int) (a1_3 : Int) : Option (Bool) := if a0_0 = a1_0 then (if a0_1 = a1_1 then (if a0_2 = a1_2 then (some (decide (a0_3 < a1_3))) else (some (decide (a0_2 < a1_2)))) else (some (decide (a0_1 < a1_1)))) else (some (decide (a0_0 < a1_0)))
set_option maxHeartbeats 8000000 in
set_option maxRecDepth 100000 in
theorem torchonref06_Less.calls (a0_0 : Int) (a0_1 : Int) (a0_2 : Int) (a0_3 : Int) (a1_0 : Int) (a1_1 : Int) (a1_2 : Int) (a1_3 : Int) (r : Bool) (w : World) (h : torchonref06_Less.f a0_0 a0_1 a0_2 a0_3 a1_0 a1_1 a1_2 a1_3 = some r) :
    Calls Try.prog 75 #[.agg #[.int .i64 a0_0, .int .i64 a0_1, .int .i64 a0_2, .int .i64 a0_3], .agg #[.int .i64 a1_0, .int .i64 a1_1, .int .i64 a1_2, .int .i64 a1_3]] w fun e w' => e = .returned (.bool r) ∧ Below w.heap.size w w' := by
  have hu25 := Try.underlying25
  have HB := Aside0.mk (Below.refl w.heap.size w)
  have H : (if a0_0 = a1_0 then (if a0_1 = a1_1 then (if a0_2 = a1_2 then (some (decide (a0_3 < a1_3))) else (some (decide (a0_2 < a1_2)))) else (some (decide (a0_1 < a1_1)))) else (some (decide (a0_0 < a1_0)))) = some r := h
  clear h
  by_cases c3 : a0_0 = a1_0
  · rw [if_pos c3] at H
    have c3b0 : (a0_0 == a1_0) = true := beq_iff_eq.mpr c3
    have c3b1 : (a0_0 != a1_0) = false := bne_eq_false_iff_eq.mpr c3
    clear c3
    by_cases c4 : a0_1 = a1_1
    · rw [if_pos c4] at H
      have c4b0 : (a0_1 == a1_1) = true := beq_iff_eq.mpr c4
      have c4b1 : (a0_1 != a1_1) = false := bne_eq_false_iff_eq.mpr c4
      clear c4
      by_cases c5 : a0_2 = a1_2
      · rw [if_pos c5] at H
        have c5b0 : (a0_2 == a1_2) = true := beq_iff_eq.mpr c5
        have c5b1 : (a0_2 != a1_2) = false := bne_eq_false_iff_eq.mpr c5
        clear c5
        obtain rfl := Option.some.inj H
        go_enter Try.func75, Try.ntmps75
        go_wp2_with (first | ((with_reducible refine gate_dst (N := 2) rfl ?_); refine bx 2 #[.int .i64 a0_0, .int .i64 a0_1, .int .i64 a0_2, .int .i64 a0_3] 25 fun gb313 hg w6 BK313 hb => ?_; have GW313 := gw hg HB; have GE313 := gw hg HB; replace HB := bst HB hb; clear hb hg) | ((with_reducible refine gate_dst (N := 3) rfl ?_); refine bx 3 #[.int .i64 a1_0, .int .i64 a1_1, .int .i64 a1_2, .int .i64 a1_3] 25 fun gb314 hg w7 BK314 hb => ?_; have GW314 := gw hg HB; have GE314 := gw hg HB; have NB313_314 := nlt hg BK313; have NB314_313 := ngt hg BK313; replace BK313 := bb BK313 hb; replace HB := bst HB hb; clear hb hg; have hnb8 := NB313_314.out; have hnc8 := NB314_313.out; have ⟨hcz9_0, hcz9_1, hcz9_2, hcz9_3, hfz9_0, hfz9_1, hfz9_2, hfz9_3⟩ := cf4 BK313; have ⟨hcz10_0, hcz10_1, hcz10_2, hcz10_3, hfz10_0, hfz10_1, hfz10_2, hfz10_3⟩ := cf4 BK314))
        go_ret
        exact rt HB
      · rw [if_neg c5] at H
        have c5b0 : (a0_2 == a1_2) = false := beq_eq_false_iff_ne.mpr c5
        have c5b1 : (a0_2 != a1_2) = true := bne_iff_ne.mpr c5
        obtain rfl := Option.some.inj H
        go_enter Try.func75, Try.ntmps75
        go_wp2_with (first | ((with_reducible refine gate_dst (N := 2) rfl ?_); refine bx 2 #[.int .i64 a0_0, .int .i64 a0_1, .int .i64 a0_2, .int .i64 a0_3] 25 fun gb313 hg w11 BK313 hb => ?_; have GW313 := gw hg HB; have GE313 := gw hg HB; replace HB := bst HB hb; clear hb hg) | ((with_reducible refine gate_dst (N := 3) rfl ?_); refine bx 3 #[.int .i64 a1_0, .int .i64 a1_1, .int .i64 a1_2, .int .i64 a1_3] 25 fun gb314 hg w12 BK314 hb => ?_; have GW314 := gw hg HB; have GE314 := gw hg HB; have NB313_314 := nlt hg BK313; have NB314_313 := ngt hg BK313; replace BK313 := bb BK313 hb; replace HB := bst HB hb; clear hb hg; have hnb13 := NB313_314.out; have hnc13 := NB314_313.out; have ⟨hcz14_0, hcz14_1, hcz14_2, hcz14_3, hfz14_0, hfz14_1, hfz14_2, hfz14_3⟩ := cf4 BK313; have ⟨hcz15_0, hcz15_1, hcz15_2, hcz15_3, hfz15_0, hfz15_1, hfz15_2, hfz15_3⟩ := cf4 BK314))
        go_ret
        exact rt HB
    · rw [if_neg c4] at H
      have c4b0 : (a0_1 == a1_1) = false := beq_eq_false_iff_ne.mpr c4
      have c4b1 : (a0_1 != a1_1) = true := bne_iff_ne.mpr c4
      obtain rfl := Option.some.inj H
      go_enter Try.func75, Try.ntmps75
      go_wp2_with (first | ((with_reducible refine gate_dst (N := 2) rfl ?_); refine bx 2 #[.int .i64 a0_0, .int .i64 a0_1, .int .i64 a0_2, .int .i64 a0_3] 25 fun gb313 hg w16 BK313 hb => ?_; have GW313 := gw hg HB; have GE313 := gw hg HB; replace HB := bst HB hb; clear hb hg) | ((with_reducible refine gate_dst (N := 3) rfl ?_); refine bx 3 #[.int .i64 a1_0, .int .i64 a1_1, .int .i64 a1_2, .int .i64 a1_3] 25 fun gb314 hg w17 BK314 hb => ?_; have GW314 := gw hg HB; have GE314 := gw hg HB; have NB313_314 := nlt hg BK313; have NB314_313 := ngt hg BK313; replace BK313 := bb BK313 hb; replace HB := bst HB hb; clear hb hg; have hnb18 := NB313_314.out; have hnc18 := NB314_313.out; have ⟨hcz19_0, hcz19_1, hcz19_2, hcz19_3, hfz19_0, hfz19_1, hfz19_2, hfz19_3⟩ := cf4 BK313; have ⟨hcz20_0, hcz20_1, hcz20_2, hcz20_3, hfz20_0, hfz20_1, hfz20_2, hfz20_3⟩ := cf4 BK314))
      go_ret
      exact rt HB
  · rw [if_neg c3] at H
    have c3b0 : (a0_0 == a1_0) = false := beq_eq_false_iff_ne.mpr c3
    have c3b1 : (a0_0 != a1_0) = true := bne_iff_ne.mpr c3
    obtain rfl := Option.some.inj H
    go_enter Try.func75, Try.ntmps75
    go_wp2_with (first | ((with_reducible refine gate_dst (N := 2) rfl ?_); refine bx 2 #[.int .i64 a0_0, .int .i64 a0_1, .int .i64 a0_2, .int .i64 a0_3] 25 fun gb313 hg w21 BK313 hb => ?_; have GW313 := gw hg HB; have GE313 := gw hg HB; replace HB := bst HB hb; clear hb hg) | ((with_reducible refine gate_dst (N := 3) rfl ?_); refine bx 3 #[.int .i64 a1_0, .int .i64 a1_1, .int .i64 a1_2, .int .i64 a1_3] 25 fun gb314 hg w22 BK314 hb => ?_; have GW314 := gw hg HB; have GE314 := gw hg HB; have NB313_314 := nlt hg BK313; have NB314_313 := ngt hg BK313; replace BK313 := bb BK313 hb; replace HB := bst HB hb; clear hb hg; have hnb23 := NB313_314.out; have hnc23 := NB314_313.out; have ⟨hcz24_0, hcz24_1, hcz24_2, hcz24_3, hfz24_0, hfz24_1, hfz24_2, hfz24_3⟩ := cf4 BK313; have ⟨hcz25_0, hcz25_1, hcz25_2, hcz25_3, hfz25_0, hfz25_1, hfz25_2, hfz25_3⟩ := cf4 BK314))
    go_ret
    exact rt HB
end
section
/-! ### torchonref06_Leading: function 45 -/
mutual
def torchonref06_Leading.l0 : Nat → List (S37) → List (S37) → List (S25) → Int → Int → Int → Int → Int → Int → Int → Option ((List (S25)))
  | 0, _, _, _, _, _, _, _, _, _, _ => none
  | k + 1, x5, x6, x7, x8, x316000, x316001, x316002, x317000, x317001, x317002 => if x8 < (x5.length : Int) then (torchonref06_Leading.l1 k x5 x6 x7 x8 0 x316000 x316001 x316002 x317000 x317001 x317002) else (some x7)
def torchonref06_Leading.l1 : Nat → List (S37) → List (S37) → List (S25) → Int → Int → Int → Int → Int → Int → Int → Int → Option ((List (S25)))
  | 0, _, _, _, _, _, _, _, _, _, _, _ => none
  | k + 1, x5, x6, x7, x8, x9, x316000, x316001, x316002, x317000, x317001, x317002 => if x9 < (x6.length : Int) then (if 0 ≤ x8 then (if x8 < (x5.length : Int) then (if 0 ≤ x9 then ((torchonref06_cross.f ((rd_T37 x5 x8).f0) ((rd_T37 x5 x8).f1) ((rd_T37 x6 x9).f0) ((rd_T37 x6 x9).f1)).bind fun t326 => ((torchonref06_Product.f x316000 x316001 x316002 ((rd_T37 x5 x8).f0) ((rd_T37 x5 x8).f1) ((rd_T37 x6 x9).f0) ((rd_T37 x6 x9).f1)).bind fun t329 => (if t329 = x317001 then (if t326 = 1 then (torchonref06_Leading.j2 k x5 x6 x7 x8 x9 false x316000 x316001 x316002 x317000 x317001 x317002) else (torchonref06_Leading.j2 k x5 x6 x7 x8 x9 (t326 != (-1)) x316000 x316001 x316002 x317000 x317001 x317002)) else (torchonref06_Leading.j2 k x5 x6 x7 x8 x9 true x316000 x316001 x316002 x317000 x317001 x317002)))) else (none)) else (none)) else (none)) else ((some (wrap64 (x8 + 1))).bind fun z323 => (torchonref06_Leading.l0 k x5 x6 x7 z323 x316000 x316001 x316002 x317000 x317001 x317002))
def torchonref06_Leading.j2 : Nat → List (S37) → List (S37) → List (S25) → Int → Int → Bool → Int → Int → Int → Int → Int → Int → Option ((List (S25)))
  | 0, _, _, _, _, _, _, _, _, _, _, _, _ => none
  | k + 1, x5, x6, x7, x8, x9, x63, x316000, x316001, x316002, x317000, x317001, x317002 => if x63 = true then ((some (wrap64 (x9 + 1))).bind fun z330 => (torchonref06_Leading.l1 k x5 x6 x7 x8 z330 x316000 x316001 x316002 x317000 x317001 x317002)) else (if 0 ≤ x8 then (if x8 < (x5.length : Int) then (if 0 ≤ x9 then (if x9 < (x6.length : Int) then (torchonref06_Leading.l2 k x5 x6 x7 x8 x9 0 x316000 x316001 x316002 x317000 x317001 x317002 ((rd_T37 x5 x8).f0) ((rd_T37 x6 x9).f0) ((rd_T37 x5 x8).f1) ((rd_T37 x6 x9).f1)) else (none)) else (none)) else (none)) else (none))
def torchonref06_Leading.l2 : Nat → List (S37) → List (S37) → List (S25) → Int → Int → Int → Int → Int → Int → Int → Int → Int → Int → Int → Int → Int → Option ((List (S25)))
  | 0, _, _, _, _, _, _, _, _, _, _, _, _, _, _, _, _ => none
  | k + 1, x5, x6, x7, x8, x9, x12, x316000, x316001, x316002, x317000, x317001, x317002, x336000, x336001, x336002, x336003 => if x12 < (x7.length : Int) then (if 0 ≤ x12 then ((torchonref06_Less.f ((rd_T25 x7 x12).f0) ((rd_T25 x7 x12).f1) ((rd_T25 x7 x12).f2) ((rd_T25 x7 x12).f3) x336000 x336001 x336002 x336003).bind fun t337 => (if t337 = true then ((some (wrap64 (x12 + 1))).bind fun z338 => (torchonref06_Leading.l2 k x5 x6 x7 x8 x9 z338 x316000 x316001 x316002 x317000 x317001 x317002 x336000 x336001 x336002 x336003)) else ((some (([] : List (S25)) : List (S25))).bind fun y339 => (if x12 ≤ (x7.length : Int) then ((some (x7.take (x12 : Int).toNat : List (S25))).bind fun y342 => (if y339.length + y342.length < 4398046511104 then ((some (y339 ++ y342 : List (S25))).bind fun y346 => (if y346.length < 4398046511104 then ((some (y346 ++ [(⟨x336000, x336001, x336002, x336003⟩ : S25)] : List (S25))).bind fun y349 => ((some (x7.drop (x12 : Int).toNat : List (S25))).bind fun y352 => (if y349.length + y352.length < 4398046511104 then ((some (wrap64 (x9 + 1))).bind fun z359 => (torchonref06_Leading.l1 k x5 x6 (y349 ++ y352) x8 z359 x316000 x316001 x316002 x317000 x317001 x317002)) else (none)))) else (none))) else (none))) else (none))))) else (none)) else ((some (([] : List (S25)) : List (S25))).bind fun y360 => (if 0 ≤ x12 then (if x12 ≤ (x7.length : Int) then ((some (x7.take (x12 : Int).toNat : List (S25))).bind fun y363 => (if y360.length + y363.length < 4398046511104 then ((some (y360 ++ y363 : List (S25))).bind fun y367 => (if y367.length < 4398046511104 then ((some (y367 ++ [(⟨x336000, x336001, x336002, x336003⟩ : S25)] : List (S25))).bind fun y370 => ((some (x7.drop (x12 : Int).toNat : List (S25))).bind fun y373 => (if y370.length + y373.length < 4398046511104 then ((some (wrap64 (x9 + 1))).bind fun z380 => (torchonref06_Leading.l1 k x5 x6 (y370 ++ y373) x8 z380 x316000 x316001 x316002 x317000 x317001 x317002)) else (none)))) else (none))) else (none))) else (none)) else (none)))
end
def torchonref06_Leading.f (k : Nat) (a0_0 : Int) (a0_1 : Int) (a0_2 : Int) (a1_0 : Int) (a1_1 : Int) (a1_2 : Int) : Option ((List (S25))) := (torchonref06_Steps.f k a0_0 a0_1 a0_2 a1_0).bind fun t317 => ((torchonref06_Steps.f k a0_0 a0_1 a0_2 a1_2).bind fun t320 => (torchonref06_Leading.l0 k t317 t320 ([] : List (S25)) 0 a0_0 a0_1 a0_2 a1_0 a1_1 a1_2))
theorem torchonref06_Leading.mono_l : ∀ k, (∀ y0 y1 y2 y3 y4 y5 y6 y7 y8 y9, LeO (torchonref06_Leading.l0 k y0 y1 y2 y3 y4 y5 y6 y7 y8 y9) (torchonref06_Leading.l0 (k + 1) y0 y1 y2 y3 y4 y5 y6 y7 y8 y9)) ∧ (∀ y0 y1 y2 y3 y4 y5 y6 y7 y8 y9 y10, LeO (torchonref06_Leading.l1 k y0 y1 y2 y3 y4 y5 y6 y7 y8 y9 y10) (torchonref06_Leading.l1 (k + 1) y0 y1 y2 y3 y4 y5 y6 y7 y8 y9 y10)) ∧ (∀ y0 y1 y2 y3 y4 y5 y6 y7 y8 y9 y10 y11, LeO (torchonref06_Leading.j2 k y0 y1 y2 y3 y4 y5 y6 y7 y8 y9 y10 y11) (torchonref06_Leading.j2 (k + 1) y0 y1 y2 y3 y4 y5 y6 y7 y8 y9 y10 y11)) ∧ (∀ y0 y1 y2 y3 y4 y5 y6 y7 y8 y9 y10 y11 y12 y13 y14 y15, LeO (torchonref06_Leading.l2 k y0 y1 y2 y3 y4 y5 y6 y7 y8 y9 y10 y11 y12 y13 y14 y15) (torchonref06_Leading.l2 (k + 1) y0 y1 y2 y3 y4 y5 y6 y7 y8 y9 y10 y11 y12 y13 y14 y15))
  | 0 => ⟨fun _ _ _ _ _ _ _ _ _ _ r h => by simp [torchonref06_Leading.l0] at h, fun _ _ _ _ _ _ _ _ _ _ _ r h => by simp [torchonref06_Leading.l1] at h, fun _ _ _ _ _ _ _ _ _ _ _ _ r h => by simp [torchonref06_Leading.j2] at h, fun _ _ _ _ _ _ _ _ _ _ _ _ _ _ _ _ r h => by simp [torchonref06_Leading.l2] at h⟩
  | k + 1 => by
    obtain ⟨ih0, ih1, ih2, ih3⟩ := torchonref06_Leading.mono_l k
    refine ⟨?_, ?_, ?_, ?_⟩
    · intro y0 y1 y2 y3 y4 y5 y6 y7 y8 y9
      unfold torchonref06_Leading.l0
      repeat' first
      | (with_reducible exact ih0 _ _ _ _ _ _ _ _ _ _)
      | (with_reducible exact ih1 _ _ _ _ _ _ _ _ _ _ _)
      | (with_reducible exact ih2 _ _ _ _ _ _ _ _ _ _ _ _)
      | (with_reducible exact ih3 _ _ _ _ _ _ _ _ _ _ _ _ _ _ _ _)
      | (with_reducible exact torchonref06_Steps.mono _ _ _ _ _)
      | (with_reducible exact LeO.refl _)
      | (with_reducible exact LeO.none _)
      | (with_reducible refine LeO.ite ?_ ?_)
      | (with_reducible refine LeO.bind ?_ (fun _ => ?_))
      | exact ih0 _ _ _ _ _ _ _ _ _ _
      | exact ih1 _ _ _ _ _ _ _ _ _ _ _
      | exact ih2 _ _ _ _ _ _ _ _ _ _ _ _
      | exact ih3 _ _ _ _ _ _ _ _ _ _ _ _ _ _ _ _
      | exact torchonref06_Steps.mono _ _ _ _ _
      | exact LeO.none _
      | refine LeO.ite ?_ ?_
      | refine LeO.bind ?_ (fun _ => ?_)
    · intro y0 y1 y2 y3 y4 y5 y6 y7 y8 y9 y10
      unfold torchonref06_Leading.l1
      repeat' first
      | (with_reducible exact ih0 _ _ _ _ _ _ _ _ _ _)
      | (with_reducible exact ih1 _ _ _ _ _ _ _ _ _ _ _)
      | (with_reducible exact ih2 _ _ _ _ _ _ _ _ _ _ _ _)
      | (with_reducible exact ih3 _ _ _ _ _ _ _ _ _ _ _ _ _ _ _ _)
      | (with_reducible exact torchonref06_Steps.mono _ _ _ _ _)
      | (with_reducible exact LeO.refl _)
      | (with_reducible exact LeO.none _)
      | (with_reducible refine LeO.ite ?_ ?_)
      | (with_reducible refine LeO.bind ?_ (fun _ => ?_))
      | exact ih0 _ _ _ _ _ _ _ _ _ _
      | exact ih1 _ _ _ _ _ _ _ _ _ _ _
      | exact ih2 _ _ _ _ _ _ _ _ _ _ _ _
      | exact ih3 _ _ _ _ _ _ _ _ _ _ _ _ _ _ _ _
      | exact torchonref06_Steps.mono _ _ _ _ _
      | exact LeO.none _
      | refine LeO.ite ?_ ?_
      | refine LeO.bind ?_ (fun _ => ?_)
    · intro y0 y1 y2 y3 y4 y5 y6 y7 y8 y9 y10 y11
      unfold torchonref06_Leading.j2
      repeat' first
      | (with_reducible exact ih0 _ _ _ _ _ _ _ _ _ _)
      | (with_reducible exact ih1 _ _ _ _ _ _ _ _ _ _ _)
      | (with_reducible exact ih2 _ _ _ _ _ _ _ _ _ _ _ _)
      | (with_reducible exact ih3 _ _ _ _ _ _ _ _ _ _ _ _ _ _ _ _)
      | (with_reducible exact torchonref06_Steps.mono _ _ _ _ _)
      | (with_reducible exact LeO.refl _)
      | (with_reducible exact LeO.none _)
      | (with_reducible refine LeO.ite ?_ ?_)
      | (with_reducible refine LeO.bind ?_ (fun _ => ?_))
      | exact ih0 _ _ _ _ _ _ _ _ _ _
      | exact ih1 _ _ _ _ _ _ _ _ _ _ _
      | exact ih2 _ _ _ _ _ _ _ _ _ _ _ _
      | exact ih3 _ _ _ _ _ _ _ _ _ _ _ _ _ _ _ _
      | exact torchonref06_Steps.mono _ _ _ _ _
      | exact LeO.none _
      | refine LeO.ite ?_ ?_
      | refine LeO.bind ?_ (fun _ => ?_)
    · intro y0 y1 y2 y3 y4 y5 y6 y7 y8 y9 y10 y11 y12 y13 y14 y15
      unfold torchonref06_Leading.l2
      repeat' first
      | (with_reducible exact ih0 _ _ _ _ _ _ _ _ _ _)
      | (with_reducible exact ih1 _ _ _ _ _ _ _ _ _ _ _)
      | (with_reducible exact ih2 _ _ _ _ _ _ _ _ _ _ _ _)
      | (with_reducible exact ih3 _ _ _ _ _ _ _ _ _ _ _ _ _ _ _ _)
      | (with_reducible exact torchonref06_Steps.mono _ _ _ _ _)
      | (with_reducible exact LeO.refl _)
      | (with_reducible exact LeO.none _)
      | (with_reducible refine LeO.ite ?_ ?_)
      | (with_reducible refine LeO.bind ?_ (fun _ => ?_))
      | exact ih0 _ _ _ _ _ _ _ _ _ _
      | exact ih1 _ _ _ _ _ _ _ _ _ _ _
      | exact ih2 _ _ _ _ _ _ _ _ _ _ _ _
      | exact ih3 _ _ _ _ _ _ _ _ _ _ _ _ _ _ _ _
      | exact torchonref06_Steps.mono _ _ _ _ _
      | exact LeO.none _
      | refine LeO.ite ?_ ?_
      | refine LeO.bind ?_ (fun _ => ?_)
theorem torchonref06_Leading.mono : ∀ a0 a1 a2 a3 a4 a5 k, LeO (torchonref06_Leading.f k a0 a1 a2 a3 a4 a5) (torchonref06_Leading.f (k + 1) a0 a1 a2 a3 a4 a5) := by
  intro a0 a1 a2 a3 a4 a5 k
  obtain ⟨ih0, ih1, ih2, ih3⟩ := torchonref06_Leading.mono_l k
  unfold torchonref06_Leading.f
  repeat' first
      | (with_reducible exact ih0 _ _ _ _ _ _ _ _ _ _)
      | (with_reducible exact ih1 _ _ _ _ _ _ _ _ _ _ _)
      | (with_reducible exact ih2 _ _ _ _ _ _ _ _ _ _ _ _)
      | (with_reducible exact ih3 _ _ _ _ _ _ _ _ _ _ _ _ _ _ _ _)
      | (with_reducible exact torchonref06_Steps.mono _ _ _ _ _)
      | (with_reducible exact LeO.refl _)
      | (with_reducible exact LeO.none _)
      | (with_reducible refine LeO.ite ?_ ?_)
      | (with_reducible refine LeO.bind ?_ (fun _ => ?_))
      | exact ih0 _ _ _ _ _ _ _ _ _ _
      | exact ih1 _ _ _ _ _ _ _ _ _ _ _
      | exact ih2 _ _ _ _ _ _ _ _ _ _ _ _
      | exact ih3 _ _ _ _ _ _ _ _ _ _ _ _ _ _ _ _
      | exact torchonref06_Steps.mono _ _ _ _ _
      | exact LeO.none _
      | refine LeO.ite ?_ ?_
      | refine LeO.bind ?_ (fun _ => ?_)
def torchonref06_Leading.T1 : Bool × List (List Nat × List Nat) := (true, [([], []), ([], []), ([1], [1]), ([0, 2], [0, 2]), ([], []), ([], []), ([5], [5]), ([4, 6, 3], [4, 6]), ([3, 7, 0, 1, 2, 3], [3]), ([7, 8, 0, 1, 2, 3, 4, 5, 6, 7, 8], [7])])
def torchonref06_Leading.B1 : List Nat := [0, 0, 2, 7, 0, 0, 32, 127, 255, 511]
theorem torchonref06_Leading.tab1 : rtab .any (opsOf Try.f45 1) = torchonref06_Leading.T1 := by kernel_rfl
theorem torchonref06_Leading.bits1 : waitsOk torchonref06_Leading.T1.2 torchonref06_Leading.B1 = true := by kernel_rfl
def torchonref06_Leading.T9 : Bool × List (List Nat × List Nat) := (true, [([], []), ([], []), ([0, 1], [0, 1]), ([2], [2]), ([], []), ([], []), ([4, 5], [4, 5]), ([6], [6]), ([3, 7], [3, 7]), ([8, 8, 0, 1, 2, 3, 4, 5, 6, 7, 8], [8])])
def torchonref06_Leading.B9 : List Nat := [0, 0, 3, 7, 0, 0, 48, 112, 255, 511]
theorem torchonref06_Leading.tab9 : rtab .any (opsOf Try.f45 9) = torchonref06_Leading.T9 := by kernel_rfl
theorem torchonref06_Leading.bits9 : waitsOk torchonref06_Leading.T9.2 torchonref06_Leading.B9 = true := by kernel_rfl
def torchonref06_Leading.T10 : Bool × List (List Nat × List Nat) := (true, [([], []), ([], []), ([], []), ([1, 2], [1, 2]), ([3], [3]), ([], []), ([], []), ([5, 6], [5, 6]), ([7], [7]), ([0, 4, 8], [0, 4, 8]), ([], []), ([10], [10]), ([9, 11], [9, 11]), ([12, 9], [12]), ([13], [13]), ([14, 13], [13, 14]), ([15, 13, 13], [13, 15]), ([16], [16]), ([17, 16], [16, 17]), ([16, 18, 13], [13, 16, 18]), ([13, 19], [13, 19])])
def torchonref06_Leading.B10 : List Nat := [0, 0, 0, 6, 14, 0, 0, 96, 224, 511, 0, 1024, 4095, 8191, 16383, 32767, 65535, 131071, 262143, 524287, 1048575]
theorem torchonref06_Leading.tab10 : rtab .any (opsOf Try.f45 10) = torchonref06_Leading.T10 := by kernel_rfl
theorem torchonref06_Leading.bits10 : waitsOk torchonref06_Leading.T10.2 torchonref06_Leading.B10 = true := by kernel_rfl
def torchonref06_Leading.T11 : Bool × List (List Nat × List Nat) := (true, [([], []), ([], []), ([0, 1], [0, 1]), ([2], [2]), ([3], [3]), ([], []), ([], []), ([5, 6], [5, 6]), ([7], [7]), ([8], [8]), ([], []), ([], []), ([10, 11], [10, 11]), ([12], [12]), ([13], [13]), ([], []), ([], []), ([15, 16], [15, 16]), ([17], [17]), ([18], [18]), ([4, 9, 14, 19], [4, 9, 14, 19]), ([], []), ([21, 20, 0, 1, 2, 3, 4, 5, 6, 7, 8, 9, 10, 11, 12, 13, 14, 15, 16, 17, 18, 19, 20, 21], [20, 21])])
def torchonref06_Leading.B11 : List Nat := [0, 0, 3, 7, 15, 0, 0, 96, 224, 480, 0, 0, 3072, 7168, 15360, 0, 0, 98304, 229376, 491520, 1048575, 0, 4194303]
theorem torchonref06_Leading.tab11 : rtab .any (opsOf Try.f45 11) = torchonref06_Leading.T11 := by kernel_rfl
theorem torchonref06_Leading.bits11 : waitsOk torchonref06_Leading.T11.2 torchonref06_Leading.B11 = true := by kernel_rfl
def torchonref06_Leading.T13 : Bool × List (List Nat × List Nat) := (true, [([], []), ([], []), ([1], [1]), ([0, 2], [0, 2]), ([3], [3]), ([4], [4]), ([4], [4]), ([5, 6, 4], [4, 5, 6]), ([7, 4], [4, 7]), ([4], [4]), ([8, 9, 4, 4], [4, 8, 9]), ([4, 10], [4, 10])])
def torchonref06_Leading.B13 : List Nat := [0, 0, 2, 7, 15, 31, 31, 127, 255, 31, 1023, 2047]
theorem torchonref06_Leading.tab13 : rtab .any (opsOf Try.f45 13) = torchonref06_Leading.T13 := by kernel_rfl
theorem torchonref06_Leading.bits13 : waitsOk torchonref06_Leading.T13.2 torchonref06_Leading.B13 = true := by kernel_rfl
set_option maxHeartbeats 8000000 in
set_option maxRecDepth 100000 in
theorem torchonref06_Leading.calls (k : Nat) (a0_0 : Int) (a0_1 : Int) (a0_2 : Int) (a1_0 : Int) (a1_1 : Int) (a1_2 : Int) (r : List (S25)) (w : World) (h : torchonref06_Leading.f k a0_0 a0_1 a0_2 a1_0 a1_1 a1_2 = some r) :
    Calls Try.prog 45 #[.agg #[.int .i64 a0_0, .int .i64 a0_1, .int .i64 a0_2], .agg #[.int .i64 a1_0, .int .i64 a1_1, .int .i64 a1_2]] w fun e w' => ∃ v0_ : Value, e = .returned (v0_) ∧ Kd.R k25 25 w' w.heap.size (fun _ => True) v0_ r ∧ Below w.heap.size w w' := by
  have hu23 := Try.underlying23
  have hu37 := Try.underlying37
  have hu25 := Try.underlying25
  have HB := Aside0.mk (Below.refl w.heap.size w)
  have H : ((torchonref06_Steps.f k a0_0 a0_1 a0_2 a1_0).bind fun t317 => ((torchonref06_Steps.f k a0_0 a0_1 a0_2 a1_2).bind fun t320 => (torchonref06_Leading.l0 k t317 t320 ([] : List (S25)) 0 a0_0 a0_1 a0_2 a1_0 a1_1 a1_2))) = some r := h
  clear h
  obtain ⟨t317, A3, H⟩ := ob H
  obtain ⟨t320, A4, H⟩ := ob H
  have H' := Aside0.mk H
  clear H
  go_enter Try.func45, Try.ntmps45
  try go_wp2_with (first | ((with_reducible refine gate_dst (N := 2) rfl ?_); refine bx 2 #[.int .i64 a0_0, .int .i64 a0_1, .int .i64 a0_2] 23 fun gb315 hg w5 BK315 hb => ?_; have GW315 := gw hg HB; have GE315 := gw hg HB; replace HB := bst HB hb; clear hb hg) | ((with_reducible refine gate_dst (N := 3) rfl ?_); refine bx 3 #[.int .i64 a1_0, .int .i64 a1_1, .int .i64 a1_2] 23 fun gb316 hg w6 BK316 hb => ?_; have GW316 := gw hg HB; have GE316 := gw hg HB; have NB315_316 := nlt hg BK315; have NB316_315 := ngt hg BK315; replace BK315 := bb BK315 hb; replace HB := bst HB hb; clear hb hg))
  replace BK315 := bd BK315
  replace BK316 := bd BK316
  replace HB := bdn HB
  refine start_ (n := 10) (S := fun w' => w'.cell? ⟨gb315, 0, none⟩ = some (.int .i64 a0_0) ∧ w'.cell? ⟨gb315, 1, none⟩ = some (.int .i64 a0_1) ∧ w'.cell? ⟨gb315, 2, none⟩ = some (.int .i64 a0_2) ∧ w'.cell? ⟨gb316, 0, none⟩ = some (.int .i64 a1_0) ∧ w'.cell? ⟨gb316, 1, none⟩ = some (.int .i64 a1_1) ∧ w'.cell? ⟨gb316, 2, none⟩ = some (.int .i64 a1_2)) (ds := []) #[false, false, false, false, false, false, false, false, false, false] (by kernel_rfl) rfl rfl ⟨(blk_cell BK315.out 0).trans rfl, (blk_cell BK315.out 1).trans rfl, (blk_cell BK315.out 2).trans rfl, (blk_cell BK316.out 0).trans rfl, (blk_cell BK316.out 1).trans rfl, (blk_cell BK316.out 2).trans rfl⟩ (fun hHeld => ?_); refine with_tabW torchonref06_Leading.tab1 torchonref06_Leading.bits1 (fun HT_ HW_ => ?_)
  generalize w6.drew = w7 at BK315 BK316 HB hHeld ⊢
  refine pz 1 15 HT_ ?_
  refine pz 5 19 HT_ ?_
  refine tz 0 14 HT_ HW_ hHeld ?_
  refine tz 2 16 HT_ HW_ hHeld ?_
  refine tz 4 18 HT_ HW_ hHeld ?_
  refine tz 6 20 HT_ HW_ hHeld ?_
  refine one_ (i := 3) (N := some 17) #[true, true, true, true, true, true, true, false, false, false] rfl rfl (one_of HT_.out (by kernel_rfl)) (by decide) (fun K hK => ?_)
  refine gs _ Try.func73 (torchonref06_Steps.calls k a0_0 a0_1 a0_2 a1_0 t317 _ A3.out) ?_
  rintro e w8 ⟨v318, rfl, ho0, hb⟩
  refine ⟨_, rfl, ?_⟩
  have HO319 := Aside0.mk (Kd.R_lower ho0 (below_size (bnow HB)))
  replace BK315 := bb BK315 hb
  replace BK316 := bb BK316 hb
  replace HB := bst HB hb
  (try clear hb)
  (try clear hb2)
  (try clear hk)
  (try clear hi)
  (try clear ho0)
  refine hK.out _ _ ⟨(blk_cell BK315.out 0).trans rfl, (blk_cell BK315.out 1).trans rfl, (blk_cell BK315.out 2).trans rfl, (blk_cell BK316.out 0).trans rfl, (blk_cell BK316.out 1).trans rfl, (blk_cell BK316.out 2).trans rfl⟩ (fun hHeld => ?_)
  clear hK K
  refine norm_ (a' := ?_) ?_ ?_
  rotate_left
  · show Act.put _ (some 17) _ = _
    simp only [Act.put, List.setIfInBounds_toArray, List.set_cons_zero, List.set_cons_succ, i64_w, i32_w]
    rfl
  refine one_ (i := 7) (N := some 21) #[true, true, true, true, true, true, true, true, false, false] rfl rfl (one_of HT_.out (by kernel_rfl)) (by decide) (fun K hK => ?_)
  refine gs _ Try.func73 (torchonref06_Steps.calls k a0_0 a0_1 a0_2 a1_2 t320 _ A4.out) ?_
  rintro e w9 ⟨v321, rfl, ho0, hb⟩
  refine ⟨_, rfl, ?_⟩
  have n0_ := Aside0.mk (Kd.R_elder' (by (with_reducible repeat (first | apply Kd.R_alloc | apply Kd.R_drewN | apply Kd.R_drew)); exact HO319.out) (Kd.R_base ho0) hb)
  have n1_ := Aside0.mk (Kd.R_lower (Kd.R_new' ho0 (Kd.R_lt (by (with_reducible repeat (first | apply Kd.R_alloc | apply Kd.R_drewN | apply Kd.R_drew)); exact HO319.out))) (below_size (bnow HB)))
  have n2_ := bb BK315 hb
  have n3_ := bb BK316 hb
  have n4_ := bst HB hb
  clear HO319
  clear BK315
  clear BK316
  clear HB
  have HO319 := n0_
  have HO322 := n1_
  have BK315 := n2_
  have BK316 := n3_
  have HB := n4_
  clear n0_ n1_ n2_ n3_ n4_
  (try clear hb)
  (try clear hb2)
  (try clear hk)
  (try clear hi)
  (try clear ho0)
  refine hK.out _ _ ⟨(blk_cell BK315.out 0).trans rfl, (blk_cell BK315.out 1).trans rfl, (blk_cell BK315.out 2).trans rfl, (blk_cell BK316.out 0).trans rfl, (blk_cell BK316.out 1).trans rfl, (blk_cell BK316.out 2).trans rfl⟩ (fun hHeld => ?_)
  clear hK K
  refine norm_ (a' := ?_) ?_ ?_
  rotate_left
  · show Act.put _ (some 21) _ = _
    simp only [Act.put, List.setIfInBounds_toArray, List.set_cons_zero, List.set_cons_succ, i64_w, i32_w]
    rfl
  refine pz 8 5 HT_ ?_
  refine pz 9 6 HT_ ?_
  refine done_ (done_of HT_.out (by kernel_rfl)) ?_
  try go_wp2
  go_loopg [7, 8] k (fun kq v7 v8 w' => ∃ (x7_1 : List (S25)) (x8_1 : Int), v8 = .int .i64 x8_1 ∧ Aside0 (torchonref06_Leading.l0 kq t317 t320 x7_1 x8_1 a0_0 a0_1 a0_2 a1_0 a1_1 a1_2 = some r) ∧ Aside0 (kq ≤ k) ∧ Aside0 (Kd.R k37 37 w' w.heap.size (fun k_ => some k_ ≠ (v321 : Value).ownBlock) v318 t317) ∧ Aside0 (Kd.R k37 37 w' w.heap.size (fun k_ => some k_ ≠ (v318 : Value).ownBlock) v321 t320) ∧ Aside0 (Kd.R k25 25 w' w.heap.size (fun _ => True) v7 x7_1) ∧ Aside0 (w'.heap[gb315]? = some (.cells #[.int .i64 a0_0, .int .i64 a0_1, .int .i64 a0_2] 23 (0, 0))) ∧ Aside0 (w'.heap[gb316]? = some (.cells #[.int .i64 a1_0, .int .i64 a1_1, .int .i64 a1_2] 23 (0, 0))) ∧ Aside0 (Below w.heap.size w w'))
  case atStart => exact ⟨(([] : List (S25))), (0), (by first | rfl | (simp; done) | (simp [*]; done)), H', ⟨Nat.le_refl _⟩, ⟨by (with_reducible repeat (first | apply Kd.R_alloc | apply Kd.R_drewN | apply Kd.R_drew)); exact Kd.R_mono HO319.out (fun _ hk => hk.2)⟩, ⟨by (with_reducible repeat (first | apply Kd.R_alloc | apply Kd.R_drewN | apply Kd.R_drew)); exact Kd.R_mono HO322.out (fun _ hk => hk.2)⟩, ⟨by first | exact Kd.R_nil _ _ _ _ _ | exact Kd.N_nil _ _ _ _ _ | exact Kd.V_nil _ _ _ _ _ | exact Kd.Q_nil _ _ _ _ _ | exact Kd.S_nil _ _ _ _ _⟩, ⟨pk BK315⟩, ⟨pk BK316⟩, ⟨bnow HB⟩⟩
  case round =>
    clear H'
    try clear p2; try clear c4; try clear c7
    obtain ⟨x7_1, x8_1, rfl, HA, HK1, HO_5, HO_6, HO_7, BK315, BK316, HB⟩ := hrel
    cases gk with
    | zero => exact absurd HA.out (by simp [torchonref06_Leading.l0])
    | succ k1 =>
      have H := HA.out
      clear HA
      simp only [torchonref06_Leading.l0] at H
      by_cases c10 : x8_1 < (t317.length : Int)
      · rw [if_pos c10] at H
        have c10b0 : decide (x8_1 < (t317.length : Int)) = true := decide_eq_true c10
        clear c10
        have H' := Aside0.mk H
        clear H
        obtain ⟨Ao11, co11, eo11⟩ := Kd.R_slice HO_5.out
        subst eo11
        go_wp2
        go_loopg [7, 9] k1 (fun kq v7 v9 w' => ∃ (x7_2 : List (S25)) (x9_2 : Int), v9 = .int .i64 x9_2 ∧ Aside0 (torchonref06_Leading.l1 kq t317 t320 x7_2 x8_1 x9_2 a0_0 a0_1 a0_2 a1_0 a1_1 a1_2 = some r) ∧ Aside0 (kq ≤ k1) ∧ Aside0 (Kd.R k37 37 w' w.heap.size (fun k_ => some k_ ≠ (v321 : Value).ownBlock) (.slice Ao11 t317.length co11) t317) ∧ Aside0 (Kd.R k37 37 w' w.heap.size (fun k_ => some k_ ≠ ((.slice Ao11 t317.length co11) : Value).ownBlock) v321 t320) ∧ Aside0 (Kd.R k25 25 w' w.heap.size (fun _ => True) v7 x7_2) ∧ Aside0 (w'.heap[gb315]? = some (.cells #[.int .i64 a0_0, .int .i64 a0_1, .int .i64 a0_2] 23 (0, 0))) ∧ Aside0 (w'.heap[gb316]? = some (.cells #[.int .i64 a1_0, .int .i64 a1_1, .int .i64 a1_2] 23 (0, 0))) ∧ Aside0 (Below w.heap.size w w'))
        case atStart => exact ⟨(x7_1), (0), (by first | rfl | (simp; done) | (simp [*]; done)), H', ⟨Nat.le_refl _⟩, ⟨by (with_reducible repeat (first | apply Kd.R_alloc | apply Kd.R_drewN | apply Kd.R_drew)); exact HO_5.out⟩, ⟨by (with_reducible repeat (first | apply Kd.R_alloc | apply Kd.R_drewN | apply Kd.R_drew)); exact HO_6.out⟩, ⟨by (with_reducible repeat (first | apply Kd.R_alloc | apply Kd.R_drewN | apply Kd.R_drew)); exact HO_7.out⟩, ⟨pk BK315⟩, ⟨pk BK316⟩, ⟨bnow HB⟩⟩
        case round =>
          clear H'
          try clear c1; try clear p2; try clear c4; try clear c7; try clear c10; try clear c10b0; try clear p2
          obtain ⟨x7_2, x9_2, rfl, HA, HK2, HO_5, HO_6, HO_7, BK315, BK316, HB⟩ := hrel
          cases gk with
          | zero => exact absurd HA.out (by simp [torchonref06_Leading.l1])
          | succ k2 =>
            have H := HA.out
            clear HA
            simp only [torchonref06_Leading.l1] at H
            by_cases c12 : x9_2 < (t320.length : Int)
            · rw [if_pos c12] at H
              have c12b0 : decide (x9_2 < (t320.length : Int)) = true := decide_eq_true c12
              clear c12
              by_cases c13 : 0 ≤ x8_1
              · rw [if_pos c13] at H
                have c13b0 : decide (0 ≤ x8_1) = true := decide_eq_true c13
                clear c13
                by_cases c14 : x8_1 < (t317.length : Int)
                · rw [if_pos c14] at H
                  have c14b0 : decide (x8_1 < (t317.length : Int)) = true := decide_eq_true c14
                  clear c14
                  by_cases c15 : 0 ≤ x9_2
                  · rw [if_pos c15] at H
                    have c15b0 : decide (0 ≤ x9_2) = true := decide_eq_true c15
                    clear c15
                    obtain ⟨t326, A16, H⟩ := ob H
                    have HC17 := Aside0.mk H
                    clear H
                    obtain ⟨Ao18, co18, eo18⟩ := Kd.R_slice HO_6.out
                    subst eo18
                    try go_wp2
                    replace HO_5 := Aside0.mk (Kd.R_drew HO_5.out)
                    replace HO_6 := Aside0.mk (Kd.R_drew HO_6.out)
                    replace HO_7 := Aside0.mk (Kd.R_drew HO_7.out)
                    replace BK315 := bd BK315
                    replace BK316 := bd BK316
                    replace HB := bdn HB
                    have p324 : 0 ≤ (x8_1 : Int) := of_decide_eq_true (by first | (with_reducible assumption) | assumption)
                    have q324 : x8_1 < (t317.length : Int) := of_decide_eq_true (by first | (with_reducible assumption) | assumption)
                    obtain ⟨ad324, e324, hx324_0, hx324_1⟩ := at_T37 (Kd.R_reads' HO_5.out).2.2 x8_1 p324 q324
                    cases e324
                    replace p324 := eq_true p324
                    replace q324 := eq_true q324
                    have p325 : 0 ≤ (x9_2 : Int) := of_decide_eq_true (by first | (with_reducible assumption) | assumption)
                    have q325 : x9_2 < (t320.length : Int) := of_decide_eq_true (by first | (with_reducible assumption) | assumption)
                    obtain ⟨ad325, e325, hx325_0, hx325_1⟩ := at_T37 (Kd.R_reads' HO_6.out).2.2 x9_2 p325 q325
                    cases e325
                    replace p325 := eq_true p325
                    replace q325 := eq_true q325
                    refine start_ (n := 10) (S := fun w' => w'.cell? (ad324.add ((x8_1).toNat * 2)) = some (.int .i64 ((rd_T37 t317 x8_1).f0)) ∧ w'.cell? ⟨(ad324.add ((x8_1).toNat * 2)).block, (ad324.add ((x8_1).toNat * 2)).off + 1, none⟩ = some (.int .i64 ((rd_T37 t317 x8_1).f1)) ∧ w'.cell? (ad325.add ((x9_2).toNat * 2)) = some (.int .i64 ((rd_T37 t320 x9_2).f0)) ∧ w'.cell? ⟨(ad325.add ((x9_2).toNat * 2)).block, (ad325.add ((x9_2).toNat * 2)).off + 1, none⟩ = some (.int .i64 ((rd_T37 t320 x9_2).f1))) (ds := []) #[false, false, false, false, false, false, false, false, false, false] (by kernel_rfl) rfl rfl ⟨hx324_0, hx324_1, hx325_0, hx325_1⟩ (fun hHeld => ?_); refine with_tabW torchonref06_Leading.tab9 torchonref06_Leading.bits9 (fun HT_ HW_ => ?_)
                    generalize wr.drew = w19 at HO_5 HO_6 HO_7 BK315 BK316 HB hx324_0 hx324_1 hx325_0 hx325_1 hHeld ⊢
                    refine pz 0 34 HT_ ?_
                    refine pz 1 35 HT_ ?_
                    refine pz 2 36 HT_ ?_
                    refine pz 4 38 HT_ ?_
                    refine pz 5 39 HT_ ?_
                    refine pz 6 40 HT_ ?_
                    refine tz 3 37 HT_ HW_ hHeld ?_
                    refine tz 7 41 HT_ HW_ hHeld ?_
                    refine one_ (i := 8) (N := some 42) #[true, true, true, true, true, true, true, true, true, false] rfl rfl (one_of HT_.out (by kernel_rfl)) (by decide) (fun K hK => ?_)
                    refine gs _ Try.func74 (torchonref06_cross.calls ((rd_T37 t317 x8_1).f0) ((rd_T37 t317 x8_1).f1) ((rd_T37 t320 x9_2).f0) ((rd_T37 t320 x9_2).f1) t326 _ A16.out) ?_
                    rintro e w20 ⟨rfl, hb⟩
                    have HS0_ := (hb.cell (World.block_lt_of_cell? _ _ (hHeld.1))).trans (hHeld.1)
                    have HS1_ := (hb.cell (World.block_lt_of_cell? _ _ (hHeld.2.1))).trans (hHeld.2.1)
                    have HS2_ := (hb.cell (World.block_lt_of_cell? _ _ (hHeld.2.2.1))).trans (hHeld.2.2.1)
                    have HS3_ := (hb.cell (World.block_lt_of_cell? _ _ (hHeld.2.2.2))).trans (hHeld.2.2.2)
                    refine ⟨_, rfl, ?_⟩
                    have n0_ := Aside0.mk (Kd.R_below (by (with_reducible repeat (first | apply Kd.R_alloc | apply Kd.R_drewN | apply Kd.R_drew)); exact HO_5.out) hb)
                    have n1_ := Aside0.mk (Kd.R_below (by (with_reducible repeat (first | apply Kd.R_alloc | apply Kd.R_drewN | apply Kd.R_drew)); exact HO_6.out) hb)
                    have n2_ := Aside0.mk (Kd.R_below (by (with_reducible repeat (first | apply Kd.R_alloc | apply Kd.R_drewN | apply Kd.R_drew)); exact HO_7.out) hb)
                    have n3_ := bb BK315 hb
                    have n4_ := bb BK316 hb
                    have n5_ := bst HB hb
                    clear HO_5
                    clear HO_6
                    clear HO_7
                    clear BK315
                    clear BK316
                    clear HB
                    have HO_5 := n0_
                    have HO_6 := n1_
                    have HO_7 := n2_
                    have BK315 := n3_
                    have BK316 := n4_
                    have HB := n5_
                    clear n0_ n1_ n2_ n3_ n4_ n5_
                    (try clear hb)
                    (try clear hb2)
                    (try clear hk)
                    (try clear hi)
                    refine hK.out _ _ ⟨HS0_, HS1_, HS2_, HS3_⟩ (fun hHeld => ?_)
                    clear hK K
                    refine norm_ (a' := ?_) ?_ ?_
                    rotate_left
                    · show Act.put _ (some 42) _ = _
                      simp only [Act.put, List.setIfInBounds_toArray, List.set_cons_zero, List.set_cons_succ, i64_w, i32_w]
                      rfl
                    refine pz 9 10 HT_ ?_
                    refine done_ (done_of HT_.out (by kernel_rfl)) ?_
                    go_upto_region 10 with (fail)
                    go_cut [63] (fun v63 wc => ∃ (kq : Nat) (x63_16 : Bool), v63 = .bool x63_16 ∧ Aside0 (torchonref06_Leading.j2 kq t317 t320 x7_2 x8_1 x9_2 x63_16 a0_0 a0_1 a0_2 a1_0 a1_1 a1_2 = some r) ∧ Aside0 (kq ≤ k2) ∧ Aside0 (Kd.R k37 37 wc w.heap.size (fun k_ => some k_ ≠ ((.slice (some ad325) t320.length co18) : Value).ownBlock) (.slice (some ad324) t317.length co11) t317) ∧ Aside0 (Kd.R k37 37 wc w.heap.size (fun k_ => some k_ ≠ ((.slice (some ad324) t317.length co11) : Value).ownBlock) (.slice (some ad325) t320.length co18) t320) ∧ Aside0 (Kd.R k25 25 wc w.heap.size (fun _ => True) u7 x7_2) ∧ Aside0 (wc.heap[gb315]? = some (.cells #[.int .i64 a0_0, .int .i64 a0_1, .int .i64 a0_2] 23 (0, 0))) ∧ Aside0 (wc.heap[gb316]? = some (.cells #[.int .i64 a1_0, .int .i64 a1_1, .int .i64 a1_2] 23 (0, 0))) ∧ Aside0 (Below w.heap.size w wc))
                    case first =>
                      have H := HC17.out
                      clear HC17
                      obtain ⟨t329, A21, H⟩ := ob H
                      by_cases c22 : t329 = a1_1
                      · rw [if_pos c22] at H
                        have c22b0 : (t329 == a1_1) = true := beq_iff_eq.mpr c22
                        have c22b1 : (t329 != a1_1) = false := bne_eq_false_iff_eq.mpr c22
                        clear c22
                        (first | rw [c22b0] | (simp only [i64_w, i32_w]; rw [c22b0]) | skip)
                        by_cases c23 : t326 = 1
                        · rw [if_pos c23] at H
                          have c23b0 : (t326 == 1) = true := beq_iff_eq.mpr c23
                          have c23b1 : (t326 != 1) = false := bne_eq_false_iff_eq.mpr c23
                          clear c23
                          have H' := Aside0.mk H
                          clear H
                          try go_wp2
                          replace HO_5 := Aside0.mk (Kd.R_drew HO_5.out)
                          replace HO_6 := Aside0.mk (Kd.R_drew HO_6.out)
                          replace HO_7 := Aside0.mk (Kd.R_drew HO_7.out)
                          replace BK315 := bd BK315
                          replace BK316 := bd BK316
                          replace HB := bdn HB
                          have p327 : 0 ≤ (x8_1 : Int) := of_decide_eq_true (by first | (with_reducible assumption) | assumption)
                          have q327 : x8_1 < (t317.length : Int) := of_decide_eq_true (by first | (with_reducible assumption) | assumption)
                          obtain ⟨ad327, e327, hx327_0, hx327_1⟩ := at_T37 (Kd.R_reads' HO_5.out).2.2 x8_1 p327 q327
                          obtain rfl : ad324 = ad327 := (by injection e327)
                          replace p327 := eq_true p327
                          replace q327 := eq_true q327
                          have p328 : 0 ≤ (x9_2 : Int) := of_decide_eq_true (by first | (with_reducible assumption) | assumption)
                          have q328 : x9_2 < (t320.length : Int) := of_decide_eq_true (by first | (with_reducible assumption) | assumption)
                          obtain ⟨ad328, e328, hx328_0, hx328_1⟩ := at_T37 (Kd.R_reads' HO_6.out).2.2 x9_2 p328 q328
                          obtain rfl : ad325 = ad328 := (by injection e328)
                          replace p328 := eq_true p328
                          replace q328 := eq_true q328
                          refine start_ (n := 21) (S := fun w' => w'.cell? ⟨gb315, 0, none⟩ = some (.int .i64 a0_0) ∧ w'.cell? ⟨gb315, 1, none⟩ = some (.int .i64 a0_1) ∧ w'.cell? ⟨gb315, 2, none⟩ = some (.int .i64 a0_2) ∧ w'.cell? ⟨gb316, 0, none⟩ = some (.int .i64 a1_0) ∧ w'.cell? ⟨gb316, 1, none⟩ = some (.int .i64 a1_1) ∧ w'.cell? ⟨gb316, 2, none⟩ = some (.int .i64 a1_2) ∧ w'.cell? (ad324.add ((x8_1).toNat * 2)) = some (.int .i64 ((rd_T37 t317 x8_1).f0)) ∧ w'.cell? ⟨(ad324.add ((x8_1).toNat * 2)).block, (ad324.add ((x8_1).toNat * 2)).off + 1, none⟩ = some (.int .i64 ((rd_T37 t317 x8_1).f1)) ∧ w'.cell? (ad325.add ((x9_2).toNat * 2)) = some (.int .i64 ((rd_T37 t320 x9_2).f0)) ∧ w'.cell? ⟨(ad325.add ((x9_2).toNat * 2)).block, (ad325.add ((x9_2).toNat * 2)).off + 1, none⟩ = some (.int .i64 ((rd_T37 t320 x9_2).f1))) (ds := []) #[false, false, false, false, false, false, false, false, false, false, false, false, false, false, false, false, false, false, false, false, false] (by kernel_rfl) rfl rfl ⟨(blk_cell BK315.out 0).trans rfl, (blk_cell BK315.out 1).trans rfl, (blk_cell BK315.out 2).trans rfl, (blk_cell BK316.out 0).trans rfl, (blk_cell BK316.out 1).trans rfl, (blk_cell BK316.out 2).trans rfl, hx327_0, hx327_1, hx328_0, hx328_1⟩ (fun hHeld => ?_); refine with_tabW torchonref06_Leading.tab10 torchonref06_Leading.bits10 (fun HT_ HW_ => ?_)
                          generalize w20.drew = w24 at HO_5 HO_6 HO_7 BK315 BK316 HB hx327_0 hx327_1 hx328_0 hx328_1 hHeld ⊢
                          refine pz 1 44 HT_ ?_
                          refine pz 2 45 HT_ ?_
                          refine pz 3 46 HT_ ?_
                          refine pz 5 48 HT_ ?_
                          refine pz 6 49 HT_ ?_
                          refine pz 7 50 HT_ ?_
                          refine pz 10 53 HT_ ?_
                          refine tz 0 43 HT_ HW_ hHeld ?_
                          refine tz 4 47 HT_ HW_ hHeld ?_
                          refine tz 8 51 HT_ HW_ hHeld ?_
                          refine tz 11 54 HT_ HW_ hHeld ?_
                          refine one_ (i := 9) (N := some 52) #[true, true, true, true, true, true, true, true, true, true, true, true, false, false, false, false, false, false, false, false, false] rfl rfl (one_of HT_.out (by kernel_rfl)) (by decide) (fun K hK => ?_)
                          refine gs _ Try.func48 (torchonref06_Product.calls a0_0 a0_1 a0_2 ((rd_T37 t317 x8_1).f0) ((rd_T37 t317 x8_1).f1) ((rd_T37 t320 x9_2).f0) ((rd_T37 t320 x9_2).f1) t329 _ A21.out) ?_
                          rintro e w25 ⟨rfl, hb⟩
                          have HS6_ := (hb.cell (World.block_lt_of_cell? _ _ (hHeld.2.2.2.2.2.2.1))).trans (hHeld.2.2.2.2.2.2.1)
                          have HS7_ := (hb.cell (World.block_lt_of_cell? _ _ (hHeld.2.2.2.2.2.2.2.1))).trans (hHeld.2.2.2.2.2.2.2.1)
                          have HS8_ := (hb.cell (World.block_lt_of_cell? _ _ (hHeld.2.2.2.2.2.2.2.2.1))).trans (hHeld.2.2.2.2.2.2.2.2.1)
                          have HS9_ := (hb.cell (World.block_lt_of_cell? _ _ (hHeld.2.2.2.2.2.2.2.2.2))).trans (hHeld.2.2.2.2.2.2.2.2.2)
                          refine ⟨_, rfl, ?_⟩
                          have n0_ := Aside0.mk (Kd.R_below (by (with_reducible repeat (first | apply Kd.R_alloc | apply Kd.R_drewN | apply Kd.R_drew)); exact HO_5.out) hb)
                          have n1_ := Aside0.mk (Kd.R_below (by (with_reducible repeat (first | apply Kd.R_alloc | apply Kd.R_drewN | apply Kd.R_drew)); exact HO_6.out) hb)
                          have n2_ := Aside0.mk (Kd.R_below (by (with_reducible repeat (first | apply Kd.R_alloc | apply Kd.R_drewN | apply Kd.R_drew)); exact HO_7.out) hb)
                          have n3_ := bb BK315 hb
                          have n4_ := bb BK316 hb
                          have n5_ := bst HB hb
                          clear HO_5
                          clear HO_6
                          clear HO_7
                          clear BK315
                          clear BK316
                          clear HB
                          have HO_5 := n0_
                          have HO_6 := n1_
                          have HO_7 := n2_
                          have BK315 := n3_
                          have BK316 := n4_
                          have HB := n5_
                          clear n0_ n1_ n2_ n3_ n4_ n5_
                          (try clear hb)
                          (try clear hb2)
                          (try clear hk)
                          (try clear hi)
                          refine hK.out _ _ ⟨(blk_cell BK315.out 0).trans rfl, (blk_cell BK315.out 1).trans rfl, (blk_cell BK315.out 2).trans rfl, (blk_cell BK316.out 0).trans rfl, (blk_cell BK316.out 1).trans rfl, (blk_cell BK316.out 2).trans rfl, HS6_, HS7_, HS8_, HS9_⟩ (fun hHeld => ?_)
                          clear hK K
                          refine norm_ (a' := ?_) ?_ ?_
                          rotate_left
                          · show Act.put _ (some 52) _ = _
                            simp only [Act.put, List.setIfInBounds_toArray, List.set_cons_zero, List.set_cons_succ, i64_w, i32_w]
                            rfl
                          refine pz 12 55 HT_ ?_
                          refine pz 13 56 HT_ ?_
                          refine pz 14 57 HT_ ?_
                          refine pz 15 58 HT_ ?_
                          refine pz 16 59 HT_ ?_
                          refine pu 17 60 HT_ ?_
                          refine pu 18 61 HT_ ?_
                          refine pz 19 62 HT_ ?_
                          refine pz 20 63 HT_ ?_
                          refine done_ (done_of HT_.out (by kernel_rfl)) ?_
                          try go_wp2
                          go_meet
                          case rel => exact ⟨_, (false), (by first | rfl | (simp; done) | (simp [*]; done)), H', ⟨by have := HK1.out; have := HK2.out; first | omega | exact Nat.le_refl _⟩, ⟨by (with_reducible repeat (first | apply Kd.R_alloc | apply Kd.R_drewN | apply Kd.R_drew)); exact HO_5.out⟩, ⟨by (with_reducible repeat (first | apply Kd.R_alloc | apply Kd.R_drewN | apply Kd.R_drew)); exact HO_6.out⟩, ⟨by (with_reducible repeat (first | apply Kd.R_alloc | apply Kd.R_drewN | apply Kd.R_drew)); exact HO_7.out⟩, ⟨pk BK315⟩, ⟨pk BK316⟩, ⟨bnow HB⟩⟩
                        · rw [if_neg c23] at H
                          have c23b0 : (t326 == 1) = false := beq_eq_false_iff_ne.mpr c23
                          have c23b1 : (t326 != 1) = true := bne_iff_ne.mpr c23
                          have H' := Aside0.mk H
                          clear H
                          try go_wp2
                          replace HO_5 := Aside0.mk (Kd.R_drew HO_5.out)
                          replace HO_6 := Aside0.mk (Kd.R_drew HO_6.out)
                          replace HO_7 := Aside0.mk (Kd.R_drew HO_7.out)
                          replace BK315 := bd BK315
                          replace BK316 := bd BK316
                          replace HB := bdn HB
                          have p327 : 0 ≤ (x8_1 : Int) := of_decide_eq_true (by first | (with_reducible assumption) | assumption)
                          have q327 : x8_1 < (t317.length : Int) := of_decide_eq_true (by first | (with_reducible assumption) | assumption)
                          obtain ⟨ad327, e327, hx327_0, hx327_1⟩ := at_T37 (Kd.R_reads' HO_5.out).2.2 x8_1 p327 q327
                          obtain rfl : ad324 = ad327 := (by injection e327)
                          replace p327 := eq_true p327
                          replace q327 := eq_true q327
                          have p328 : 0 ≤ (x9_2 : Int) := of_decide_eq_true (by first | (with_reducible assumption) | assumption)
                          have q328 : x9_2 < (t320.length : Int) := of_decide_eq_true (by first | (with_reducible assumption) | assumption)
                          obtain ⟨ad328, e328, hx328_0, hx328_1⟩ := at_T37 (Kd.R_reads' HO_6.out).2.2 x9_2 p328 q328
                          obtain rfl : ad325 = ad328 := (by injection e328)
                          replace p328 := eq_true p328
                          replace q328 := eq_true q328
                          refine start_ (n := 21) (S := fun w' => w'.cell? ⟨gb315, 0, none⟩ = some (.int .i64 a0_0) ∧ w'.cell? ⟨gb315, 1, none⟩ = some (.int .i64 a0_1) ∧ w'.cell? ⟨gb315, 2, none⟩ = some (.int .i64 a0_2) ∧ w'.cell? ⟨gb316, 0, none⟩ = some (.int .i64 a1_0) ∧ w'.cell? ⟨gb316, 1, none⟩ = some (.int .i64 a1_1) ∧ w'.cell? ⟨gb316, 2, none⟩ = some (.int .i64 a1_2) ∧ w'.cell? (ad324.add ((x8_1).toNat * 2)) = some (.int .i64 ((rd_T37 t317 x8_1).f0)) ∧ w'.cell? ⟨(ad324.add ((x8_1).toNat * 2)).block, (ad324.add ((x8_1).toNat * 2)).off + 1, none⟩ = some (.int .i64 ((rd_T37 t317 x8_1).f1)) ∧ w'.cell? (ad325.add ((x9_2).toNat * 2)) = some (.int .i64 ((rd_T37 t320 x9_2).f0)) ∧ w'.cell? ⟨(ad325.add ((x9_2).toNat * 2)).block, (ad325.add ((x9_2).toNat * 2)).off + 1, none⟩ = some (.int .i64 ((rd_T37 t320 x9_2).f1))) (ds := []) #[false, false, false, false, false, false, false, false, false, false, false, false, false, false, false, false, false, false, false, false, false] (by kernel_rfl) rfl rfl ⟨(blk_cell BK315.out 0).trans rfl, (blk_cell BK315.out 1).trans rfl, (blk_cell BK315.out 2).trans rfl, (blk_cell BK316.out 0).trans rfl, (blk_cell BK316.out 1).trans rfl, (blk_cell BK316.out 2).trans rfl, hx327_0, hx327_1, hx328_0, hx328_1⟩ (fun hHeld => ?_); refine with_tabW torchonref06_Leading.tab10 torchonref06_Leading.bits10 (fun HT_ HW_ => ?_)
                          generalize w20.drew = w26 at HO_5 HO_6 HO_7 BK315 BK316 HB hx327_0 hx327_1 hx328_0 hx328_1 hHeld ⊢
                          refine pz 1 44 HT_ ?_
                          refine pz 2 45 HT_ ?_
                          refine pz 3 46 HT_ ?_
                          refine pz 5 48 HT_ ?_
                          refine pz 6 49 HT_ ?_
                          refine pz 7 50 HT_ ?_
                          refine pz 10 53 HT_ ?_
                          refine tz 0 43 HT_ HW_ hHeld ?_
                          refine tz 4 47 HT_ HW_ hHeld ?_
                          refine tz 8 51 HT_ HW_ hHeld ?_
                          refine tz 11 54 HT_ HW_ hHeld ?_
                          refine one_ (i := 9) (N := some 52) #[true, true, true, true, true, true, true, true, true, true, true, true, false, false, false, false, false, false, false, false, false] rfl rfl (one_of HT_.out (by kernel_rfl)) (by decide) (fun K hK => ?_)
                          refine gs _ Try.func48 (torchonref06_Product.calls a0_0 a0_1 a0_2 ((rd_T37 t317 x8_1).f0) ((rd_T37 t317 x8_1).f1) ((rd_T37 t320 x9_2).f0) ((rd_T37 t320 x9_2).f1) t329 _ A21.out) ?_
                          rintro e w27 ⟨rfl, hb⟩
                          have HS6_ := (hb.cell (World.block_lt_of_cell? _ _ (hHeld.2.2.2.2.2.2.1))).trans (hHeld.2.2.2.2.2.2.1)
                          have HS7_ := (hb.cell (World.block_lt_of_cell? _ _ (hHeld.2.2.2.2.2.2.2.1))).trans (hHeld.2.2.2.2.2.2.2.1)
                          have HS8_ := (hb.cell (World.block_lt_of_cell? _ _ (hHeld.2.2.2.2.2.2.2.2.1))).trans (hHeld.2.2.2.2.2.2.2.2.1)
                          have HS9_ := (hb.cell (World.block_lt_of_cell? _ _ (hHeld.2.2.2.2.2.2.2.2.2))).trans (hHeld.2.2.2.2.2.2.2.2.2)
                          refine ⟨_, rfl, ?_⟩
                          have n0_ := Aside0.mk (Kd.R_below (by (with_reducible repeat (first | apply Kd.R_alloc | apply Kd.R_drewN | apply Kd.R_drew)); exact HO_5.out) hb)
                          have n1_ := Aside0.mk (Kd.R_below (by (with_reducible repeat (first | apply Kd.R_alloc | apply Kd.R_drewN | apply Kd.R_drew)); exact HO_6.out) hb)
                          have n2_ := Aside0.mk (Kd.R_below (by (with_reducible repeat (first | apply Kd.R_alloc | apply Kd.R_drewN | apply Kd.R_drew)); exact HO_7.out) hb)
                          have n3_ := bb BK315 hb
                          have n4_ := bb BK316 hb
                          have n5_ := bst HB hb
                          clear HO_5
                          clear HO_6
                          clear HO_7
                          clear BK315
                          clear BK316
                          clear HB
                          have HO_5 := n0_
                          have HO_6 := n1_
                          have HO_7 := n2_
                          have BK315 := n3_
                          have BK316 := n4_
                          have HB := n5_
                          clear n0_ n1_ n2_ n3_ n4_ n5_
                          (try clear hb)
                          (try clear hb2)
                          (try clear hk)
                          (try clear hi)
                          refine hK.out _ _ ⟨(blk_cell BK315.out 0).trans rfl, (blk_cell BK315.out 1).trans rfl, (blk_cell BK315.out 2).trans rfl, (blk_cell BK316.out 0).trans rfl, (blk_cell BK316.out 1).trans rfl, (blk_cell BK316.out 2).trans rfl, HS6_, HS7_, HS8_, HS9_⟩ (fun hHeld => ?_)
                          clear hK K
                          refine norm_ (a' := ?_) ?_ ?_
                          rotate_left
                          · show Act.put _ (some 52) _ = _
                            simp only [Act.put, List.setIfInBounds_toArray, List.set_cons_zero, List.set_cons_succ, i64_w, i32_w]
                            rfl
                          refine pz 12 55 HT_ ?_
                          refine pz 13 56 HT_ ?_
                          refine pz 14 57 HT_ ?_
                          refine pz 15 58 HT_ ?_
                          refine pz 16 59 HT_ ?_
                          refine pz 17 60 HT_ ?_
                          refine pz 18 61 HT_ ?_
                          refine pz 19 62 HT_ ?_
                          refine pz 20 63 HT_ ?_
                          refine done_ (done_of HT_.out (by kernel_rfl)) ?_
                          try go_wp2
                          go_meet
                          case rel => exact ⟨_, ((t326 != (-1))), (by first | rfl | (simp; done) | (simp [*]; done)), H', ⟨by have := HK1.out; have := HK2.out; first | omega | exact Nat.le_refl _⟩, ⟨by (with_reducible repeat (first | apply Kd.R_alloc | apply Kd.R_drewN | apply Kd.R_drew)); exact HO_5.out⟩, ⟨by (with_reducible repeat (first | apply Kd.R_alloc | apply Kd.R_drewN | apply Kd.R_drew)); exact HO_6.out⟩, ⟨by (with_reducible repeat (first | apply Kd.R_alloc | apply Kd.R_drewN | apply Kd.R_drew)); exact HO_7.out⟩, ⟨pk BK315⟩, ⟨pk BK316⟩, ⟨bnow HB⟩⟩
                      · rw [if_neg c22] at H
                        have c22b0 : (t329 == a1_1) = false := beq_eq_false_iff_ne.mpr c22
                        have c22b1 : (t329 != a1_1) = true := bne_iff_ne.mpr c22
                        (first | rw [c22b0] | (simp only [i64_w, i32_w]; rw [c22b0]) | skip)
                        have H' := Aside0.mk H
                        clear H
                        try go_wp2
                        replace HO_5 := Aside0.mk (Kd.R_drew HO_5.out)
                        replace HO_6 := Aside0.mk (Kd.R_drew HO_6.out)
                        replace HO_7 := Aside0.mk (Kd.R_drew HO_7.out)
                        replace BK315 := bd BK315
                        replace BK316 := bd BK316
                        replace HB := bdn HB
                        have p327 : 0 ≤ (x8_1 : Int) := of_decide_eq_true (by first | (with_reducible assumption) | assumption)
                        have q327 : x8_1 < (t317.length : Int) := of_decide_eq_true (by first | (with_reducible assumption) | assumption)
                        obtain ⟨ad327, e327, hx327_0, hx327_1⟩ := at_T37 (Kd.R_reads' HO_5.out).2.2 x8_1 p327 q327
                        obtain rfl : ad324 = ad327 := (by injection e327)
                        replace p327 := eq_true p327
                        replace q327 := eq_true q327
                        have p328 : 0 ≤ (x9_2 : Int) := of_decide_eq_true (by first | (with_reducible assumption) | assumption)
                        have q328 : x9_2 < (t320.length : Int) := of_decide_eq_true (by first | (with_reducible assumption) | assumption)
                        obtain ⟨ad328, e328, hx328_0, hx328_1⟩ := at_T37 (Kd.R_reads' HO_6.out).2.2 x9_2 p328 q328
                        obtain rfl : ad325 = ad328 := (by injection e328)
                        replace p328 := eq_true p328
                        replace q328 := eq_true q328
                        refine start_ (n := 21) (S := fun w' => w'.cell? ⟨gb315, 0, none⟩ = some (.int .i64 a0_0) ∧ w'.cell? ⟨gb315, 1, none⟩ = some (.int .i64 a0_1) ∧ w'.cell? ⟨gb315, 2, none⟩ = some (.int .i64 a0_2) ∧ w'.cell? ⟨gb316, 0, none⟩ = some (.int .i64 a1_0) ∧ w'.cell? ⟨gb316, 1, none⟩ = some (.int .i64 a1_1) ∧ w'.cell? ⟨gb316, 2, none⟩ = some (.int .i64 a1_2) ∧ w'.cell? (ad324.add ((x8_1).toNat * 2)) = some (.int .i64 ((rd_T37 t317 x8_1).f0)) ∧ w'.cell? ⟨(ad324.add ((x8_1).toNat * 2)).block, (ad324.add ((x8_1).toNat * 2)).off + 1, none⟩ = some (.int .i64 ((rd_T37 t317 x8_1).f1)) ∧ w'.cell? (ad325.add ((x9_2).toNat * 2)) = some (.int .i64 ((rd_T37 t320 x9_2).f0)) ∧ w'.cell? ⟨(ad325.add ((x9_2).toNat * 2)).block, (ad325.add ((x9_2).toNat * 2)).off + 1, none⟩ = some (.int .i64 ((rd_T37 t320 x9_2).f1))) (ds := []) #[false, false, false, false, false, false, false, false, false, false, false, false, false, false, false, false, false, false, false, false, false] (by kernel_rfl) rfl rfl ⟨(blk_cell BK315.out 0).trans rfl, (blk_cell BK315.out 1).trans rfl, (blk_cell BK315.out 2).trans rfl, (blk_cell BK316.out 0).trans rfl, (blk_cell BK316.out 1).trans rfl, (blk_cell BK316.out 2).trans rfl, hx327_0, hx327_1, hx328_0, hx328_1⟩ (fun hHeld => ?_); refine with_tabW torchonref06_Leading.tab10 torchonref06_Leading.bits10 (fun HT_ HW_ => ?_)
                        generalize w20.drew = w28 at HO_5 HO_6 HO_7 BK315 BK316 HB hx327_0 hx327_1 hx328_0 hx328_1 hHeld ⊢
                        refine pz 1 44 HT_ ?_
                        refine pz 2 45 HT_ ?_
                        refine pz 3 46 HT_ ?_
                        refine pz 5 48 HT_ ?_
                        refine pz 6 49 HT_ ?_
                        refine pz 7 50 HT_ ?_
                        refine pz 10 53 HT_ ?_
                        refine tz 0 43 HT_ HW_ hHeld ?_
                        refine tz 4 47 HT_ HW_ hHeld ?_
                        refine tz 8 51 HT_ HW_ hHeld ?_
                        refine tz 11 54 HT_ HW_ hHeld ?_
                        refine one_ (i := 9) (N := some 52) #[true, true, true, true, true, true, true, true, true, true, true, true, false, false, false, false, false, false, false, false, false] rfl rfl (one_of HT_.out (by kernel_rfl)) (by decide) (fun K hK => ?_)
                        refine gs _ Try.func48 (torchonref06_Product.calls a0_0 a0_1 a0_2 ((rd_T37 t317 x8_1).f0) ((rd_T37 t317 x8_1).f1) ((rd_T37 t320 x9_2).f0) ((rd_T37 t320 x9_2).f1) t329 _ A21.out) ?_
                        rintro e w29 ⟨rfl, hb⟩
                        have HS6_ := (hb.cell (World.block_lt_of_cell? _ _ (hHeld.2.2.2.2.2.2.1))).trans (hHeld.2.2.2.2.2.2.1)
                        have HS7_ := (hb.cell (World.block_lt_of_cell? _ _ (hHeld.2.2.2.2.2.2.2.1))).trans (hHeld.2.2.2.2.2.2.2.1)
                        have HS8_ := (hb.cell (World.block_lt_of_cell? _ _ (hHeld.2.2.2.2.2.2.2.2.1))).trans (hHeld.2.2.2.2.2.2.2.2.1)
                        have HS9_ := (hb.cell (World.block_lt_of_cell? _ _ (hHeld.2.2.2.2.2.2.2.2.2))).trans (hHeld.2.2.2.2.2.2.2.2.2)
                        refine ⟨_, rfl, ?_⟩
                        have n0_ := Aside0.mk (Kd.R_below (by (with_reducible repeat (first | apply Kd.R_alloc | apply Kd.R_drewN | apply Kd.R_drew)); exact HO_5.out) hb)
                        have n1_ := Aside0.mk (Kd.R_below (by (with_reducible repeat (first | apply Kd.R_alloc | apply Kd.R_drewN | apply Kd.R_drew)); exact HO_6.out) hb)
                        have n2_ := Aside0.mk (Kd.R_below (by (with_reducible repeat (first | apply Kd.R_alloc | apply Kd.R_drewN | apply Kd.R_drew)); exact HO_7.out) hb)
                        have n3_ := bb BK315 hb
                        have n4_ := bb BK316 hb
                        have n5_ := bst HB hb
                        clear HO_5
                        clear HO_6
                        clear HO_7
                        clear BK315
                        clear BK316
                        clear HB
                        have HO_5 := n0_
                        have HO_6 := n1_
                        have HO_7 := n2_
                        have BK315 := n3_
                        have BK316 := n4_
                        have HB := n5_
                        clear n0_ n1_ n2_ n3_ n4_ n5_
                        (try clear hb)
                        (try clear hb2)
                        (try clear hk)
                        (try clear hi)
                        refine hK.out _ _ ⟨(blk_cell BK315.out 0).trans rfl, (blk_cell BK315.out 1).trans rfl, (blk_cell BK315.out 2).trans rfl, (blk_cell BK316.out 0).trans rfl, (blk_cell BK316.out 1).trans rfl, (blk_cell BK316.out 2).trans rfl, HS6_, HS7_, HS8_, HS9_⟩ (fun hHeld => ?_)
                        clear hK K
                        refine norm_ (a' := ?_) ?_ ?_
                        rotate_left
                        · show Act.put _ (some 52) _ = _
                          simp only [Act.put, List.setIfInBounds_toArray, List.set_cons_zero, List.set_cons_succ, i64_w, i32_w]
                          rfl
                        refine pz 12 55 HT_ ?_
                        refine pz 13 56 HT_ ?_
                        refine pu 14 57 HT_ ?_
                        refine pu 15 58 HT_ ?_
                        refine pu 16 59 HT_ ?_
                        refine pu 17 60 HT_ ?_
                        refine pu 18 61 HT_ ?_
                        refine pu 19 62 HT_ ?_
                        refine pz 20 63 HT_ ?_
                        refine done_ (done_of HT_.out (by kernel_rfl)) ?_
                        try go_wp2
                        go_meet
                        case rel => exact ⟨_, (true), (by first | rfl | (simp; done) | (simp [*]; done)), H', ⟨by have := HK1.out; have := HK2.out; first | omega | exact Nat.le_refl _⟩, ⟨by (with_reducible repeat (first | apply Kd.R_alloc | apply Kd.R_drewN | apply Kd.R_drew)); exact HO_5.out⟩, ⟨by (with_reducible repeat (first | apply Kd.R_alloc | apply Kd.R_drewN | apply Kd.R_drew)); exact HO_6.out⟩, ⟨by (with_reducible repeat (first | apply Kd.R_alloc | apply Kd.R_drewN | apply Kd.R_drew)); exact HO_7.out⟩, ⟨pk BK315⟩, ⟨pk BK316⟩, ⟨bnow HB⟩⟩
                    case rest =>
                      clear HC17
                      try clear c2; try clear p2; try clear p3; try clear q3; try clear hx3; try clear c4; try clear c22; try clear c22b0; try clear c22b1; try clear c23; try clear c23b0; try clear c23b1; try clear hx327_0; try clear hx327_1; try clear hx328_0; try clear hx328_1; try clear p327; try clear p328; try clear q327; try clear q328
                      obtain ⟨kq, x63_16, rfl, HA, HJ16, HO_5, HO_6, HO_7, BK315, BK316, HB⟩ := hcut
                      cases kq with
                      | zero => exact absurd HA.out (by simp [torchonref06_Leading.j2])
                      | succ kj16 =>
                        have H := HA.out
                        clear HA
                        simp only [torchonref06_Leading.j2] at H
                        by_cases c30 : x63_16 = true
                        · subst c30
                          have H1 : ((some (wrap64 (x9_2 + 1))).bind fun z330 => (torchonref06_Leading.l1 kj16 t317 t320 x7_2 x8_1 z330 a0_0 a0_1 a0_2 a1_0 a1_1 a1_2)) = some r := by rw [if_pos rfl] at H; exact H
                          clear H
                          have H := H1
                          clear H1
                          obtain ⟨z330, E310, H⟩ := oc H
                          have E31w : (IntKind.i64.wrap (x9_2 + 1)) = z330 := (i64_w _).trans E310
                          have H' := Aside0.mk H
                          clear H
                          go_wp2
                          go_roundg kj16
                          case measure => have := HK1.out; have := HK2.out; have := HJ16.out; omega
                          case rel => exact ⟨(x7_2), (z330), (by first | rfl | (simp; done) | (simp [*]; done)), H', ⟨by have := HK1.out; have := HK2.out; have := HJ16.out; omega⟩, ⟨by (with_reducible repeat (first | apply Kd.R_alloc | apply Kd.R_drewN | apply Kd.R_drew)); exact HO_5.out⟩, ⟨by (with_reducible repeat (first | apply Kd.R_alloc | apply Kd.R_drewN | apply Kd.R_drew)); exact HO_6.out⟩, ⟨by (with_reducible repeat (first | apply Kd.R_alloc | apply Kd.R_drewN | apply Kd.R_drew)); exact HO_7.out⟩, ⟨pk BK315⟩, ⟨pk BK316⟩, ⟨bnow HB⟩⟩
                        · replace c30 := Bool.eq_false_iff.mpr c30
                          subst c30
                          have H1 : (if 0 ≤ x8_1 then (if x8_1 < (t317.length : Int) then (if 0 ≤ x9_2 then (if x9_2 < (t320.length : Int) then (torchonref06_Leading.l2 kj16 t317 t320 x7_2 x8_1 x9_2 0 a0_0 a0_1 a0_2 a1_0 a1_1 a1_2 ((rd_T37 t317 x8_1).f0) ((rd_T37 t320 x9_2).f0) ((rd_T37 t317 x8_1).f1) ((rd_T37 t320 x9_2).f1)) else (none)) else (none)) else (none)) else (none)) = some r := by rw [if_neg (show ¬ (false = true) by decide)] at H; exact H
                          clear H
                          have H := H1
                          clear H1
                          by_cases c32 : 0 ≤ x8_1
                          · rw [if_pos c32] at H
                            have c32b0 : decide (0 ≤ x8_1) = true := decide_eq_true c32
                            clear c32
                            by_cases c33 : x8_1 < (t317.length : Int)
                            · rw [if_pos c33] at H
                              have c33b0 : decide (x8_1 < (t317.length : Int)) = true := decide_eq_true c33
                              clear c33
                              by_cases c34 : 0 ≤ x9_2
                              · rw [if_pos c34] at H
                                have c34b0 : decide (0 ≤ x9_2) = true := decide_eq_true c34
                                clear c34
                                by_cases c35 : x9_2 < (t320.length : Int)
                                · rw [if_pos c35] at H
                                  have c35b0 : decide (x9_2 < (t320.length : Int)) = true := decide_eq_true c35
                                  clear c35
                                  have H' := Aside0.mk H
                                  clear H
                                  try go_wp2
                                  replace HO_5 := Aside0.mk (Kd.R_drew HO_5.out)
                                  replace HO_6 := Aside0.mk (Kd.R_drew HO_6.out)
                                  replace HO_7 := Aside0.mk (Kd.R_drew HO_7.out)
                                  replace BK315 := bd BK315
                                  replace BK316 := bd BK316
                                  replace HB := bdn HB
                                  have p331 : 0 ≤ (x8_1 : Int) := of_decide_eq_true (by first | (with_reducible assumption) | assumption)
                                  have q331 : x8_1 < (t317.length : Int) := of_decide_eq_true (by first | (with_reducible assumption) | assumption)
                                  obtain ⟨ad331, e331, hx331_0, hx331_1⟩ := at_T37 (Kd.R_reads' HO_5.out).2.2 x8_1 p331 q331
                                  obtain rfl : ad324 = ad331 := (by injection e331)
                                  replace p331 := eq_true p331
                                  replace q331 := eq_true q331
                                  have p332 : 0 ≤ (x9_2 : Int) := of_decide_eq_true (by first | (with_reducible assumption) | assumption)
                                  have q332 : x9_2 < (t320.length : Int) := of_decide_eq_true (by first | (with_reducible assumption) | assumption)
                                  obtain ⟨ad332, e332, hx332_0, hx332_1⟩ := at_T37 (Kd.R_reads' HO_6.out).2.2 x9_2 p332 q332
                                  obtain rfl : ad325 = ad332 := (by injection e332)
                                  replace p332 := eq_true p332
                                  replace q332 := eq_true q332
                                  have p333 : 0 ≤ (x8_1 : Int) := of_decide_eq_true (by first | (with_reducible assumption) | assumption)
                                  have q333 : x8_1 < (t317.length : Int) := of_decide_eq_true (by first | (with_reducible assumption) | assumption)
                                  obtain ⟨ad333, e333, hx333_0, hx333_1⟩ := at_T37 (Kd.R_reads' HO_5.out).2.2 x8_1 p333 q333
                                  obtain rfl : ad324 = ad333 := (by injection e333)
                                  replace p333 := eq_true p333
                                  replace q333 := eq_true q333
                                  have p334 : 0 ≤ (x9_2 : Int) := of_decide_eq_true (by first | (with_reducible assumption) | assumption)
                                  have q334 : x9_2 < (t320.length : Int) := of_decide_eq_true (by first | (with_reducible assumption) | assumption)
                                  obtain ⟨ad334, e334, hx334_0, hx334_1⟩ := at_T37 (Kd.R_reads' HO_6.out).2.2 x9_2 p334 q334
                                  obtain rfl : ad325 = ad334 := (by injection e334)
                                  replace p334 := eq_true p334
                                  replace q334 := eq_true q334
                                  refine start_ (n := 23) (S := fun w' => w'.cell? (ad324.add ((x8_1).toNat * 2)) = some (.int .i64 ((rd_T37 t317 x8_1).f0)) ∧ w'.cell? ⟨(ad324.add ((x8_1).toNat * 2)).block, (ad324.add ((x8_1).toNat * 2)).off + 1, none⟩ = some (.int .i64 ((rd_T37 t317 x8_1).f1)) ∧ w'.cell? (ad325.add ((x9_2).toNat * 2)) = some (.int .i64 ((rd_T37 t320 x9_2).f0)) ∧ w'.cell? ⟨(ad325.add ((x9_2).toNat * 2)).block, (ad325.add ((x9_2).toNat * 2)).off + 1, none⟩ = some (.int .i64 ((rd_T37 t320 x9_2).f1)) ∧ w'.cell? (ad324.add ((x8_1).toNat * 2)) = some (.int .i64 ((rd_T37 t317 x8_1).f0)) ∧ w'.cell? ⟨(ad324.add ((x8_1).toNat * 2)).block, (ad324.add ((x8_1).toNat * 2)).off + 1, none⟩ = some (.int .i64 ((rd_T37 t317 x8_1).f1)) ∧ w'.cell? (ad325.add ((x9_2).toNat * 2)) = some (.int .i64 ((rd_T37 t320 x9_2).f0)) ∧ w'.cell? ⟨(ad325.add ((x9_2).toNat * 2)).block, (ad325.add ((x9_2).toNat * 2)).off + 1, none⟩ = some (.int .i64 ((rd_T37 t320 x9_2).f1))) (ds := []) #[false, false, false, false, false, false, false, false, false, false, false, false, false, false, false, false, false, false, false, false, false, false, false] (by kernel_rfl) rfl rfl ⟨hx331_0, hx331_1, hx332_0, hx332_1, hx333_0, hx333_1, hx334_0, hx334_1⟩ (fun hHeld => ?_); refine with_tabW torchonref06_Leading.tab11 torchonref06_Leading.bits11 (fun HT_ HW_ => ?_)
                                  generalize wc.drew = w36 at HO_5 HO_6 HO_7 BK315 BK316 HB hx331_0 hx331_1 hx332_0 hx332_1 hx333_0 hx333_1 hx334_0 hx334_1 hHeld ⊢
                                  refine pz 0 64 HT_ ?_
                                  refine pz 1 65 HT_ ?_
                                  refine pz 2 66 HT_ ?_
                                  refine pz 3 67 HT_ ?_
                                  refine pz 5 69 HT_ ?_
                                  refine pz 6 70 HT_ ?_
                                  refine pz 7 71 HT_ ?_
                                  refine pz 8 72 HT_ ?_
                                  refine pz 10 74 HT_ ?_
                                  refine pz 11 75 HT_ ?_
                                  refine pz 12 76 HT_ ?_
                                  refine pz 13 77 HT_ ?_
                                  refine pz 15 79 HT_ ?_
                                  refine pz 16 80 HT_ ?_
                                  refine pz 17 81 HT_ ?_
                                  refine pz 18 82 HT_ ?_
                                  refine tz 4 68 HT_ HW_ hHeld ?_
                                  refine tz 9 73 HT_ HW_ hHeld ?_
                                  refine tz 14 78 HT_ HW_ hHeld ?_
                                  refine tz 19 83 HT_ HW_ hHeld ?_
                                  refine pz 20 84 HT_ ?_
                                  refine one_ (i := 21) (N := some 11) #[true, true, true, true, true, true, true, true, true, true, true, true, true, true, true, true, true, true, true, true, true, true, false] rfl rfl (one_of HT_.out (by kernel_rfl)) (by decide) (fun K hK => ?_)
                                  refine box_step ?hg (N := 11) ?hd (cs := #[.int .i64 0, .int .i64 0, .int .i64 0, .int .i64 0]) (t := 25) ?hr ?_; (case hd => rfl); (case hg => rfl); (case hr => first | (go_simp; done) | (go_simp; rfl))
                                  intro gb335 hg w37 hbox hb
                                  have HS0_ := (hb.cell (World.block_lt_of_cell? _ _ (hHeld.1))).trans (hHeld.1)
                                  have HS1_ := (hb.cell (World.block_lt_of_cell? _ _ (hHeld.2.1))).trans (hHeld.2.1)
                                  have HS2_ := (hb.cell (World.block_lt_of_cell? _ _ (hHeld.2.2.1))).trans (hHeld.2.2.1)
                                  have HS3_ := (hb.cell (World.block_lt_of_cell? _ _ (hHeld.2.2.2.1))).trans (hHeld.2.2.2.1)
                                  have HS4_ := (hb.cell (World.block_lt_of_cell? _ _ (hHeld.2.2.2.2.1))).trans (hHeld.2.2.2.2.1)
                                  have HS5_ := (hb.cell (World.block_lt_of_cell? _ _ (hHeld.2.2.2.2.2.1))).trans (hHeld.2.2.2.2.2.1)
                                  have HS6_ := (hb.cell (World.block_lt_of_cell? _ _ (hHeld.2.2.2.2.2.2.1))).trans (hHeld.2.2.2.2.2.2.1)
                                  have HS7_ := (hb.cell (World.block_lt_of_cell? _ _ (hHeld.2.2.2.2.2.2.2))).trans (hHeld.2.2.2.2.2.2.2)
                                  have n0_ := Aside0.mk (Kd.R_below (by (with_reducible repeat (first | apply Kd.R_alloc | apply Kd.R_drewN | apply Kd.R_drew)); exact HO_5.out) hb)
                                  have n1_ := Aside0.mk (Kd.R_below (by (with_reducible repeat (first | apply Kd.R_alloc | apply Kd.R_drewN | apply Kd.R_drew)); exact HO_6.out) hb)
                                  have n2_ := Aside0.mk (Kd.R_below (Kd.R_elderB (by (with_reducible repeat (first | apply Kd.R_alloc | apply Kd.R_drewN | apply Kd.R_drew)); exact HO_7.out) gb335 (Nat.le_of_eq hg.symm)) hb)
                                  have n3_ := bb BK315 hb
                                  have n4_ := bb BK316 hb
                                  have n5_ := bst HB hb
                                  have n6_ := Aside0.mk (hbox)
                                  have n7_ := gw hg HB
                                  have n8_ := gw hg HB
                                  have n9_ := nlt hg BK315
                                  have n10_ := ngt hg BK315
                                  have n11_ := nlt hg BK316
                                  have n12_ := ngt hg BK316
                                  clear HO_5
                                  clear HO_6
                                  clear HO_7
                                  clear BK315
                                  clear BK316
                                  clear HB
                                  have HO_5 := n0_
                                  have HO_6 := n1_
                                  have HO_7 := n2_
                                  have BK315 := n3_
                                  have BK316 := n4_
                                  have HB := n5_
                                  have BK335 := n6_
                                  have GW335 := n7_
                                  have GE335 := n8_
                                  have NB315_335 := n9_
                                  have NB335_315 := n10_
                                  have NB316_335 := n11_
                                  have NB335_316 := n12_
                                  clear n0_ n1_ n2_ n3_ n4_ n5_ n6_ n7_ n8_ n9_ n10_ n11_ n12_
                                  clear hb hg
                                  refine hK.out _ _ ⟨HS0_, HS1_, HS2_, HS3_, HS4_, HS5_, HS6_, HS7_⟩ (fun hHeld => ?_)
                                  clear hK K
                                  refine norm_ (a' := ?_) ?_ ?_
                                  rotate_left
                                  · show Act.put _ (some 11) _ = _
                                    simp only [Act.put, List.setIfInBounds_toArray, List.set_cons_zero, List.set_cons_succ, i64_w, i32_w]
                                    rfl
                                  refine one_ (i := 22) (N := none) #[true, true, true, true, true, true, true, true, true, true, true, true, true, true, true, true, true, true, true, true, true, true, true] rfl rfl (one_of HT_.out (by kernel_rfl)) (by decide) (fun K hK => ?_)
                                  have hs38 : w37.cell? ⟨gb335, 0, none⟩ = some (.int .i64 0) := (blk_cell BK335.out 0).trans rfl
                                  have hfs38 := blk_frozen BK335.out 0
                                  have hns38_0 := NB315_335.out
                                  have hns38_1 := NB316_335.out
                                  have hms38_0 := NB335_315.out
                                  have hms38_1 := NB335_316.out
                                  have hs39 : w37.cell? ⟨gb335, 1, none⟩ = some (.int .i64 0) := (blk_cell BK335.out 1).trans rfl
                                  have hfs39 := blk_frozen BK335.out 1
                                  have hns39_0 := NB315_335.out
                                  have hns39_1 := NB316_335.out
                                  have hms39_0 := NB335_315.out
                                  have hms39_1 := NB335_316.out
                                  have hs40 : w37.cell? ⟨gb335, 2, none⟩ = some (.int .i64 0) := (blk_cell BK335.out 2).trans rfl
                                  have hfs40 := blk_frozen BK335.out 2
                                  have hns40_0 := NB315_335.out
                                  have hns40_1 := NB316_335.out
                                  have hms40_0 := NB335_315.out
                                  have hms40_1 := NB335_316.out
                                  have hs41 : w37.cell? ⟨gb335, 3, none⟩ = some (.int .i64 0) := (blk_cell BK335.out 3).trans rfl
                                  have hfs41 := blk_frozen BK335.out 3
                                  have hns41_0 := NB315_335.out
                                  have hns41_1 := NB316_335.out
                                  have hms41_0 := NB335_315.out
                                  have hms41_1 := NB335_316.out
                                  refine skip_ (w1 := ?_) (by rfl) rfl ?_ ?_
                                  rotate_left
                                  · go_simp
                                    rfl
                                  refine hK.out _ _ ⟨((cell_far (p := ⟨gb335, _, none⟩) (by first | exact Kd.own_blk (Kd.R_ne HO_5.out BK335.out (by decide)) | (rw [add_block]; exact Kd.own_blk (Kd.R_ne HO_5.out BK335.out (by decide))) | (show (Addr.add _ _).block ≠ _; rw [add_block]; exact Kd.own_blk (Kd.R_ne HO_5.out BK335.out (by decide))) | (dsimp only; exact Kd.own_blk (Kd.R_ne HO_5.out BK335.out (by decide)))) _).trans (((cell_far (p := ⟨gb335, _, none⟩) (by first | exact Kd.own_blk (Kd.R_ne HO_5.out BK335.out (by decide)) | (rw [add_block]; exact Kd.own_blk (Kd.R_ne HO_5.out BK335.out (by decide))) | (show (Addr.add _ _).block ≠ _; rw [add_block]; exact Kd.own_blk (Kd.R_ne HO_5.out BK335.out (by decide))) | (dsimp only; exact Kd.own_blk (Kd.R_ne HO_5.out BK335.out (by decide)))) _).trans (((cell_far (p := ⟨gb335, _, none⟩) (by first | exact Kd.own_blk (Kd.R_ne HO_5.out BK335.out (by decide)) | (rw [add_block]; exact Kd.own_blk (Kd.R_ne HO_5.out BK335.out (by decide))) | (show (Addr.add _ _).block ≠ _; rw [add_block]; exact Kd.own_blk (Kd.R_ne HO_5.out BK335.out (by decide))) | (dsimp only; exact Kd.own_blk (Kd.R_ne HO_5.out BK335.out (by decide)))) _).trans (((cell_far (p := ⟨gb335, _, none⟩) (by first | exact Kd.own_blk (Kd.R_ne HO_5.out BK335.out (by decide)) | (rw [add_block]; exact Kd.own_blk (Kd.R_ne HO_5.out BK335.out (by decide))) | (show (Addr.add _ _).block ≠ _; rw [add_block]; exact Kd.own_blk (Kd.R_ne HO_5.out BK335.out (by decide))) | (dsimp only; exact Kd.own_blk (Kd.R_ne HO_5.out BK335.out (by decide)))) _).trans (hHeld.1)))))))), ((cell_far (p := ⟨gb335, _, none⟩) (by first | exact Kd.own_blk (Kd.R_ne HO_5.out BK335.out (by decide)) | (rw [add_block]; exact Kd.own_blk (Kd.R_ne HO_5.out BK335.out (by decide))) | (show (Addr.add _ _).block ≠ _; rw [add_block]; exact Kd.own_blk (Kd.R_ne HO_5.out BK335.out (by decide))) | (dsimp only; exact Kd.own_blk (Kd.R_ne HO_5.out BK335.out (by decide)))) _).trans (((cell_far (p := ⟨gb335, _, none⟩) (by first | exact Kd.own_blk (Kd.R_ne HO_5.out BK335.out (by decide)) | (rw [add_block]; exact Kd.own_blk (Kd.R_ne HO_5.out BK335.out (by decide))) | (show (Addr.add _ _).block ≠ _; rw [add_block]; exact Kd.own_blk (Kd.R_ne HO_5.out BK335.out (by decide))) | (dsimp only; exact Kd.own_blk (Kd.R_ne HO_5.out BK335.out (by decide)))) _).trans (((cell_far (p := ⟨gb335, _, none⟩) (by first | exact Kd.own_blk (Kd.R_ne HO_5.out BK335.out (by decide)) | (rw [add_block]; exact Kd.own_blk (Kd.R_ne HO_5.out BK335.out (by decide))) | (show (Addr.add _ _).block ≠ _; rw [add_block]; exact Kd.own_blk (Kd.R_ne HO_5.out BK335.out (by decide))) | (dsimp only; exact Kd.own_blk (Kd.R_ne HO_5.out BK335.out (by decide)))) _).trans (((cell_far (p := ⟨gb335, _, none⟩) (by first | exact Kd.own_blk (Kd.R_ne HO_5.out BK335.out (by decide)) | (rw [add_block]; exact Kd.own_blk (Kd.R_ne HO_5.out BK335.out (by decide))) | (show (Addr.add _ _).block ≠ _; rw [add_block]; exact Kd.own_blk (Kd.R_ne HO_5.out BK335.out (by decide))) | (dsimp only; exact Kd.own_blk (Kd.R_ne HO_5.out BK335.out (by decide)))) _).trans (hHeld.2.1)))))))), ((cell_far (p := ⟨gb335, _, none⟩) (by first | exact Kd.own_blk (Kd.R_ne HO_6.out BK335.out (by decide)) | (rw [add_block]; exact Kd.own_blk (Kd.R_ne HO_6.out BK335.out (by decide))) | (show (Addr.add _ _).block ≠ _; rw [add_block]; exact Kd.own_blk (Kd.R_ne HO_6.out BK335.out (by decide))) | (dsimp only; exact Kd.own_blk (Kd.R_ne HO_6.out BK335.out (by decide)))) _).trans (((cell_far (p := ⟨gb335, _, none⟩) (by first | exact Kd.own_blk (Kd.R_ne HO_6.out BK335.out (by decide)) | (rw [add_block]; exact Kd.own_blk (Kd.R_ne HO_6.out BK335.out (by decide))) | (show (Addr.add _ _).block ≠ _; rw [add_block]; exact Kd.own_blk (Kd.R_ne HO_6.out BK335.out (by decide))) | (dsimp only; exact Kd.own_blk (Kd.R_ne HO_6.out BK335.out (by decide)))) _).trans (((cell_far (p := ⟨gb335, _, none⟩) (by first | exact Kd.own_blk (Kd.R_ne HO_6.out BK335.out (by decide)) | (rw [add_block]; exact Kd.own_blk (Kd.R_ne HO_6.out BK335.out (by decide))) | (show (Addr.add _ _).block ≠ _; rw [add_block]; exact Kd.own_blk (Kd.R_ne HO_6.out BK335.out (by decide))) | (dsimp only; exact Kd.own_blk (Kd.R_ne HO_6.out BK335.out (by decide)))) _).trans (((cell_far (p := ⟨gb335, _, none⟩) (by first | exact Kd.own_blk (Kd.R_ne HO_6.out BK335.out (by decide)) | (rw [add_block]; exact Kd.own_blk (Kd.R_ne HO_6.out BK335.out (by decide))) | (show (Addr.add _ _).block ≠ _; rw [add_block]; exact Kd.own_blk (Kd.R_ne HO_6.out BK335.out (by decide))) | (dsimp only; exact Kd.own_blk (Kd.R_ne HO_6.out BK335.out (by decide)))) _).trans (hHeld.2.2.1)))))))), ((cell_far (p := ⟨gb335, _, none⟩) (by first | exact Kd.own_blk (Kd.R_ne HO_6.out BK335.out (by decide)) | (rw [add_block]; exact Kd.own_blk (Kd.R_ne HO_6.out BK335.out (by decide))) | (show (Addr.add _ _).block ≠ _; rw [add_block]; exact Kd.own_blk (Kd.R_ne HO_6.out BK335.out (by decide))) | (dsimp only; exact Kd.own_blk (Kd.R_ne HO_6.out BK335.out (by decide)))) _).trans (((cell_far (p := ⟨gb335, _, none⟩) (by first | exact Kd.own_blk (Kd.R_ne HO_6.out BK335.out (by decide)) | (rw [add_block]; exact Kd.own_blk (Kd.R_ne HO_6.out BK335.out (by decide))) | (show (Addr.add _ _).block ≠ _; rw [add_block]; exact Kd.own_blk (Kd.R_ne HO_6.out BK335.out (by decide))) | (dsimp only; exact Kd.own_blk (Kd.R_ne HO_6.out BK335.out (by decide)))) _).trans (((cell_far (p := ⟨gb335, _, none⟩) (by first | exact Kd.own_blk (Kd.R_ne HO_6.out BK335.out (by decide)) | (rw [add_block]; exact Kd.own_blk (Kd.R_ne HO_6.out BK335.out (by decide))) | (show (Addr.add _ _).block ≠ _; rw [add_block]; exact Kd.own_blk (Kd.R_ne HO_6.out BK335.out (by decide))) | (dsimp only; exact Kd.own_blk (Kd.R_ne HO_6.out BK335.out (by decide)))) _).trans (((cell_far (p := ⟨gb335, _, none⟩) (by first | exact Kd.own_blk (Kd.R_ne HO_6.out BK335.out (by decide)) | (rw [add_block]; exact Kd.own_blk (Kd.R_ne HO_6.out BK335.out (by decide))) | (show (Addr.add _ _).block ≠ _; rw [add_block]; exact Kd.own_blk (Kd.R_ne HO_6.out BK335.out (by decide))) | (dsimp only; exact Kd.own_blk (Kd.R_ne HO_6.out BK335.out (by decide)))) _).trans (hHeld.2.2.2.1)))))))), ((cell_far (p := ⟨gb335, _, none⟩) (by first | exact Kd.own_blk (Kd.R_ne HO_5.out BK335.out (by decide)) | (rw [add_block]; exact Kd.own_blk (Kd.R_ne HO_5.out BK335.out (by decide))) | (show (Addr.add _ _).block ≠ _; rw [add_block]; exact Kd.own_blk (Kd.R_ne HO_5.out BK335.out (by decide))) | (dsimp only; exact Kd.own_blk (Kd.R_ne HO_5.out BK335.out (by decide)))) _).trans (((cell_far (p := ⟨gb335, _, none⟩) (by first | exact Kd.own_blk (Kd.R_ne HO_5.out BK335.out (by decide)) | (rw [add_block]; exact Kd.own_blk (Kd.R_ne HO_5.out BK335.out (by decide))) | (show (Addr.add _ _).block ≠ _; rw [add_block]; exact Kd.own_blk (Kd.R_ne HO_5.out BK335.out (by decide))) | (dsimp only; exact Kd.own_blk (Kd.R_ne HO_5.out BK335.out (by decide)))) _).trans (((cell_far (p := ⟨gb335, _, none⟩) (by first | exact Kd.own_blk (Kd.R_ne HO_5.out BK335.out (by decide)) | (rw [add_block]; exact Kd.own_blk (Kd.R_ne HO_5.out BK335.out (by decide))) | (show (Addr.add _ _).block ≠ _; rw [add_block]; exact Kd.own_blk (Kd.R_ne HO_5.out BK335.out (by decide))) | (dsimp only; exact Kd.own_blk (Kd.R_ne HO_5.out BK335.out (by decide)))) _).trans (((cell_far (p := ⟨gb335, _, none⟩) (by first | exact Kd.own_blk (Kd.R_ne HO_5.out BK335.out (by decide)) | (rw [add_block]; exact Kd.own_blk (Kd.R_ne HO_5.out BK335.out (by decide))) | (show (Addr.add _ _).block ≠ _; rw [add_block]; exact Kd.own_blk (Kd.R_ne HO_5.out BK335.out (by decide))) | (dsimp only; exact Kd.own_blk (Kd.R_ne HO_5.out BK335.out (by decide)))) _).trans (hHeld.2.2.2.2.1)))))))), ((cell_far (p := ⟨gb335, _, none⟩) (by first | exact Kd.own_blk (Kd.R_ne HO_5.out BK335.out (by decide)) | (rw [add_block]; exact Kd.own_blk (Kd.R_ne HO_5.out BK335.out (by decide))) | (show (Addr.add _ _).block ≠ _; rw [add_block]; exact Kd.own_blk (Kd.R_ne HO_5.out BK335.out (by decide))) | (dsimp only; exact Kd.own_blk (Kd.R_ne HO_5.out BK335.out (by decide)))) _).trans (((cell_far (p := ⟨gb335, _, none⟩) (by first | exact Kd.own_blk (Kd.R_ne HO_5.out BK335.out (by decide)) | (rw [add_block]; exact Kd.own_blk (Kd.R_ne HO_5.out BK335.out (by decide))) | (show (Addr.add _ _).block ≠ _; rw [add_block]; exact Kd.own_blk (Kd.R_ne HO_5.out BK335.out (by decide))) | (dsimp only; exact Kd.own_blk (Kd.R_ne HO_5.out BK335.out (by decide)))) _).trans (((cell_far (p := ⟨gb335, _, none⟩) (by first | exact Kd.own_blk (Kd.R_ne HO_5.out BK335.out (by decide)) | (rw [add_block]; exact Kd.own_blk (Kd.R_ne HO_5.out BK335.out (by decide))) | (show (Addr.add _ _).block ≠ _; rw [add_block]; exact Kd.own_blk (Kd.R_ne HO_5.out BK335.out (by decide))) | (dsimp only; exact Kd.own_blk (Kd.R_ne HO_5.out BK335.out (by decide)))) _).trans (((cell_far (p := ⟨gb335, _, none⟩) (by first | exact Kd.own_blk (Kd.R_ne HO_5.out BK335.out (by decide)) | (rw [add_block]; exact Kd.own_blk (Kd.R_ne HO_5.out BK335.out (by decide))) | (show (Addr.add _ _).block ≠ _; rw [add_block]; exact Kd.own_blk (Kd.R_ne HO_5.out BK335.out (by decide))) | (dsimp only; exact Kd.own_blk (Kd.R_ne HO_5.out BK335.out (by decide)))) _).trans (hHeld.2.2.2.2.2.1)))))))), ((cell_far (p := ⟨gb335, _, none⟩) (by first | exact Kd.own_blk (Kd.R_ne HO_6.out BK335.out (by decide)) | (rw [add_block]; exact Kd.own_blk (Kd.R_ne HO_6.out BK335.out (by decide))) | (show (Addr.add _ _).block ≠ _; rw [add_block]; exact Kd.own_blk (Kd.R_ne HO_6.out BK335.out (by decide))) | (dsimp only; exact Kd.own_blk (Kd.R_ne HO_6.out BK335.out (by decide)))) _).trans (((cell_far (p := ⟨gb335, _, none⟩) (by first | exact Kd.own_blk (Kd.R_ne HO_6.out BK335.out (by decide)) | (rw [add_block]; exact Kd.own_blk (Kd.R_ne HO_6.out BK335.out (by decide))) | (show (Addr.add _ _).block ≠ _; rw [add_block]; exact Kd.own_blk (Kd.R_ne HO_6.out BK335.out (by decide))) | (dsimp only; exact Kd.own_blk (Kd.R_ne HO_6.out BK335.out (by decide)))) _).trans (((cell_far (p := ⟨gb335, _, none⟩) (by first | exact Kd.own_blk (Kd.R_ne HO_6.out BK335.out (by decide)) | (rw [add_block]; exact Kd.own_blk (Kd.R_ne HO_6.out BK335.out (by decide))) | (show (Addr.add _ _).block ≠ _; rw [add_block]; exact Kd.own_blk (Kd.R_ne HO_6.out BK335.out (by decide))) | (dsimp only; exact Kd.own_blk (Kd.R_ne HO_6.out BK335.out (by decide)))) _).trans (((cell_far (p := ⟨gb335, _, none⟩) (by first | exact Kd.own_blk (Kd.R_ne HO_6.out BK335.out (by decide)) | (rw [add_block]; exact Kd.own_blk (Kd.R_ne HO_6.out BK335.out (by decide))) | (show (Addr.add _ _).block ≠ _; rw [add_block]; exact Kd.own_blk (Kd.R_ne HO_6.out BK335.out (by decide))) | (dsimp only; exact Kd.own_blk (Kd.R_ne HO_6.out BK335.out (by decide)))) _).trans (hHeld.2.2.2.2.2.2.1)))))))), ((cell_far (p := ⟨gb335, _, none⟩) (by first | exact Kd.own_blk (Kd.R_ne HO_6.out BK335.out (by decide)) | (rw [add_block]; exact Kd.own_blk (Kd.R_ne HO_6.out BK335.out (by decide))) | (show (Addr.add _ _).block ≠ _; rw [add_block]; exact Kd.own_blk (Kd.R_ne HO_6.out BK335.out (by decide))) | (dsimp only; exact Kd.own_blk (Kd.R_ne HO_6.out BK335.out (by decide)))) _).trans (((cell_far (p := ⟨gb335, _, none⟩) (by first | exact Kd.own_blk (Kd.R_ne HO_6.out BK335.out (by decide)) | (rw [add_block]; exact Kd.own_blk (Kd.R_ne HO_6.out BK335.out (by decide))) | (show (Addr.add _ _).block ≠ _; rw [add_block]; exact Kd.own_blk (Kd.R_ne HO_6.out BK335.out (by decide))) | (dsimp only; exact Kd.own_blk (Kd.R_ne HO_6.out BK335.out (by decide)))) _).trans (((cell_far (p := ⟨gb335, _, none⟩) (by first | exact Kd.own_blk (Kd.R_ne HO_6.out BK335.out (by decide)) | (rw [add_block]; exact Kd.own_blk (Kd.R_ne HO_6.out BK335.out (by decide))) | (show (Addr.add _ _).block ≠ _; rw [add_block]; exact Kd.own_blk (Kd.R_ne HO_6.out BK335.out (by decide))) | (dsimp only; exact Kd.own_blk (Kd.R_ne HO_6.out BK335.out (by decide)))) _).trans (((cell_far (p := ⟨gb335, _, none⟩) (by first | exact Kd.own_blk (Kd.R_ne HO_6.out BK335.out (by decide)) | (rw [add_block]; exact Kd.own_blk (Kd.R_ne HO_6.out BK335.out (by decide))) | (show (Addr.add _ _).block ≠ _; rw [add_block]; exact Kd.own_blk (Kd.R_ne HO_6.out BK335.out (by decide))) | (dsimp only; exact Kd.own_blk (Kd.R_ne HO_6.out BK335.out (by decide)))) _).trans (hHeld.2.2.2.2.2.2.2))))))))⟩ (fun hHeld => ?_)
                                  clear hK K
                                  refine done_ (done_of HT_.out (by kernel_rfl)) ?_
                                  try go_wp2
                                  go_loopg [12] kj16 (fun kq v12 w' => ∃ (x12_4 : Int), v12 = .int .i64 x12_4 ∧ Aside0 (torchonref06_Leading.l2 kq t317 t320 x7_2 x8_1 x9_2 x12_4 a0_0 a0_1 a0_2 a1_0 a1_1 a1_2 ((rd_T37 t317 x8_1).f0) ((rd_T37 t320 x9_2).f0) ((rd_T37 t317 x8_1).f1) ((rd_T37 t320 x9_2).f1) = some r) ∧ Aside0 (kq ≤ kj16) ∧ Aside0 (Kd.R k37 37 w' w.heap.size (fun k_ => some k_ ≠ ((.slice (some ad325) t320.length co18) : Value).ownBlock) (.slice (some ad324) t317.length co11) t317) ∧ Aside0 (Kd.R k37 37 w' w.heap.size (fun k_ => some k_ ≠ ((.slice (some ad324) t317.length co11) : Value).ownBlock) (.slice (some ad325) t320.length co18) t320) ∧ Aside0 (Kd.R k25 25 w' w.heap.size (fun k_ => k_ ≠ gb335) u7 x7_2) ∧ Aside0 (w'.heap[gb315]? = some (.cells #[.int .i64 a0_0, .int .i64 a0_1, .int .i64 a0_2] 23 (0, 0))) ∧ Aside0 (w'.heap[gb316]? = some (.cells #[.int .i64 a1_0, .int .i64 a1_1, .int .i64 a1_2] 23 (0, 0))) ∧ Aside0 (w'.heap[gb335]? = some (.cells #[.int .i64 ((rd_T37 t317 x8_1).f0), .int .i64 ((rd_T37 t320 x9_2).f0), .int .i64 ((rd_T37 t317 x8_1).f1), .int .i64 ((rd_T37 t320 x9_2).f1)] 25 (0, 0))) ∧ Aside0 (Below w.heap.size w w'))
                                  case atStart => exact ⟨(0), (by first | rfl | (simp; done) | (simp [*]; done)), H', ⟨Nat.le_refl _⟩, ⟨by (with_reducible repeat (first | apply Kd.R_alloc | apply Kd.R_drewN | apply Kd.R_drew)); exact Kd.R_mono (Kd.R_far (p := ⟨gb335, 3, none⟩) (Kd.R_far (p := ⟨gb335, 2, none⟩) (Kd.R_far (p := ⟨gb335, 1, none⟩) (Kd.R_far (p := ⟨gb335, 0, none⟩) (Kd.R_types HO_5.out BK335.out (by decide)) (fun _ hk => hk.2) (.int .i64 ((rd_T37 t317 x8_1).f0))) (fun _ hk => hk.2) (.int .i64 ((rd_T37 t320 x9_2).f0))) (fun _ hk => hk.2) (.int .i64 ((rd_T37 t317 x8_1).f1))) (fun _ hk => hk.2) (.int .i64 ((rd_T37 t320 x9_2).f1))) (fun _ hk => hk.1)⟩, ⟨by (with_reducible repeat (first | apply Kd.R_alloc | apply Kd.R_drewN | apply Kd.R_drew)); exact Kd.R_mono (Kd.R_far (p := ⟨gb335, 3, none⟩) (Kd.R_far (p := ⟨gb335, 2, none⟩) (Kd.R_far (p := ⟨gb335, 1, none⟩) (Kd.R_far (p := ⟨gb335, 0, none⟩) (Kd.R_types HO_6.out BK335.out (by decide)) (fun _ hk => hk.2) (.int .i64 ((rd_T37 t317 x8_1).f0))) (fun _ hk => hk.2) (.int .i64 ((rd_T37 t320 x9_2).f0))) (fun _ hk => hk.2) (.int .i64 ((rd_T37 t317 x8_1).f1))) (fun _ hk => hk.2) (.int .i64 ((rd_T37 t320 x9_2).f1))) (fun _ hk => hk.1)⟩, ⟨by (with_reducible repeat (first | apply Kd.R_alloc | apply Kd.R_drewN | apply Kd.R_drew)); exact Kd.R_mono (Kd.R_far (p := ⟨gb335, 3, none⟩) (Kd.R_far (p := ⟨gb335, 2, none⟩) (Kd.R_far (p := ⟨gb335, 1, none⟩) (Kd.R_far (p := ⟨gb335, 0, none⟩) (Kd.R_mono HO_7.out (fun k_ hk => (⟨hk, hk.2⟩ : _ ∧ k_ ≠ gb335))) (fun _ hk => hk.2) (.int .i64 ((rd_T37 t317 x8_1).f0))) (fun _ hk => hk.2) (.int .i64 ((rd_T37 t320 x9_2).f0))) (fun _ hk => hk.2) (.int .i64 ((rd_T37 t317 x8_1).f1))) (fun _ hk => hk.2) (.int .i64 ((rd_T37 t320 x9_2).f1))) (fun _ hk => hk.1.2)⟩, ⟨by (with_reducible repeat (first | refine blk_drewN ?_ _ | refine blk_drew ?_ | refine blk_alloc ?_ _)); refine blk_far ?_ NB315_335.out _; (with_reducible repeat (first | refine blk_drewN ?_ _ | refine blk_drew ?_ | refine blk_alloc ?_ _)); refine blk_far ?_ NB315_335.out _; (with_reducible repeat (first | refine blk_drewN ?_ _ | refine blk_drew ?_ | refine blk_alloc ?_ _)); refine blk_far ?_ NB315_335.out _; (with_reducible repeat (first | refine blk_drewN ?_ _ | refine blk_drew ?_ | refine blk_alloc ?_ _)); refine blk_far ?_ NB315_335.out _; (with_reducible repeat (first | refine blk_drewN ?_ _ | refine blk_drew ?_ | refine blk_alloc ?_ _)); exact BK315.out⟩, ⟨by (with_reducible repeat (first | refine blk_drewN ?_ _ | refine blk_drew ?_ | refine blk_alloc ?_ _)); refine blk_far ?_ NB316_335.out _; (with_reducible repeat (first | refine blk_drewN ?_ _ | refine blk_drew ?_ | refine blk_alloc ?_ _)); refine blk_far ?_ NB316_335.out _; (with_reducible repeat (first | refine blk_drewN ?_ _ | refine blk_drew ?_ | refine blk_alloc ?_ _)); refine blk_far ?_ NB316_335.out _; (with_reducible repeat (first | refine blk_drewN ?_ _ | refine blk_drew ?_ | refine blk_alloc ?_ _)); refine blk_far ?_ NB316_335.out _; (with_reducible repeat (first | refine blk_drewN ?_ _ | refine blk_drew ?_ | refine blk_alloc ?_ _)); exact BK316.out⟩, ⟨by (with_reducible repeat (first | refine blk_drewN ?_ _ | refine blk_drew ?_ | refine blk_alloc ?_ _)); refine blk_put (cs := #[.int .i64 ((rd_T37 t317 x8_1).f0), .int .i64 ((rd_T37 t320 x9_2).f0), .int .i64 ((rd_T37 t317 x8_1).f1), .int .i64 0]) ?_ 3 _ rfl; (with_reducible repeat (first | refine blk_drewN ?_ _ | refine blk_drew ?_ | refine blk_alloc ?_ _)); refine blk_put (cs := #[.int .i64 ((rd_T37 t317 x8_1).f0), .int .i64 ((rd_T37 t320 x9_2).f0), .int .i64 0, .int .i64 0]) ?_ 2 _ rfl; (with_reducible repeat (first | refine blk_drewN ?_ _ | refine blk_drew ?_ | refine blk_alloc ?_ _)); refine blk_put (cs := #[.int .i64 ((rd_T37 t317 x8_1).f0), .int .i64 0, .int .i64 0, .int .i64 0]) ?_ 1 _ rfl; (with_reducible repeat (first | refine blk_drewN ?_ _ | refine blk_drew ?_ | refine blk_alloc ?_ _)); refine blk_put (cs := #[.int .i64 0, .int .i64 0, .int .i64 0, .int .i64 0]) ?_ 0 _ rfl; (with_reducible repeat (first | refine blk_drewN ?_ _ | refine blk_drew ?_ | refine blk_alloc ?_ _)); exact BK335.out⟩, ⟨bnow HB⟩⟩
                                  case round =>
                                    clear H'
                                    try clear c2; try clear p2; try clear c3; try clear p3; try clear q3; try clear hx3; try clear c4; try clear p6; try clear c22; try clear c22b0; try clear c22b1; try clear c23; try clear c23b0; try clear c23b1; try clear c30; try clear c32; try clear c32b0; try clear p32; try clear q32; try clear hx32; try clear c33; try clear c33b0; try clear p33; try clear q33; try clear hx33; try clear c34; try clear c34b0; try clear c35; try clear c35b0; try clear hx327_0; try clear hx327_1; try clear hx328_0; try clear hx328_1; try clear hx331_0; try clear hx331_1; try clear hx332_0; try clear hx332_1; try clear hx333_0; try clear hx333_1; try clear hx334_0; try clear hx334_1; try clear p2; try clear p3; try clear p327; try clear p328; try clear p331; try clear p332; try clear p333; try clear p334; try clear q3; try clear q327; try clear q328; try clear q331; try clear q332; try clear q333; try clear q334
                                    obtain ⟨x12_4, rfl, HA, HK4, HO_5, HO_6, HO_7, BK315, BK316, BK335, HB⟩ := hrel
                                    cases gk with
                                    | zero => exact absurd HA.out (by simp [torchonref06_Leading.l2])
                                    | succ k4 =>
                                      have H := HA.out
                                      clear HA
                                      simp only [torchonref06_Leading.l2] at H
                                      by_cases c42 : x12_4 < (x7_2.length : Int)
                                      · rw [if_pos c42] at H
                                        have c42b0 : decide (x12_4 < (x7_2.length : Int)) = true := decide_eq_true c42
                                        clear c42
                                        by_cases c43 : 0 ≤ x12_4
                                        · rw [if_pos c43] at H
                                          have c43b0 : decide (0 ≤ x12_4) = true := decide_eq_true c43
                                          clear c43
                                          obtain ⟨t337, A44, H⟩ := ob H
                                          by_cases c45 : t337 = true
                                          · subst c45
                                            have H1 : ((some (wrap64 (x12_4 + 1))).bind fun z338 => (torchonref06_Leading.l2 k4 t317 t320 x7_2 x8_1 x9_2 z338 a0_0 a0_1 a0_2 a1_0 a1_1 a1_2 ((rd_T37 t317 x8_1).f0) ((rd_T37 t320 x9_2).f0) ((rd_T37 t317 x8_1).f1) ((rd_T37 t320 x9_2).f1))) = some r := by rw [if_pos rfl] at H; exact H
                                            clear H
                                            have H := H1
                                            clear H1
                                            obtain ⟨z338, E460, H⟩ := oc H
                                            have E46w : (IntKind.i64.wrap (x12_4 + 1)) = z338 := (i64_w _).trans E460
                                            have H' := Aside0.mk H
                                            clear H
                                            try go_wp2
                                            replace HO_5 := Aside0.mk (Kd.R_drew HO_5.out)
                                            replace HO_6 := Aside0.mk (Kd.R_drew HO_6.out)
                                            replace HO_7 := Aside0.mk (Kd.R_drew HO_7.out)
                                            replace BK315 := bd BK315
                                            replace BK316 := bd BK316
                                            replace BK335 := bd BK335
                                            replace HB := bdn HB
                                            obtain ⟨Ao48, co48, eo48⟩ := Kd.R_slice HO_7.out
                                            (first | subst eo48 | (injection eo48 with f1_ f2_ f3_; have f4_ := f1_.symm; have f5_ := f3_.symm; clear f1_ f2_ f3_; subst f4_; subst f5_))
                                            have p336 : 0 ≤ (x12_4 : Int) := of_decide_eq_true (by first | (with_reducible assumption) | assumption)
                                            have q336 : x12_4 < (x7_2.length : Int) := of_decide_eq_true (by first | (with_reducible assumption) | assumption)
                                            obtain ⟨ad336, e336, hx336_0, hx336_1, hx336_2, hx336_3⟩ := at_T25 (Kd.R_reads' HO_7.out).2.2 x12_4 p336 q336
                                            cases e336
                                            replace p336 := eq_true p336
                                            replace q336 := eq_true q336
                                            refine start_ (n := 12) (S := fun w' => w'.cell? ⟨gb335, 0, none⟩ = some (.int .i64 ((rd_T37 t317 x8_1).f0)) ∧ w'.cell? ⟨gb335, 1, none⟩ = some (.int .i64 ((rd_T37 t320 x9_2).f0)) ∧ w'.cell? ⟨gb335, 2, none⟩ = some (.int .i64 ((rd_T37 t317 x8_1).f1)) ∧ w'.cell? ⟨gb335, 3, none⟩ = some (.int .i64 ((rd_T37 t320 x9_2).f1)) ∧ w'.cell? (ad336.add ((x12_4).toNat * 4)) = some (.int .i64 ((rd_T25 x7_2 x12_4).f0)) ∧ w'.cell? ⟨(ad336.add ((x12_4).toNat * 4)).block, (ad336.add ((x12_4).toNat * 4)).off + 1, none⟩ = some (.int .i64 ((rd_T25 x7_2 x12_4).f1)) ∧ w'.cell? ⟨(ad336.add ((x12_4).toNat * 4)).block, (ad336.add ((x12_4).toNat * 4)).off + 2, none⟩ = some (.int .i64 ((rd_T25 x7_2 x12_4).f2)) ∧ w'.cell? ⟨(ad336.add ((x12_4).toNat * 4)).block, (ad336.add ((x12_4).toNat * 4)).off + 3, none⟩ = some (.int .i64 ((rd_T25 x7_2 x12_4).f3))) (ds := []) #[false, false, false, false, false, false, false, false, false, false, false, false] (by kernel_rfl) rfl rfl ⟨(blk_cell BK335.out 0).trans rfl, (blk_cell BK335.out 1).trans rfl, (blk_cell BK335.out 2).trans rfl, (blk_cell BK335.out 3).trans rfl, hx336_0, hx336_1, hx336_2, hx336_3⟩ (fun hHeld => ?_); refine with_tabW torchonref06_Leading.tab13 torchonref06_Leading.bits13 (fun HT_ HW_ => ?_)
                                            generalize wr.drew = w47 at HO_5 HO_6 HO_7 BK315 BK316 BK335 HB hx336_0 hx336_1 hx336_2 hx336_3 hHeld ⊢
                                            refine pz 0 85 HT_ ?_
                                            refine pz 1 86 HT_ ?_
                                            refine pz 2 87 HT_ ?_
                                            refine pz 3 88 HT_ ?_
                                            refine pz 4 89 HT_ ?_
                                            refine pz 5 90 HT_ ?_
                                            refine pz 6 91 HT_ ?_
                                            refine pz 7 92 HT_ ?_
                                            refine tz 8 93 HT_ HW_ hHeld ?_
                                            refine tz 9 94 HT_ HW_ hHeld ?_
                                            refine one_ (i := 10) (N := some 95) #[true, true, true, true, true, true, true, true, true, true, true, false] rfl rfl (one_of HT_.out (by kernel_rfl)) (by decide) (fun K hK => ?_)
                                            refine gs _ Try.func75 (torchonref06_Less.calls ((rd_T25 x7_2 x12_4).f0) ((rd_T25 x7_2 x12_4).f1) ((rd_T25 x7_2 x12_4).f2) ((rd_T25 x7_2 x12_4).f3) ((rd_T37 t317 x8_1).f0) ((rd_T37 t320 x9_2).f0) ((rd_T37 t317 x8_1).f1) ((rd_T37 t320 x9_2).f1) true _ A44.out) ?_
                                            rintro e w49 ⟨rfl, hb⟩
                                            have HS4_ := (hb.cell (World.block_lt_of_cell? _ _ (hHeld.2.2.2.2.1))).trans (hHeld.2.2.2.2.1)
                                            have HS5_ := (hb.cell (World.block_lt_of_cell? _ _ (hHeld.2.2.2.2.2.1))).trans (hHeld.2.2.2.2.2.1)
                                            have HS6_ := (hb.cell (World.block_lt_of_cell? _ _ (hHeld.2.2.2.2.2.2.1))).trans (hHeld.2.2.2.2.2.2.1)
                                            have HS7_ := (hb.cell (World.block_lt_of_cell? _ _ (hHeld.2.2.2.2.2.2.2))).trans (hHeld.2.2.2.2.2.2.2)
                                            refine ⟨_, rfl, ?_⟩
                                            have n0_ := Aside0.mk (Kd.R_below (by (with_reducible repeat (first | apply Kd.R_alloc | apply Kd.R_drewN | apply Kd.R_drew)); exact HO_5.out) hb)
                                            have n1_ := Aside0.mk (Kd.R_below (by (with_reducible repeat (first | apply Kd.R_alloc | apply Kd.R_drewN | apply Kd.R_drew)); exact HO_6.out) hb)
                                            have n2_ := Aside0.mk (Kd.R_below (by (with_reducible repeat (first | apply Kd.R_alloc | apply Kd.R_drewN | apply Kd.R_drew)); exact HO_7.out) hb)
                                            have n3_ := bb BK315 hb
                                            have n4_ := bb BK316 hb
                                            have n5_ := bb BK335 hb
                                            have n6_ := bst HB hb
                                            clear HO_5
                                            clear HO_6
                                            clear HO_7
                                            clear BK315
                                            clear BK316
                                            clear BK335
                                            clear HB
                                            have HO_5 := n0_
                                            have HO_6 := n1_
                                            have HO_7 := n2_
                                            have BK315 := n3_
                                            have BK316 := n4_
                                            have BK335 := n5_
                                            have HB := n6_
                                            clear n0_ n1_ n2_ n3_ n4_ n5_ n6_
                                            (try clear hb)
                                            (try clear hb2)
                                            (try clear hk)
                                            (try clear hi)
                                            refine hK.out _ _ ⟨(blk_cell BK335.out 0).trans rfl, (blk_cell BK335.out 1).trans rfl, (blk_cell BK335.out 2).trans rfl, (blk_cell BK335.out 3).trans rfl, HS4_, HS5_, HS6_, HS7_⟩ (fun hHeld => ?_)
                                            clear hK K
                                            refine norm_ (a' := ?_) ?_ ?_
                                            rotate_left
                                            · show Act.put _ (some 95) _ = _
                                              simp only [Act.put, List.setIfInBounds_toArray, List.set_cons_zero, List.set_cons_succ, i64_w, i32_w]
                                              rfl
                                            refine pz 11 96 HT_ ?_
                                            refine done_ (done_of HT_.out (by kernel_rfl)) ?_
                                            try go_wp2
                                            go_roundg k4
                                            case measure => have := HK1.out; have := HK2.out; have := HJ16.out; have := HK4.out; omega
                                            case rel => exact ⟨(z338), (by first | rfl | (simp; done) | (simp [*]; done)), H', ⟨by have := HK1.out; have := HK2.out; have := HJ16.out; have := HK4.out; omega⟩, ⟨by (with_reducible repeat (first | apply Kd.R_alloc | apply Kd.R_drewN | apply Kd.R_drew)); exact HO_5.out⟩, ⟨by (with_reducible repeat (first | apply Kd.R_alloc | apply Kd.R_drewN | apply Kd.R_drew)); exact HO_6.out⟩, ⟨by (with_reducible repeat (first | apply Kd.R_alloc | apply Kd.R_drewN | apply Kd.R_drew)); exact HO_7.out⟩, ⟨pk BK315⟩, ⟨pk BK316⟩, ⟨pk BK335⟩, ⟨bnow HB⟩⟩
                                          · replace c45 := Bool.eq_false_iff.mpr c45
                                            subst c45
                                            have H1 : ((some (([] : List (S25)) : List (S25))).bind fun y339 => (if x12_4 ≤ (x7_2.length : Int) then ((some (x7_2.take (x12_4 : Int).toNat : List (S25))).bind fun y342 => (if y339.length + y342.length < 4398046511104 then ((some (y339 ++ y342 : List (S25))).bind fun y346 => (if y346.length < 4398046511104 then ((some (y346 ++ [(⟨((rd_T37 t317 x8_1).f0), ((rd_T37 t320 x9_2).f0), ((rd_T37 t317 x8_1).f1), ((rd_T37 t320 x9_2).f1)⟩ : S25)] : List (S25))).bind fun y349 => ((some (x7_2.drop (x12_4 : Int).toNat : List (S25))).bind fun y352 => (if y349.length + y352.length < 4398046511104 then ((some (wrap64 (x9_2 + 1))).bind fun z359 => (torchonref06_Leading.l1 k4 t317 t320 (y349 ++ y352) x8_1 z359 a0_0 a0_1 a0_2 a1_0 a1_1 a1_2)) else (none)))) else (none))) else (none))) else (none))) = some r := by rw [if_neg (show ¬ (false = true) by decide)] at H; exact H
                                            clear H
                                            have H := H1
                                            clear H1
                                            obtain ⟨y339, hy339⟩ : ∃ y_ : List (S25), y_ = (([] : List (S25))) := ⟨_, rfl⟩
                                            replace H : (if x12_4 ≤ (x7_2.length : Int) then ((some (x7_2.take (x12_4 : Int).toNat : List (S25))).bind fun y342 => (if y339.length + y342.length < 4398046511104 then ((some (y339 ++ y342 : List (S25))).bind fun y346 => (if y346.length < 4398046511104 then ((some (y346 ++ [(⟨((rd_T37 t317 x8_1).f0), ((rd_T37 t320 x9_2).f0), ((rd_T37 t317 x8_1).f1), ((rd_T37 t320 x9_2).f1)⟩ : S25)] : List (S25))).bind fun y349 => ((some (x7_2.drop (x12_4 : Int).toNat : List (S25))).bind fun y352 => (if y349.length + y352.length < 4398046511104 then ((some (wrap64 (x9_2 + 1))).bind fun z359 => (torchonref06_Leading.l1 k4 t317 t320 (y349 ++ y352) x8_1 z359 a0_0 a0_1 a0_2 a1_0 a1_1 a1_2)) else (none)))) else (none))) else (none))) else (none)) = some r := by first | (rw [hy339]; with_reducible exact H) | (have H2_ := (Option.bind_some _ _).symm.trans H; rw [hy339]; with_reducible exact H2_) | (have H2_ := (Option.bind_some _ _).symm.trans H; with_reducible exact H2_) | with_reducible exact H | (rw [hy339]; exact H) | exact H
                                            have Ny339 := Aside0.mk hy339
                                            clear hy339
                                            have c50b0 := eq_true (of_decide_eq_true (by first | (with_reducible assumption) | assumption) : 0 ≤ x12_4)
                                            by_cases c51 : x12_4 ≤ (x7_2.length : Int)
                                            · rw [if_pos c51] at H
                                              have c51b0 := eq_true c51
                                              have c51b1 : decide (x12_4 ≤ (x7_2.length : Int)) = true := decide_eq_true c51
                                              clear c51
                                              obtain ⟨y342, hy342⟩ : ∃ y_ : List (S25), y_ = (x7_2.take (x12_4 : Int).toNat) := ⟨_, rfl⟩
                                              replace H : (if y339.length + y342.length < 4398046511104 then ((some (y339 ++ y342 : List (S25))).bind fun y346 => (if y346.length < 4398046511104 then ((some (y346 ++ [(⟨((rd_T37 t317 x8_1).f0), ((rd_T37 t320 x9_2).f0), ((rd_T37 t317 x8_1).f1), ((rd_T37 t320 x9_2).f1)⟩ : S25)] : List (S25))).bind fun y349 => ((some (x7_2.drop (x12_4 : Int).toNat : List (S25))).bind fun y352 => (if y349.length + y352.length < 4398046511104 then ((some (wrap64 (x9_2 + 1))).bind fun z359 => (torchonref06_Leading.l1 k4 t317 t320 (y349 ++ y352) x8_1 z359 a0_0 a0_1 a0_2 a1_0 a1_1 a1_2)) else (none)))) else (none))) else (none)) = some r := by first | (rw [hy342]; with_reducible exact H) | (have H2_ := (Option.bind_some _ _).symm.trans H; rw [hy342]; with_reducible exact H2_) | (have H2_ := (Option.bind_some _ _).symm.trans H; with_reducible exact H2_) | with_reducible exact H | (rw [hy342]; exact H) | exact H
                                              have Ny342 := Aside0.mk hy342
                                              clear hy342
                                              by_cases c52 : y339.length + y342.length < 4398046511104
                                              · rw [if_pos c52] at H
                                                have LMc52 := Aside0.mk c52
                                                clear c52
                                                obtain ⟨y346, hy346⟩ : ∃ y_ : List (S25), y_ = (y339 ++ y342) := ⟨_, rfl⟩
                                                replace H : (if y346.length < 4398046511104 then ((some (y346 ++ [(⟨((rd_T37 t317 x8_1).f0), ((rd_T37 t320 x9_2).f0), ((rd_T37 t317 x8_1).f1), ((rd_T37 t320 x9_2).f1)⟩ : S25)] : List (S25))).bind fun y349 => ((some (x7_2.drop (x12_4 : Int).toNat : List (S25))).bind fun y352 => (if y349.length + y352.length < 4398046511104 then ((some (wrap64 (x9_2 + 1))).bind fun z359 => (torchonref06_Leading.l1 k4 t317 t320 (y349 ++ y352) x8_1 z359 a0_0 a0_1 a0_2 a1_0 a1_1 a1_2)) else (none)))) else (none)) = some r := by first | (rw [hy346]; with_reducible exact H) | (have H2_ := (Option.bind_some _ _).symm.trans H; rw [hy346]; with_reducible exact H2_) | (have H2_ := (Option.bind_some _ _).symm.trans H; with_reducible exact H2_) | with_reducible exact H | (rw [hy346]; exact H) | exact H
                                                have Ny346 := Aside0.mk hy346
                                                clear hy346
                                                by_cases c53 : y346.length < 4398046511104
                                                · rw [if_pos c53] at H
                                                  have LMc53 := Aside0.mk c53
                                                  clear c53
                                                  obtain ⟨y349, hy349⟩ : ∃ y_ : List (S25), y_ = (y346 ++ [(⟨((rd_T37 t317 x8_1).f0), ((rd_T37 t320 x9_2).f0), ((rd_T37 t317 x8_1).f1), ((rd_T37 t320 x9_2).f1)⟩ : S25)]) := ⟨_, rfl⟩
                                                  replace H : ((some (x7_2.drop (x12_4 : Int).toNat : List (S25))).bind fun y352 => (if y349.length + y352.length < 4398046511104 then ((some (wrap64 (x9_2 + 1))).bind fun z359 => (torchonref06_Leading.l1 k4 t317 t320 (y349 ++ y352) x8_1 z359 a0_0 a0_1 a0_2 a1_0 a1_1 a1_2)) else (none))) = some r := by first | (rw [hy349]; with_reducible exact H) | (have H2_ := (Option.bind_some _ _).symm.trans H; rw [hy349]; with_reducible exact H2_) | (have H2_ := (Option.bind_some _ _).symm.trans H; with_reducible exact H2_) | with_reducible exact H | (rw [hy349]; exact H) | exact H
                                                  have Ny349 := Aside0.mk hy349
                                                  clear hy349
                                                  have c54b0 := eq_true (of_decide_eq_true (by first | (with_reducible assumption) | assumption) : 0 ≤ x12_4)
                                                  have c55b0 := eq_true (of_decide_eq_true (by first | (with_reducible assumption) | assumption) : x12_4 ≤ (x7_2.length : Int))
                                                  obtain ⟨y352, hy352⟩ : ∃ y_ : List (S25), y_ = (x7_2.drop (x12_4 : Int).toNat) := ⟨_, rfl⟩
                                                  replace H : (if y349.length + y352.length < 4398046511104 then ((some (wrap64 (x9_2 + 1))).bind fun z359 => (torchonref06_Leading.l1 k4 t317 t320 (y349 ++ y352) x8_1 z359 a0_0 a0_1 a0_2 a1_0 a1_1 a1_2)) else (none)) = some r := by first | (rw [hy352]; with_reducible exact H) | (have H2_ := (Option.bind_some _ _).symm.trans H; rw [hy352]; with_reducible exact H2_) | (have H2_ := (Option.bind_some _ _).symm.trans H; with_reducible exact H2_) | with_reducible exact H | (rw [hy352]; exact H) | exact H
                                                  have Ny352 := Aside0.mk hy352
                                                  clear hy352
                                                  by_cases c56 : y349.length + y352.length < 4398046511104
                                                  · rw [if_pos c56] at H
                                                    have LMc56 := Aside0.mk c56
                                                    clear c56
                                                    obtain ⟨y356, hy356⟩ : ∃ y_ : List (S25), y_ = (y349 ++ y352) := ⟨_, rfl⟩
                                                    replace H : ((some (wrap64 (x9_2 + 1))).bind fun z359 => (torchonref06_Leading.l1 k4 t317 t320 y356 x8_1 z359 a0_0 a0_1 a0_2 a1_0 a1_1 a1_2)) = some r := by first | (rw [hy356]; with_reducible exact H) | (have H2_ := (Option.bind_some _ _).symm.trans H; rw [hy356]; with_reducible exact H2_) | (have H2_ := (Option.bind_some _ _).symm.trans H; with_reducible exact H2_) | with_reducible exact H | (rw [hy356]; exact H) | exact H
                                                    have Ny356 := Aside0.mk hy356
                                                    clear hy356
                                                    obtain ⟨z359, E570, H⟩ := oc H
                                                    have E57w : (IntKind.i64.wrap (x9_2 + 1)) = z359 := (i64_w _).trans E570
                                                    have H' := Aside0.mk H
                                                    clear H
                                                    try go_wp2
                                                    replace HO_5 := Aside0.mk (Kd.R_drew HO_5.out)
                                                    replace HO_6 := Aside0.mk (Kd.R_drew HO_6.out)
                                                    replace HO_7 := Aside0.mk (Kd.R_drew HO_7.out)
                                                    replace BK315 := bd BK315
                                                    replace BK316 := bd BK316
                                                    replace BK335 := bd BK335
                                                    replace HB := bdn HB
                                                    obtain ⟨Ao59, co59, eo59⟩ := Kd.R_slice HO_7.out
                                                    (first | subst eo59 | (injection eo59 with f1_ f2_ f3_; have f4_ := f1_.symm; have f5_ := f3_.symm; clear f1_ f2_ f3_; subst f4_; subst f5_))
                                                    have p336 : 0 ≤ (x12_4 : Int) := of_decide_eq_true (by first | (with_reducible assumption) | assumption)
                                                    have q336 : x12_4 < (x7_2.length : Int) := of_decide_eq_true (by first | (with_reducible assumption) | assumption)
                                                    obtain ⟨ad336, e336, hx336_0, hx336_1, hx336_2, hx336_3⟩ := at_T25 (Kd.R_reads' HO_7.out).2.2 x12_4 p336 q336
                                                    cases e336
                                                    replace p336 := eq_true p336
                                                    replace q336 := eq_true q336
                                                    refine start_ (n := 12) (S := fun w' => w'.cell? ⟨gb335, 0, none⟩ = some (.int .i64 ((rd_T37 t317 x8_1).f0)) ∧ w'.cell? ⟨gb335, 1, none⟩ = some (.int .i64 ((rd_T37 t320 x9_2).f0)) ∧ w'.cell? ⟨gb335, 2, none⟩ = some (.int .i64 ((rd_T37 t317 x8_1).f1)) ∧ w'.cell? ⟨gb335, 3, none⟩ = some (.int .i64 ((rd_T37 t320 x9_2).f1)) ∧ w'.cell? (ad336.add ((x12_4).toNat * 4)) = some (.int .i64 ((rd_T25 x7_2 x12_4).f0)) ∧ w'.cell? ⟨(ad336.add ((x12_4).toNat * 4)).block, (ad336.add ((x12_4).toNat * 4)).off + 1, none⟩ = some (.int .i64 ((rd_T25 x7_2 x12_4).f1)) ∧ w'.cell? ⟨(ad336.add ((x12_4).toNat * 4)).block, (ad336.add ((x12_4).toNat * 4)).off + 2, none⟩ = some (.int .i64 ((rd_T25 x7_2 x12_4).f2)) ∧ w'.cell? ⟨(ad336.add ((x12_4).toNat * 4)).block, (ad336.add ((x12_4).toNat * 4)).off + 3, none⟩ = some (.int .i64 ((rd_T25 x7_2 x12_4).f3))) (ds := []) #[false, false, false, false, false, false, false, false, false, false, false, false] (by kernel_rfl) rfl rfl ⟨(blk_cell BK335.out 0).trans rfl, (blk_cell BK335.out 1).trans rfl, (blk_cell BK335.out 2).trans rfl, (blk_cell BK335.out 3).trans rfl, hx336_0, hx336_1, hx336_2, hx336_3⟩ (fun hHeld => ?_); refine with_tabW torchonref06_Leading.tab13 torchonref06_Leading.bits13 (fun HT_ HW_ => ?_)
                                                    generalize wr.drew = w58 at HO_5 HO_6 HO_7 BK315 BK316 BK335 HB hx336_0 hx336_1 hx336_2 hx336_3 hHeld ⊢
                                                    refine pz 0 85 HT_ ?_
                                                    refine pz 1 86 HT_ ?_
                                                    refine pz 2 87 HT_ ?_
                                                    refine pz 3 88 HT_ ?_
                                                    refine pz 4 89 HT_ ?_
                                                    refine pz 5 90 HT_ ?_
                                                    refine pz 6 91 HT_ ?_
                                                    refine pz 7 92 HT_ ?_
                                                    refine tz 8 93 HT_ HW_ hHeld ?_
                                                    refine tz 9 94 HT_ HW_ hHeld ?_
                                                    refine one_ (i := 10) (N := some 95) #[true, true, true, true, true, true, true, true, true, true, true, false] rfl rfl (one_of HT_.out (by kernel_rfl)) (by decide) (fun K hK => ?_)
                                                    refine gs _ Try.func75 (torchonref06_Less.calls ((rd_T25 x7_2 x12_4).f0) ((rd_T25 x7_2 x12_4).f1) ((rd_T25 x7_2 x12_4).f2) ((rd_T25 x7_2 x12_4).f3) ((rd_T37 t317 x8_1).f0) ((rd_T37 t320 x9_2).f0) ((rd_T37 t317 x8_1).f1) ((rd_T37 t320 x9_2).f1) false _ A44.out) ?_
                                                    rintro e w60 ⟨rfl, hb⟩
                                                    have HS4_ := (hb.cell (World.block_lt_of_cell? _ _ (hHeld.2.2.2.2.1))).trans (hHeld.2.2.2.2.1)
                                                    have HS5_ := (hb.cell (World.block_lt_of_cell? _ _ (hHeld.2.2.2.2.2.1))).trans (hHeld.2.2.2.2.2.1)
                                                    have HS6_ := (hb.cell (World.block_lt_of_cell? _ _ (hHeld.2.2.2.2.2.2.1))).trans (hHeld.2.2.2.2.2.2.1)
                                                    have HS7_ := (hb.cell (World.block_lt_of_cell? _ _ (hHeld.2.2.2.2.2.2.2))).trans (hHeld.2.2.2.2.2.2.2)
                                                    refine ⟨_, rfl, ?_⟩
                                                    have n0_ := Aside0.mk (Kd.R_below (by (with_reducible repeat (first | apply Kd.R_alloc | apply Kd.R_drewN | apply Kd.R_drew)); exact HO_5.out) hb)
                                                    have n1_ := Aside0.mk (Kd.R_below (by (with_reducible repeat (first | apply Kd.R_alloc | apply Kd.R_drewN | apply Kd.R_drew)); exact HO_6.out) hb)
                                                    have n2_ := Aside0.mk (Kd.R_below (by (with_reducible repeat (first | apply Kd.R_alloc | apply Kd.R_drewN | apply Kd.R_drew)); exact HO_7.out) hb)
                                                    have n3_ := bb BK315 hb
                                                    have n4_ := bb BK316 hb
                                                    have n5_ := bb BK335 hb
                                                    have n6_ := bst HB hb
                                                    clear HO_5
                                                    clear HO_6
                                                    clear HO_7
                                                    clear BK315
                                                    clear BK316
                                                    clear BK335
                                                    clear HB
                                                    have HO_5 := n0_
                                                    have HO_6 := n1_
                                                    have HO_7 := n2_
                                                    have BK315 := n3_
                                                    have BK316 := n4_
                                                    have BK335 := n5_
                                                    have HB := n6_
                                                    clear n0_ n1_ n2_ n3_ n4_ n5_ n6_
                                                    (try clear hb)
                                                    (try clear hb2)
                                                    (try clear hk)
                                                    (try clear hi)
                                                    refine hK.out _ _ ⟨(blk_cell BK335.out 0).trans rfl, (blk_cell BK335.out 1).trans rfl, (blk_cell BK335.out 2).trans rfl, (blk_cell BK335.out 3).trans rfl, HS4_, HS5_, HS6_, HS7_⟩ (fun hHeld => ?_)
                                                    clear hK K
                                                    refine norm_ (a' := ?_) ?_ ?_
                                                    rotate_left
                                                    · show Act.put _ (some 95) _ = _
                                                      simp only [Act.put, List.setIfInBounds_toArray, List.set_cons_zero, List.set_cons_succ, i64_w, i32_w]
                                                      rfl
                                                    refine pz 11 96 HT_ ?_
                                                    refine done_ (done_of HT_.out (by kernel_rfl)) ?_
                                                    try go_wp2_with (first | ((with_reducible refine gate_dst (N := 99) rfl ?_); refine Kd.R_lit k25 _ 25 ?hg (N := 99) ?hd (xs := ([] : List (S25))) (inner := []) (ok := fun _ => True) (okp := fun _ => True) ?hr ?hp (fun _ hk => hk) trivial (Below.refl _ _) (Nat.le_refl _) (by simp) ?_; (case hd => rfl); (case hg => rfl); (case hr => first | (go_simp; done) | (go_simp; rfl)); (case hp => exact (Reps.none _ _)); intro v340 w61 ho62 hb hg_ hnew_; clear hg_ hnew_; (first | rw [← Ny339.out] at ho62 | (simp only [Int.reduceToNat] at ho62; rw [← Ny339.out] at ho62)); have HO341 := Aside0.mk (Kd.R_lower (Kd.R_newB (Kd.R_new' ho62 (Kd.R_lt (by (with_reducible repeat (first | apply Kd.R_alloc | apply Kd.R_drewN | apply Kd.R_drew)); exact HO_7.out))) (g := gb335) (o := .cells #[.int .i64 ((rd_T37 t317 x8_1).f0), .int .i64 ((rd_T37 t320 x9_2).f0), .int .i64 ((rd_T37 t317 x8_1).f1), .int .i64 ((rd_T37 t320 x9_2).f1)] 25 (0, 0)) (pk BK335)) (below_size (bnow HB))); replace HO_5 := Aside0.mk (Kd.R_below (by (with_reducible repeat (first | apply Kd.R_alloc | apply Kd.R_drewN | apply Kd.R_drew)); exact HO_5.out) hb); replace HO_6 := Aside0.mk (Kd.R_below (by (with_reducible repeat (first | apply Kd.R_alloc | apply Kd.R_drewN | apply Kd.R_drew)); exact HO_6.out) hb); replace HO_7 := Aside0.mk (Kd.R_elder' (by (with_reducible repeat (first | apply Kd.R_alloc | apply Kd.R_drewN | apply Kd.R_drew)); exact HO_7.out) (Kd.R_base ho62) hb); replace BK315 := bb BK315 hb; replace BK316 := bb BK316 hb; replace BK335 := bb BK335 hb; replace HB := bst HB hb; clear hb ho62; have q63 : (x12_4 : Int) ≤ ((x7_2.length : Int) : Int) := of_decide_eq_true (by first | (with_reducible assumption) | assumption); obtain ⟨i063, hi063, _, hsz63, _⟩ := info_parts info25; have hroom63 : x7_2.length ≤ co59 := (Kd.R_reads' HO_7.out).2.1; have hC63 : Kd.C k25 _ (some ad336) x7_2.length x7_2 := (Kd.R_reads' HO_7.out).2.2; have hcut63 := cut_to (P := Try.prog) 48 25 .i64 Try.underlying48 hi063 (some ad336) x7_2.length co59 x12_4 (of_decide_eq_true (by first | (with_reducible assumption) | assumption)) q63 hroom63; have hr63 := Kd.C_take (m := (x12_4 : Int).toNat) hC63 (by omega); have hy63 : y342.length = (x12_4 : Int).toNat := (by rw [Ny342.out, List.length_take]; omega); rw [← Ny342.out] at hr63; rw [← hy63] at hcut63; have HR345 := Aside0.mk hr63; have HC345 := Aside0.mk (show y342.length ≤ co59 from by omega); clear hr63 hC63 hroom63 hi063 hsz63; have KY63 := Aside0.mk hy63; clear hy63; have KL63 := Aside0.mk (show (x12_4 : Int).toNat ≤ x7_2.length from by omega); replace q63 := eq_true q63) | ((with_reducible refine gate_builtin (b := .append) (xs := #[.tmp 99, .tmp 102]) rfl ?_); at_builtin; refine Kd.R_append_rows k25 (w0 := w) w.heap.size rfl (.tmp 99) (.tmp 102) 48 25 (.agg #[(.int .i64 0), (.int .i64 0), (.int .i64 0), (.int .i64 0)]) 32 rfl Try.underlying48 info25 rfl (by decide) (by omega) v340 y339 y342 _ _ _ (fun k_ => some k_ ≠ (.slice (some ad336) x7_2.length co59 : Value).ownBlock ∧ k_ ≠ gb335) (fun _ => False) rfl rfl ?aO ?aR (fun _ _ h => h) (fun _ h => h.elim) ?aF ?aB ?aS ?aL ?_; (case aR => repeat (first | exact (by repeat (first | (with_reducible exact HR345.out) | (with_reducible refine Kd.C_alloc ?_ _) | (with_reducible refine Kd.C_drewN ?_ _) | (with_reducible refine Kd.C_drew ?_) | exact HR345.out)) | (with_reducible refine Kd.C_alloc ?_ _) | (with_reducible refine Kd.C_drewN ?_ _) | (with_reducible refine Kd.C_drew ?_))); (case aB => exact (bnow HB)); (case aF => exact (fun k_ hk => ⟨Kd.fresh' (Kd.R_lt (by (with_reducible repeat (first | apply Kd.R_alloc | apply Kd.R_drewN | apply Kd.R_drew)); exact HO_7.out)) k_ hk, Kd.freshB (g := gb335) (o := .cells #[.int .i64 ((rd_T37 t317 x8_1).f0), .int .i64 ((rd_T37 t320 x9_2).f0), .int .i64 ((rd_T37 t317 x8_1).f1), .int .i64 ((rd_T37 t320 x9_2).f1)] 25 (0, 0)) (pk BK335) k_ hk⟩)); (case aO => exact (by (with_reducible repeat (first | apply Kd.R_alloc | apply Kd.R_drewN | apply Kd.R_drew)); exact Kd.R_mono HO341.out (fun _ hk => ⟨hk.1.2, hk.2⟩))); (case aS => exact (below_size (bnow HB))); (case aL => have := LMc52.out; omega); intro v347 w64 ho hb hg hat; rw [← Ny346.out] at ho; have n0_ := Aside0.mk (Kd.R_over' (by (with_reducible repeat (first | apply Kd.R_alloc | apply Kd.R_drewN | apply Kd.R_drew)); exact HO_5.out) (Kd.R_typed (by (with_reducible repeat (first | apply Kd.R_alloc | apply Kd.R_drewN | apply Kd.R_drew)); exact HO341.out)) (by decide) hg); have n1_ := Aside0.mk (Kd.R_over' (by (with_reducible repeat (first | apply Kd.R_alloc | apply Kd.R_drewN | apply Kd.R_drew)); exact HO_6.out) (Kd.R_typed (by (with_reducible repeat (first | apply Kd.R_alloc | apply Kd.R_drewN | apply Kd.R_drew)); exact HO341.out)) (by decide) hg); have n2_ := Aside0.mk (Kd.R_after (ok := (fun k_ => k_ ≠ gb335)) (by (with_reducible repeat (first | apply Kd.R_alloc | apply Kd.R_drewN | apply Kd.R_drew)); exact HO_7.out) hg hat); have n3_ := Aside0.mk (blk_grown (g := gb315) (o := .cells #[.int .i64 a0_0, .int .i64 a0_1, .int .i64 a0_2] 23 (0, 0)) (pk BK315) hg (Kd.R_ne HO341.out BK315.out (by decide))); have n4_ := Aside0.mk (blk_grown (g := gb316) (o := .cells #[.int .i64 a1_0, .int .i64 a1_1, .int .i64 a1_2] 23 (0, 0)) (pk BK316) hg (Kd.R_ne HO341.out BK316.out (by decide))); have n5_ := Aside0.mk (blk_grown (g := gb335) (o := .cells #[.int .i64 ((rd_T37 t317 x8_1).f0), .int .i64 ((rd_T37 t320 x9_2).f0), .int .i64 ((rd_T37 t317 x8_1).f1), .int .i64 ((rd_T37 t320 x9_2).f1)] 25 (0, 0)) (pk BK335) hg (Kd.R_away HO341.out (fun _ hk => hk.2))); have n6_ := Aside0.mk (hb); have n7_ := Aside0.mk ((show Kd.C k25 w64 (some ad336) y342.length y342 from by rw [Ny342.out]; exact Kd.C_take (m := (x12_4 : Int).toNat) ((Kd.R_reads' (Kd.R_after (ok := (fun k_ => k_ ≠ gb335)) (by (with_reducible repeat (first | apply Kd.R_alloc | apply Kd.R_drewN | apply Kd.R_drew)); exact HO_7.out) hg hat)).2.2) KL63.out)); have n8_ := Aside0.mk (ho); clear HO_5; clear HO_6; clear HO_7; clear BK315; clear BK316; clear BK335; clear HB; clear HR345; clear HO341; have HO_5 := n0_; have HO_6 := n1_; have HO_7 := n2_; have BK315 := n3_; have BK316 := n4_; have BK335 := n5_; have HB := n6_; have HR345 := n7_; have HO348 := n8_; clear n0_ n1_ n2_ n3_ n4_ n5_ n6_ n7_ n8_; clear ho hb hg hat; have hnb65 := NB335_315.out; have hnc65 := NB315_335.out; have hnb66 := NB335_316.out; have hnc66 := NB316_335.out; have ⟨hcz67_0, hcz67_1, hcz67_2, hcz67_3, hfz67_0, hfz67_1, hfz67_2, hfz67_3⟩ := cf4 BK335) | ((with_reducible refine gate_builtin (b := .append) (xs := #[.tmp 104, .tmp 106]) rfl ?_); at_builtin; refine Kd.R_append k25 (w0 := w) w.heap.size rfl (.tmp 104) (.tmp 106) 48 25 (.agg #[(.int .i64 0), (.int .i64 0), (.int .i64 0), (.int .i64 0)]) 32 rfl Try.underlying48 info25 rfl (by decide) (by omega) v347 y346 (⟨((rd_T37 t317 x8_1).f0), ((rd_T37 t320 x9_2).f0), ((rd_T37 t317 x8_1).f1), ((rd_T37 t320 x9_2).f1)⟩ : S25) [.int .i64 ((rd_T37 t317 x8_1).f0), .int .i64 ((rd_T37 t320 x9_2).f0), .int .i64 ((rd_T37 t317 x8_1).f1), .int .i64 ((rd_T37 t320 x9_2).f1)] (fun k_ => some k_ ≠ (.slice (some ad336) x7_2.length co59 : Value).ownBlock ∧ k_ ≠ gb335) (fun _ => False) rfl rfl ?aP (fun _ hk => hk.elim) ?aF ?aO ?aB ?aS ?aL ?_; (case aP => exact k25_mkM _ _ _ (⟨((rd_T37 t317 x8_1).f0), ((rd_T37 t320 x9_2).f0), ((rd_T37 t317 x8_1).f1), ((rd_T37 t320 x9_2).f1)⟩ : S25)); (case aB => exact (bnow HB)); (case aF => exact (fun k_ hk => ⟨Kd.fresh' (Kd.R_lt (by (with_reducible repeat (first | apply Kd.R_alloc | apply Kd.R_drewN | apply Kd.R_drew)); exact HO_7.out)) k_ hk, Kd.freshB (g := gb335) (o := .cells #[.int .i64 ((rd_T37 t317 x8_1).f0), .int .i64 ((rd_T37 t320 x9_2).f0), .int .i64 ((rd_T37 t317 x8_1).f1), .int .i64 ((rd_T37 t320 x9_2).f1)] 25 (0, 0)) (pk BK335) k_ hk⟩)); (case aO => exact (by (with_reducible repeat (first | apply Kd.R_alloc | apply Kd.R_drewN | apply Kd.R_drew)); exact HO348.out)); (case aS => exact (below_size (bnow HB))); (case aL => have := LMc53.out; omega); intro v350 w68 ho hb hg hat; rw [← Ny349.out] at ho; have n0_ := Aside0.mk (Kd.R_over' (by (with_reducible repeat (first | apply Kd.R_alloc | apply Kd.R_drewN | apply Kd.R_drew)); exact HO_5.out) (Kd.R_typed (by (with_reducible repeat (first | apply Kd.R_alloc | apply Kd.R_drewN | apply Kd.R_drew)); exact HO348.out)) (by decide) hg); have n1_ := Aside0.mk (Kd.R_over' (by (with_reducible repeat (first | apply Kd.R_alloc | apply Kd.R_drewN | apply Kd.R_drew)); exact HO_6.out) (Kd.R_typed (by (with_reducible repeat (first | apply Kd.R_alloc | apply Kd.R_drewN | apply Kd.R_drew)); exact HO348.out)) (by decide) hg); have n2_ := Aside0.mk (Kd.R_after (ok := (fun k_ => k_ ≠ gb335)) (by (with_reducible repeat (first | apply Kd.R_alloc | apply Kd.R_drewN | apply Kd.R_drew)); exact HO_7.out) hg hat); have n3_ := Aside0.mk (blk_grown (g := gb315) (o := .cells #[.int .i64 a0_0, .int .i64 a0_1, .int .i64 a0_2] 23 (0, 0)) (pk BK315) hg (Kd.R_ne HO348.out BK315.out (by decide))); have n4_ := Aside0.mk (blk_grown (g := gb316) (o := .cells #[.int .i64 a1_0, .int .i64 a1_1, .int .i64 a1_2] 23 (0, 0)) (pk BK316) hg (Kd.R_ne HO348.out BK316.out (by decide))); have n5_ := Aside0.mk (blk_grown (g := gb335) (o := .cells #[.int .i64 ((rd_T37 t317 x8_1).f0), .int .i64 ((rd_T37 t320 x9_2).f0), .int .i64 ((rd_T37 t317 x8_1).f1), .int .i64 ((rd_T37 t320 x9_2).f1)] 25 (0, 0)) (pk BK335) hg (Kd.R_away HO348.out (fun _ hk => hk.2))); have n6_ := Aside0.mk (hb); have n7_ := Aside0.mk ((show Kd.C k25 w68 (some ad336) y342.length y342 from by rw [Ny342.out]; exact Kd.C_take (m := (x12_4 : Int).toNat) ((Kd.R_reads' (Kd.R_after (ok := (fun k_ => k_ ≠ gb335)) (by (with_reducible repeat (first | apply Kd.R_alloc | apply Kd.R_drewN | apply Kd.R_drew)); exact HO_7.out) hg hat)).2.2) KL63.out)); have n8_ := Aside0.mk (ho); clear HO_5; clear HO_6; clear HO_7; clear BK315; clear BK316; clear BK335; clear HB; clear HR345; clear HO348; have HO_5 := n0_; have HO_6 := n1_; have HO_7 := n2_; have BK315 := n3_; have BK316 := n4_; have BK335 := n5_; have HB := n6_; have HR345 := n7_; have HO351 := n8_; clear n0_ n1_ n2_ n3_ n4_ n5_ n6_ n7_ n8_; clear ho hb hg hat; have q69 : (x12_4 : Int) ≤ ((x7_2.length : Int) : Int) := of_decide_eq_true (by first | (with_reducible assumption) | assumption); obtain ⟨i069, hi069, _, hsz69, _⟩ := info_parts info25; have hroom69 : x7_2.length ≤ co59 := (Kd.R_reads' HO_7.out).2.1; have hC69 : Kd.C k25 _ (some ad336) x7_2.length x7_2 := (Kd.R_reads' HO_7.out).2.2; have q069 : (0 : Int) ≤ (x12_4 : Int) := of_decide_eq_true (by first | (with_reducible assumption) | assumption); have hcut69 := cut_from (P := Try.prog) 48 25 .i64 Try.underlying48 hi069 4 hsz69 (some ad336) x7_2.length co59 x12_4 q069 q69; have hr69 := Kd.C_drop (m := (x12_4 : Int).toNat) (c := co59) hC69 (by omega) hroom69; obtain ⟨A69, hA69⟩ : ∃ A1, A1 = (if co59 = (x12_4 : Int).toNat then (some ad336) else ((some ad336) : Option Addr).map (·.add ((x12_4 : Int).toNat * 4))) := ⟨_, rfl⟩; obtain ⟨c69, hc69⟩ : ∃ c1, c1 = co59 - (x12_4 : Int).toNat := ⟨_, rfl⟩; have hy69 : y352.length = x7_2.length - (x12_4 : Int).toNat := (by rw [Ny352.out, List.length_drop] <;> omega); rw [show (x7_2).drop (x12_4 : Int).toNat = y352 from Ny352.out.symm] at hr69; replace hr69 : Kd.C k25 _ A69 y352.length y352 := (by rw [hA69]; exact hr69); rw [← hy69, ← hA69, ← hc69] at hcut69; have HR355 := Aside0.mk hr69; have HC355 := Aside0.mk (show y352.length ≤ c69 from by rw [hy69, hc69]; exact Nat.sub_le_sub_right hroom69 _); clear hr69 hC69 hroom69 hi069 hsz69 hc69; have KY69 := Aside0.mk hy69; have KA69 := Aside0.mk hA69; clear hy69 hA69; have KL69 := Aside0.mk (show (x12_4 : Int).toNat ≤ x7_2.length from by omega); replace q69 := eq_true q69) | ((with_reducible refine gate_builtin (b := .append) (xs := #[.tmp 108, .tmp 111]) rfl ?_); at_builtin; refine Kd.R_append_rows k25 (w0 := w) w.heap.size rfl (.tmp 108) (.tmp 111) 48 25 (.agg #[(.int .i64 0), (.int .i64 0), (.int .i64 0), (.int .i64 0)]) 32 rfl Try.underlying48 info25 rfl (by decide) (by omega) v350 y349 y352 _ _ _ (fun k_ => some k_ ≠ (.slice (some ad336) x7_2.length co59 : Value).ownBlock ∧ k_ ≠ gb335) (fun _ => False) rfl rfl ?aO ?aR (fun _ _ h => h) (fun _ h => h.elim) ?aF ?aB ?aS ?aL ?_; (case aR => repeat (first | exact (by repeat (first | (with_reducible exact HR355.out) | (with_reducible refine Kd.C_alloc ?_ _) | (with_reducible refine Kd.C_drewN ?_ _) | (with_reducible refine Kd.C_drew ?_) | exact HR355.out)) | (with_reducible refine Kd.C_alloc ?_ _) | (with_reducible refine Kd.C_drewN ?_ _) | (with_reducible refine Kd.C_drew ?_))); (case aB => exact (bnow HB)); (case aF => exact (fun k_ hk => ⟨Kd.fresh' (Kd.R_lt (by (with_reducible repeat (first | apply Kd.R_alloc | apply Kd.R_drewN | apply Kd.R_drew)); exact HO_7.out)) k_ hk, Kd.freshB (g := gb335) (o := .cells #[.int .i64 ((rd_T37 t317 x8_1).f0), .int .i64 ((rd_T37 t320 x9_2).f0), .int .i64 ((rd_T37 t317 x8_1).f1), .int .i64 ((rd_T37 t320 x9_2).f1)] 25 (0, 0)) (pk BK335) k_ hk⟩)); (case aO => exact (by (with_reducible repeat (first | apply Kd.R_alloc | apply Kd.R_drewN | apply Kd.R_drew)); exact HO351.out)); (case aS => exact (below_size (bnow HB))); (case aL => have := LMc56.out; omega); intro v357 w70 ho hb hg hat; rw [← Ny356.out] at ho; have n0_ := Aside0.mk (Kd.R_over' (by (with_reducible repeat (first | apply Kd.R_alloc | apply Kd.R_drewN | apply Kd.R_drew)); exact HO_5.out) (Kd.R_typed (by (with_reducible repeat (first | apply Kd.R_alloc | apply Kd.R_drewN | apply Kd.R_drew)); exact HO351.out)) (by decide) hg); have n1_ := Aside0.mk (Kd.R_over' (by (with_reducible repeat (first | apply Kd.R_alloc | apply Kd.R_drewN | apply Kd.R_drew)); exact HO_6.out) (Kd.R_typed (by (with_reducible repeat (first | apply Kd.R_alloc | apply Kd.R_drewN | apply Kd.R_drew)); exact HO351.out)) (by decide) hg); have n2_ := Aside0.mk (Kd.R_after (ok := (fun k_ => k_ ≠ gb335)) (by (with_reducible repeat (first | apply Kd.R_alloc | apply Kd.R_drewN | apply Kd.R_drew)); exact HO_7.out) hg hat); have n3_ := Aside0.mk (blk_grown (g := gb315) (o := .cells #[.int .i64 a0_0, .int .i64 a0_1, .int .i64 a0_2] 23 (0, 0)) (pk BK315) hg (Kd.R_ne HO351.out BK315.out (by decide))); have n4_ := Aside0.mk (blk_grown (g := gb316) (o := .cells #[.int .i64 a1_0, .int .i64 a1_1, .int .i64 a1_2] 23 (0, 0)) (pk BK316) hg (Kd.R_ne HO351.out BK316.out (by decide))); have n5_ := Aside0.mk (blk_grown (g := gb335) (o := .cells #[.int .i64 ((rd_T37 t317 x8_1).f0), .int .i64 ((rd_T37 t320 x9_2).f0), .int .i64 ((rd_T37 t317 x8_1).f1), .int .i64 ((rd_T37 t320 x9_2).f1)] 25 (0, 0)) (pk BK335) hg (Kd.R_away HO351.out (fun _ hk => hk.2))); have n6_ := Aside0.mk (hb); have n7_ := Aside0.mk ((show Kd.C k25 w70 (some ad336) y342.length y342 from by rw [Ny342.out]; exact Kd.C_take (m := (x12_4 : Int).toNat) ((Kd.R_reads' (Kd.R_after (ok := (fun k_ => k_ ≠ gb335)) (by (with_reducible repeat (first | apply Kd.R_alloc | apply Kd.R_drewN | apply Kd.R_drew)); exact HO_7.out) hg hat)).2.2) KL63.out)); have n8_ := Aside0.mk ((show Kd.C k25 w70 A69 y352.length y352 from by rw [Ny352.out, KA69.out]; exact Kd.C_drop (m := (x12_4 : Int).toNat) (c := co59) ((Kd.R_reads' (Kd.R_after (ok := (fun k_ => k_ ≠ gb335)) (by (with_reducible repeat (first | apply Kd.R_alloc | apply Kd.R_drewN | apply Kd.R_drew)); exact HO_7.out) hg hat)).2.2) KL69.out ((Kd.R_reads' (Kd.R_after (ok := (fun k_ => k_ ≠ gb335)) (by (with_reducible repeat (first | apply Kd.R_alloc | apply Kd.R_drewN | apply Kd.R_drew)); exact HO_7.out) hg hat)).2.1))); have n9_ := Aside0.mk (ho); clear HO_5; clear HO_6; clear HO_7; clear BK315; clear BK316; clear BK335; clear HB; clear HR345; clear HR355; clear HO351; have HO_5 := n0_; have HO_6 := n1_; have HO_7 := n2_; have BK315 := n3_; have BK316 := n4_; have BK335 := n5_; have HB := n6_; have HR345 := n7_; have HR355 := n8_; have HO358 := n9_; clear n0_ n1_ n2_ n3_ n4_ n5_ n6_ n7_ n8_ n9_; clear ho hb hg hat))
                                                    go_roundg k4
                                                    case measure => have := HK1.out; have := HK2.out; have := HJ16.out; have := HK4.out; omega
                                                    case rel => exact ⟨(y356), (z359), (by first | rfl | (simp; done) | (simp [*]; done)), H', ⟨by have := HK1.out; have := HK2.out; have := HJ16.out; have := HK4.out; omega⟩, ⟨by (with_reducible repeat (first | apply Kd.R_alloc | apply Kd.R_drewN | apply Kd.R_drew)); exact HO_5.out⟩, ⟨by (with_reducible repeat (first | apply Kd.R_alloc | apply Kd.R_drewN | apply Kd.R_drew)); exact HO_6.out⟩, ⟨by (with_reducible repeat (first | apply Kd.R_alloc | apply Kd.R_drewN | apply Kd.R_drew)); exact Kd.R_mono HO358.out (fun _ hk => trivial)⟩, ⟨pk BK315⟩, ⟨pk BK316⟩, ⟨bnow HB⟩⟩
                                                  · rw [if_neg c56] at H
                                                    exact absurd H (by simp)
                                                · rw [if_neg c53] at H
                                                  exact absurd H (by simp)
                                              · rw [if_neg c52] at H
                                                exact absurd H (by simp)
                                            · rw [if_neg c51] at H
                                              exact absurd H (by simp)
                                        · rw [if_neg c43] at H
                                          exact absurd H (by simp)
                                      · rw [if_neg c42] at H
                                        have c42b0 : decide (x12_4 < (x7_2.length : Int)) = false := decide_eq_false c42
                                        clear c42
                                        obtain ⟨y360, hy360⟩ : ∃ y_ : List (S25), y_ = (([] : List (S25))) := ⟨_, rfl⟩
                                        replace H : (if 0 ≤ x12_4 then (if x12_4 ≤ (x7_2.length : Int) then ((some (x7_2.take (x12_4 : Int).toNat : List (S25))).bind fun y363 => (if y360.length + y363.length < 4398046511104 then ((some (y360 ++ y363 : List (S25))).bind fun y367 => (if y367.length < 4398046511104 then ((some (y367 ++ [(⟨((rd_T37 t317 x8_1).f0), ((rd_T37 t320 x9_2).f0), ((rd_T37 t317 x8_1).f1), ((rd_T37 t320 x9_2).f1)⟩ : S25)] : List (S25))).bind fun y370 => ((some (x7_2.drop (x12_4 : Int).toNat : List (S25))).bind fun y373 => (if y370.length + y373.length < 4398046511104 then ((some (wrap64 (x9_2 + 1))).bind fun z380 => (torchonref06_Leading.l1 k4 t317 t320 (y370 ++ y373) x8_1 z380 a0_0 a0_1 a0_2 a1_0 a1_1 a1_2)) else (none)))) else (none))) else (none))) else (none)) else (none)) = some r := by first | (rw [hy360]; with_reducible exact H) | (have H2_ := (Option.bind_some _ _).symm.trans H; rw [hy360]; with_reducible exact H2_) | (have H2_ := (Option.bind_some _ _).symm.trans H; with_reducible exact H2_) | with_reducible exact H | (rw [hy360]; exact H) | exact H
                                        have Ny360 := Aside0.mk hy360
                                        clear hy360
                                        by_cases c71 : 0 ≤ x12_4
                                        · rw [if_pos c71] at H
                                          have c71b0 := eq_true c71
                                          have c71b1 : decide (0 ≤ x12_4) = true := decide_eq_true c71
                                          clear c71
                                          by_cases c72 : x12_4 ≤ (x7_2.length : Int)
                                          · rw [if_pos c72] at H
                                            have c72b0 := eq_true c72
                                            have c72b1 : decide (x12_4 ≤ (x7_2.length : Int)) = true := decide_eq_true c72
                                            clear c72
                                            obtain ⟨y363, hy363⟩ : ∃ y_ : List (S25), y_ = (x7_2.take (x12_4 : Int).toNat) := ⟨_, rfl⟩
                                            replace H : (if y360.length + y363.length < 4398046511104 then ((some (y360 ++ y363 : List (S25))).bind fun y367 => (if y367.length < 4398046511104 then ((some (y367 ++ [(⟨((rd_T37 t317 x8_1).f0), ((rd_T37 t320 x9_2).f0), ((rd_T37 t317 x8_1).f1), ((rd_T37 t320 x9_2).f1)⟩ : S25)] : List (S25))).bind fun y370 => ((some (x7_2.drop (x12_4 : Int).toNat : List (S25))).bind fun y373 => (if y370.length + y373.length < 4398046511104 then ((some (wrap64 (x9_2 + 1))).bind fun z380 => (torchonref06_Leading.l1 k4 t317 t320 (y370 ++ y373) x8_1 z380 a0_0 a0_1 a0_2 a1_0 a1_1 a1_2)) else (none)))) else (none))) else (none)) = some r := by first | (rw [hy363]; with_reducible exact H) | (have H2_ := (Option.bind_some _ _).symm.trans H; rw [hy363]; with_reducible exact H2_) | (have H2_ := (Option.bind_some _ _).symm.trans H; with_reducible exact H2_) | with_reducible exact H | (rw [hy363]; exact H) | exact H
                                            have Ny363 := Aside0.mk hy363
                                            clear hy363
                                            by_cases c73 : y360.length + y363.length < 4398046511104
                                            · rw [if_pos c73] at H
                                              have LMc73 := Aside0.mk c73
                                              clear c73
                                              obtain ⟨y367, hy367⟩ : ∃ y_ : List (S25), y_ = (y360 ++ y363) := ⟨_, rfl⟩
                                              replace H : (if y367.length < 4398046511104 then ((some (y367 ++ [(⟨((rd_T37 t317 x8_1).f0), ((rd_T37 t320 x9_2).f0), ((rd_T37 t317 x8_1).f1), ((rd_T37 t320 x9_2).f1)⟩ : S25)] : List (S25))).bind fun y370 => ((some (x7_2.drop (x12_4 : Int).toNat : List (S25))).bind fun y373 => (if y370.length + y373.length < 4398046511104 then ((some (wrap64 (x9_2 + 1))).bind fun z380 => (torchonref06_Leading.l1 k4 t317 t320 (y370 ++ y373) x8_1 z380 a0_0 a0_1 a0_2 a1_0 a1_1 a1_2)) else (none)))) else (none)) = some r := by first | (rw [hy367]; with_reducible exact H) | (have H2_ := (Option.bind_some _ _).symm.trans H; rw [hy367]; with_reducible exact H2_) | (have H2_ := (Option.bind_some _ _).symm.trans H; with_reducible exact H2_) | with_reducible exact H | (rw [hy367]; exact H) | exact H
                                              have Ny367 := Aside0.mk hy367
                                              clear hy367
                                              by_cases c74 : y367.length < 4398046511104
                                              · rw [if_pos c74] at H
                                                have LMc74 := Aside0.mk c74
                                                clear c74
                                                obtain ⟨y370, hy370⟩ : ∃ y_ : List (S25), y_ = (y367 ++ [(⟨((rd_T37 t317 x8_1).f0), ((rd_T37 t320 x9_2).f0), ((rd_T37 t317 x8_1).f1), ((rd_T37 t320 x9_2).f1)⟩ : S25)]) := ⟨_, rfl⟩
                                                replace H : ((some (x7_2.drop (x12_4 : Int).toNat : List (S25))).bind fun y373 => (if y370.length + y373.length < 4398046511104 then ((some (wrap64 (x9_2 + 1))).bind fun z380 => (torchonref06_Leading.l1 k4 t317 t320 (y370 ++ y373) x8_1 z380 a0_0 a0_1 a0_2 a1_0 a1_1 a1_2)) else (none))) = some r := by first | (rw [hy370]; with_reducible exact H) | (have H2_ := (Option.bind_some _ _).symm.trans H; rw [hy370]; with_reducible exact H2_) | (have H2_ := (Option.bind_some _ _).symm.trans H; with_reducible exact H2_) | with_reducible exact H | (rw [hy370]; exact H) | exact H
                                                have Ny370 := Aside0.mk hy370
                                                clear hy370
                                                have c75b0 := eq_true (of_decide_eq_true (by first | (with_reducible assumption) | assumption) : 0 ≤ x12_4)
                                                have c76b0 := eq_true (of_decide_eq_true (by first | (with_reducible assumption) | assumption) : x12_4 ≤ (x7_2.length : Int))
                                                obtain ⟨y373, hy373⟩ : ∃ y_ : List (S25), y_ = (x7_2.drop (x12_4 : Int).toNat) := ⟨_, rfl⟩
                                                replace H : (if y370.length + y373.length < 4398046511104 then ((some (wrap64 (x9_2 + 1))).bind fun z380 => (torchonref06_Leading.l1 k4 t317 t320 (y370 ++ y373) x8_1 z380 a0_0 a0_1 a0_2 a1_0 a1_1 a1_2)) else (none)) = some r := by first | (rw [hy373]; with_reducible exact H) | (have H2_ := (Option.bind_some _ _).symm.trans H; rw [hy373]; with_reducible exact H2_) | (have H2_ := (Option.bind_some _ _).symm.trans H; with_reducible exact H2_) | with_reducible exact H | (rw [hy373]; exact H) | exact H
                                                have Ny373 := Aside0.mk hy373
                                                clear hy373
                                                by_cases c77 : y370.length + y373.length < 4398046511104
                                                · rw [if_pos c77] at H
                                                  have LMc77 := Aside0.mk c77
                                                  clear c77
                                                  obtain ⟨y377, hy377⟩ : ∃ y_ : List (S25), y_ = (y370 ++ y373) := ⟨_, rfl⟩
                                                  replace H : ((some (wrap64 (x9_2 + 1))).bind fun z380 => (torchonref06_Leading.l1 k4 t317 t320 y377 x8_1 z380 a0_0 a0_1 a0_2 a1_0 a1_1 a1_2)) = some r := by first | (rw [hy377]; with_reducible exact H) | (have H2_ := (Option.bind_some _ _).symm.trans H; rw [hy377]; with_reducible exact H2_) | (have H2_ := (Option.bind_some _ _).symm.trans H; with_reducible exact H2_) | with_reducible exact H | (rw [hy377]; exact H) | exact H
                                                  have Ny377 := Aside0.mk hy377
                                                  clear hy377
                                                  obtain ⟨z380, E780, H⟩ := oc H
                                                  have E78w : (IntKind.i64.wrap (x9_2 + 1)) = z380 := (i64_w _).trans E780
                                                  have H' := Aside0.mk H
                                                  clear H
                                                  try go_wp2
                                                  replace HO_5 := Aside0.mk (Kd.R_drew HO_5.out)
                                                  replace HO_6 := Aside0.mk (Kd.R_drew HO_6.out)
                                                  replace HO_7 := Aside0.mk (Kd.R_drew HO_7.out)
                                                  replace BK315 := bd BK315
                                                  replace BK316 := bd BK316
                                                  replace BK335 := bd BK335
                                                  replace HB := bdn HB
                                                  obtain ⟨Ao80, co80, eo80⟩ := Kd.R_slice HO_7.out
                                                  (first | subst eo80 | (injection eo80 with f1_ f2_ f3_; have f4_ := f1_.symm; have f5_ := f3_.symm; clear f1_ f2_ f3_; subst f4_; subst f5_))
                                                  refine start_ (n := 12) (S := fun w' => True) (ds := []) #[false, false, false, false, false, false, false, false, false, false, false, false] (by kernel_rfl) rfl rfl trivial (fun hHeld => ?_); refine with_tabW torchonref06_Leading.tab13 torchonref06_Leading.bits13 (fun HT_ HW_ => ?_)
                                                  generalize wr.drew = w79 at HO_5 HO_6 HO_7 BK315 BK316 BK335 HB hHeld ⊢
                                                  refine pz 0 85 HT_ ?_
                                                  refine pz 1 86 HT_ ?_
                                                  refine pz 2 87 HT_ ?_
                                                  refine pz 3 88 HT_ ?_
                                                  refine pz 4 89 HT_ ?_
                                                  refine pu 5 90 HT_ ?_
                                                  refine pu 6 91 HT_ ?_
                                                  refine pu 7 92 HT_ ?_
                                                  refine pu 8 93 HT_ ?_
                                                  refine pu 9 94 HT_ ?_
                                                  refine pu 10 95 HT_ ?_
                                                  refine pz 11 96 HT_ ?_
                                                  refine done_ (done_of HT_.out (by kernel_rfl)) ?_
                                                  try go_wp2_with (first | ((with_reducible refine gate_dst (N := 99) rfl ?_); refine Kd.R_lit k25 _ 25 ?hg (N := 99) ?hd (xs := ([] : List (S25))) (inner := []) (ok := fun _ => True) (okp := fun _ => True) ?hr ?hp (fun _ hk => hk) trivial (Below.refl _ _) (Nat.le_refl _) (by simp) ?_; (case hd => rfl); (case hg => rfl); (case hr => first | (go_simp; done) | (go_simp; rfl)); (case hp => exact (Reps.none _ _)); intro v361 w81 ho82 hb hg_ hnew_; clear hg_ hnew_; (first | rw [← Ny360.out] at ho82 | (simp only [Int.reduceToNat] at ho82; rw [← Ny360.out] at ho82)); have HO362 := Aside0.mk (Kd.R_lower (Kd.R_newB (Kd.R_new' ho82 (Kd.R_lt (by (with_reducible repeat (first | apply Kd.R_alloc | apply Kd.R_drewN | apply Kd.R_drew)); exact HO_7.out))) (g := gb335) (o := .cells #[.int .i64 ((rd_T37 t317 x8_1).f0), .int .i64 ((rd_T37 t320 x9_2).f0), .int .i64 ((rd_T37 t317 x8_1).f1), .int .i64 ((rd_T37 t320 x9_2).f1)] 25 (0, 0)) (pk BK335)) (below_size (bnow HB))); replace HO_5 := Aside0.mk (Kd.R_below (by (with_reducible repeat (first | apply Kd.R_alloc | apply Kd.R_drewN | apply Kd.R_drew)); exact HO_5.out) hb); replace HO_6 := Aside0.mk (Kd.R_below (by (with_reducible repeat (first | apply Kd.R_alloc | apply Kd.R_drewN | apply Kd.R_drew)); exact HO_6.out) hb); replace HO_7 := Aside0.mk (Kd.R_elder' (by (with_reducible repeat (first | apply Kd.R_alloc | apply Kd.R_drewN | apply Kd.R_drew)); exact HO_7.out) (Kd.R_base ho82) hb); replace BK315 := bb BK315 hb; replace BK316 := bb BK316 hb; replace BK335 := bb BK335 hb; replace HB := bst HB hb; clear hb ho82; have q83 : (x12_4 : Int) ≤ ((x7_2.length : Int) : Int) := of_decide_eq_true (by first | (with_reducible assumption) | assumption); obtain ⟨i083, hi083, _, hsz83, _⟩ := info_parts info25; have hroom83 : x7_2.length ≤ co80 := (Kd.R_reads' HO_7.out).2.1; have hC83 : Kd.C k25 _ Ao80 x7_2.length x7_2 := (Kd.R_reads' HO_7.out).2.2; have hcut83 := cut_to (P := Try.prog) 48 25 .i64 Try.underlying48 hi083 Ao80 x7_2.length co80 x12_4 (of_decide_eq_true (by first | (with_reducible assumption) | assumption)) q83 hroom83; have hr83 := Kd.C_take (m := (x12_4 : Int).toNat) hC83 (by omega); have hy83 : y363.length = (x12_4 : Int).toNat := (by rw [Ny363.out, List.length_take]; omega); rw [← Ny363.out] at hr83; rw [← hy83] at hcut83; have HR366 := Aside0.mk hr83; have HC366 := Aside0.mk (show y363.length ≤ co80 from by omega); clear hr83 hC83 hroom83 hi083 hsz83; have KY83 := Aside0.mk hy83; clear hy83; have KL83 := Aside0.mk (show (x12_4 : Int).toNat ≤ x7_2.length from by omega); replace q83 := eq_true q83) | ((with_reducible refine gate_builtin (b := .append) (xs := #[.tmp 99, .tmp 102]) rfl ?_); at_builtin; refine Kd.R_append_rows k25 (w0 := w) w.heap.size rfl (.tmp 99) (.tmp 102) 48 25 (.agg #[(.int .i64 0), (.int .i64 0), (.int .i64 0), (.int .i64 0)]) 32 rfl Try.underlying48 info25 rfl (by decide) (by omega) v361 y360 y363 _ _ _ (fun k_ => some k_ ≠ (.slice Ao80 x7_2.length co80 : Value).ownBlock ∧ k_ ≠ gb335) (fun _ => False) rfl rfl ?aO ?aR (fun _ _ h => h) (fun _ h => h.elim) ?aF ?aB ?aS ?aL ?_; (case aR => repeat (first | exact (by repeat (first | (with_reducible exact HR366.out) | (with_reducible refine Kd.C_alloc ?_ _) | (with_reducible refine Kd.C_drewN ?_ _) | (with_reducible refine Kd.C_drew ?_) | exact HR366.out)) | (with_reducible refine Kd.C_alloc ?_ _) | (with_reducible refine Kd.C_drewN ?_ _) | (with_reducible refine Kd.C_drew ?_))); (case aB => exact (bnow HB)); (case aF => exact (fun k_ hk => ⟨Kd.fresh' (Kd.R_lt (by (with_reducible repeat (first | apply Kd.R_alloc | apply Kd.R_drewN | apply Kd.R_drew)); exact HO_7.out)) k_ hk, Kd.freshB (g := gb335) (o := .cells #[.int .i64 ((rd_T37 t317 x8_1).f0), .int .i64 ((rd_T37 t320 x9_2).f0), .int .i64 ((rd_T37 t317 x8_1).f1), .int .i64 ((rd_T37 t320 x9_2).f1)] 25 (0, 0)) (pk BK335) k_ hk⟩)); (case aO => exact (by (with_reducible repeat (first | apply Kd.R_alloc | apply Kd.R_drewN | apply Kd.R_drew)); exact Kd.R_mono HO362.out (fun _ hk => ⟨hk.1.2, hk.2⟩))); (case aS => exact (below_size (bnow HB))); (case aL => have := LMc73.out; omega); intro v368 w84 ho hb hg hat; rw [← Ny367.out] at ho; have n0_ := Aside0.mk (Kd.R_over' (by (with_reducible repeat (first | apply Kd.R_alloc | apply Kd.R_drewN | apply Kd.R_drew)); exact HO_5.out) (Kd.R_typed (by (with_reducible repeat (first | apply Kd.R_alloc | apply Kd.R_drewN | apply Kd.R_drew)); exact HO362.out)) (by decide) hg); have n1_ := Aside0.mk (Kd.R_over' (by (with_reducible repeat (first | apply Kd.R_alloc | apply Kd.R_drewN | apply Kd.R_drew)); exact HO_6.out) (Kd.R_typed (by (with_reducible repeat (first | apply Kd.R_alloc | apply Kd.R_drewN | apply Kd.R_drew)); exact HO362.out)) (by decide) hg); have n2_ := Aside0.mk (Kd.R_after (ok := (fun k_ => k_ ≠ gb335)) (by (with_reducible repeat (first | apply Kd.R_alloc | apply Kd.R_drewN | apply Kd.R_drew)); exact HO_7.out) hg hat); have n3_ := Aside0.mk (blk_grown (g := gb315) (o := .cells #[.int .i64 a0_0, .int .i64 a0_1, .int .i64 a0_2] 23 (0, 0)) (pk BK315) hg (Kd.R_ne HO362.out BK315.out (by decide))); have n4_ := Aside0.mk (blk_grown (g := gb316) (o := .cells #[.int .i64 a1_0, .int .i64 a1_1, .int .i64 a1_2] 23 (0, 0)) (pk BK316) hg (Kd.R_ne HO362.out BK316.out (by decide))); have n5_ := Aside0.mk (blk_grown (g := gb335) (o := .cells #[.int .i64 ((rd_T37 t317 x8_1).f0), .int .i64 ((rd_T37 t320 x9_2).f0), .int .i64 ((rd_T37 t317 x8_1).f1), .int .i64 ((rd_T37 t320 x9_2).f1)] 25 (0, 0)) (pk BK335) hg (Kd.R_away HO362.out (fun _ hk => hk.2))); have n6_ := Aside0.mk (hb); have n7_ := Aside0.mk ((show Kd.C k25 w84 Ao80 y363.length y363 from by rw [Ny363.out]; exact Kd.C_take (m := (x12_4 : Int).toNat) ((Kd.R_reads' (Kd.R_after (ok := (fun k_ => k_ ≠ gb335)) (by (with_reducible repeat (first | apply Kd.R_alloc | apply Kd.R_drewN | apply Kd.R_drew)); exact HO_7.out) hg hat)).2.2) KL83.out)); have n8_ := Aside0.mk (ho); clear HO_5; clear HO_6; clear HO_7; clear BK315; clear BK316; clear BK335; clear HB; clear HR366; clear HO362; have HO_5 := n0_; have HO_6 := n1_; have HO_7 := n2_; have BK315 := n3_; have BK316 := n4_; have BK335 := n5_; have HB := n6_; have HR366 := n7_; have HO369 := n8_; clear n0_ n1_ n2_ n3_ n4_ n5_ n6_ n7_ n8_; clear ho hb hg hat; have hnb85 := NB335_315.out; have hnc85 := NB315_335.out; have hnb86 := NB335_316.out; have hnc86 := NB316_335.out; have ⟨hcz87_0, hcz87_1, hcz87_2, hcz87_3, hfz87_0, hfz87_1, hfz87_2, hfz87_3⟩ := cf4 BK335) | ((with_reducible refine gate_builtin (b := .append) (xs := #[.tmp 104, .tmp 106]) rfl ?_); at_builtin; refine Kd.R_append k25 (w0 := w) w.heap.size rfl (.tmp 104) (.tmp 106) 48 25 (.agg #[(.int .i64 0), (.int .i64 0), (.int .i64 0), (.int .i64 0)]) 32 rfl Try.underlying48 info25 rfl (by decide) (by omega) v368 y367 (⟨((rd_T37 t317 x8_1).f0), ((rd_T37 t320 x9_2).f0), ((rd_T37 t317 x8_1).f1), ((rd_T37 t320 x9_2).f1)⟩ : S25) [.int .i64 ((rd_T37 t317 x8_1).f0), .int .i64 ((rd_T37 t320 x9_2).f0), .int .i64 ((rd_T37 t317 x8_1).f1), .int .i64 ((rd_T37 t320 x9_2).f1)] (fun k_ => some k_ ≠ (.slice Ao80 x7_2.length co80 : Value).ownBlock ∧ k_ ≠ gb335) (fun _ => False) rfl rfl ?aP (fun _ hk => hk.elim) ?aF ?aO ?aB ?aS ?aL ?_; (case aP => exact k25_mkM _ _ _ (⟨((rd_T37 t317 x8_1).f0), ((rd_T37 t320 x9_2).f0), ((rd_T37 t317 x8_1).f1), ((rd_T37 t320 x9_2).f1)⟩ : S25)); (case aB => exact (bnow HB)); (case aF => exact (fun k_ hk => ⟨Kd.fresh' (Kd.R_lt (by (with_reducible repeat (first | apply Kd.R_alloc | apply Kd.R_drewN | apply Kd.R_drew)); exact HO_7.out)) k_ hk, Kd.freshB (g := gb335) (o := .cells #[.int .i64 ((rd_T37 t317 x8_1).f0), .int .i64 ((rd_T37 t320 x9_2).f0), .int .i64 ((rd_T37 t317 x8_1).f1), .int .i64 ((rd_T37 t320 x9_2).f1)] 25 (0, 0)) (pk BK335) k_ hk⟩)); (case aO => exact (by (with_reducible repeat (first | apply Kd.R_alloc | apply Kd.R_drewN | apply Kd.R_drew)); exact HO369.out)); (case aS => exact (below_size (bnow HB))); (case aL => have := LMc74.out; omega); intro v371 w88 ho hb hg hat; rw [← Ny370.out] at ho; have n0_ := Aside0.mk (Kd.R_over' (by (with_reducible repeat (first | apply Kd.R_alloc | apply Kd.R_drewN | apply Kd.R_drew)); exact HO_5.out) (Kd.R_typed (by (with_reducible repeat (first | apply Kd.R_alloc | apply Kd.R_drewN | apply Kd.R_drew)); exact HO369.out)) (by decide) hg); have n1_ := Aside0.mk (Kd.R_over' (by (with_reducible repeat (first | apply Kd.R_alloc | apply Kd.R_drewN | apply Kd.R_drew)); exact HO_6.out) (Kd.R_typed (by (with_reducible repeat (first | apply Kd.R_alloc | apply Kd.R_drewN | apply Kd.R_drew)); exact HO369.out)) (by decide) hg); have n2_ := Aside0.mk (Kd.R_after (ok := (fun k_ => k_ ≠ gb335)) (by (with_reducible repeat (first | apply Kd.R_alloc | apply Kd.R_drewN | apply Kd.R_drew)); exact HO_7.out) hg hat); have n3_ := Aside0.mk (blk_grown (g := gb315) (o := .cells #[.int .i64 a0_0, .int .i64 a0_1, .int .i64 a0_2] 23 (0, 0)) (pk BK315) hg (Kd.R_ne HO369.out BK315.out (by decide))); have n4_ := Aside0.mk (blk_grown (g := gb316) (o := .cells #[.int .i64 a1_0, .int .i64 a1_1, .int .i64 a1_2] 23 (0, 0)) (pk BK316) hg (Kd.R_ne HO369.out BK316.out (by decide))); have n5_ := Aside0.mk (blk_grown (g := gb335) (o := .cells #[.int .i64 ((rd_T37 t317 x8_1).f0), .int .i64 ((rd_T37 t320 x9_2).f0), .int .i64 ((rd_T37 t317 x8_1).f1), .int .i64 ((rd_T37 t320 x9_2).f1)] 25 (0, 0)) (pk BK335) hg (Kd.R_away HO369.out (fun _ hk => hk.2))); have n6_ := Aside0.mk (hb); have n7_ := Aside0.mk ((show Kd.C k25 w88 Ao80 y363.length y363 from by rw [Ny363.out]; exact Kd.C_take (m := (x12_4 : Int).toNat) ((Kd.R_reads' (Kd.R_after (ok := (fun k_ => k_ ≠ gb335)) (by (with_reducible repeat (first | apply Kd.R_alloc | apply Kd.R_drewN | apply Kd.R_drew)); exact HO_7.out) hg hat)).2.2) KL83.out)); have n8_ := Aside0.mk (ho); clear HO_5; clear HO_6; clear HO_7; clear BK315; clear BK316; clear BK335; clear HB; clear HR366; clear HO369; have HO_5 := n0_; have HO_6 := n1_; have HO_7 := n2_; have BK315 := n3_; have BK316 := n4_; have BK335 := n5_; have HB := n6_; have HR366 := n7_; have HO372 := n8_; clear n0_ n1_ n2_ n3_ n4_ n5_ n6_ n7_ n8_; clear ho hb hg hat; have q89 : (x12_4 : Int) ≤ ((x7_2.length : Int) : Int) := of_decide_eq_true (by first | (with_reducible assumption) | assumption); obtain ⟨i089, hi089, _, hsz89, _⟩ := info_parts info25; have hroom89 : x7_2.length ≤ co80 := (Kd.R_reads' HO_7.out).2.1; have hC89 : Kd.C k25 _ Ao80 x7_2.length x7_2 := (Kd.R_reads' HO_7.out).2.2; have q089 : (0 : Int) ≤ (x12_4 : Int) := of_decide_eq_true (by first | (with_reducible assumption) | assumption); have hcut89 := cut_from (P := Try.prog) 48 25 .i64 Try.underlying48 hi089 4 hsz89 Ao80 x7_2.length co80 x12_4 q089 q89; have hr89 := Kd.C_drop (m := (x12_4 : Int).toNat) (c := co80) hC89 (by omega) hroom89; obtain ⟨A89, hA89⟩ : ∃ A1, A1 = (if co80 = (x12_4 : Int).toNat then Ao80 else (Ao80 : Option Addr).map (·.add ((x12_4 : Int).toNat * 4))) := ⟨_, rfl⟩; obtain ⟨c89, hc89⟩ : ∃ c1, c1 = co80 - (x12_4 : Int).toNat := ⟨_, rfl⟩; have hy89 : y373.length = x7_2.length - (x12_4 : Int).toNat := (by rw [Ny373.out, List.length_drop] <;> omega); rw [show (x7_2).drop (x12_4 : Int).toNat = y373 from Ny373.out.symm] at hr89; replace hr89 : Kd.C k25 _ A89 y373.length y373 := (by rw [hA89]; exact hr89); rw [← hy89, ← hA89, ← hc89] at hcut89; have HR376 := Aside0.mk hr89; have HC376 := Aside0.mk (show y373.length ≤ c89 from by rw [hy89, hc89]; exact Nat.sub_le_sub_right hroom89 _); clear hr89 hC89 hroom89 hi089 hsz89 hc89; have KY89 := Aside0.mk hy89; have KA89 := Aside0.mk hA89; clear hy89 hA89; have KL89 := Aside0.mk (show (x12_4 : Int).toNat ≤ x7_2.length from by omega); replace q89 := eq_true q89) | ((with_reducible refine gate_builtin (b := .append) (xs := #[.tmp 108, .tmp 111]) rfl ?_); at_builtin; refine Kd.R_append_rows k25 (w0 := w) w.heap.size rfl (.tmp 108) (.tmp 111) 48 25 (.agg #[(.int .i64 0), (.int .i64 0), (.int .i64 0), (.int .i64 0)]) 32 rfl Try.underlying48 info25 rfl (by decide) (by omega) v371 y370 y373 _ _ _ (fun k_ => some k_ ≠ (.slice Ao80 x7_2.length co80 : Value).ownBlock ∧ k_ ≠ gb335) (fun _ => False) rfl rfl ?aO ?aR (fun _ _ h => h) (fun _ h => h.elim) ?aF ?aB ?aS ?aL ?_; (case aR => repeat (first | exact (by repeat (first | (with_reducible exact HR376.out) | (with_reducible refine Kd.C_alloc ?_ _) | (with_reducible refine Kd.C_drewN ?_ _) | (with_reducible refine Kd.C_drew ?_) | exact HR376.out)) | (with_reducible refine Kd.C_alloc ?_ _) | (with_reducible refine Kd.C_drewN ?_ _) | (with_reducible refine Kd.C_drew ?_))); (case aB => exact (bnow HB)); (case aF => exact (fun k_ hk => ⟨Kd.fresh' (Kd.R_lt (by (with_reducible repeat (first | apply Kd.R_alloc | apply Kd.R_drewN | apply Kd.R_drew)); exact HO_7.out)) k_ hk, Kd.freshB (g := gb335) (o := .cells #[.int .i64 ((rd_T37 t317 x8_1).f0), .int .i64 ((rd_T37 t320 x9_2).f0), .int .i64 ((rd_T37 t317 x8_1).f1), .int .i64 ((rd_T37 t320 x9_2).f1)] 25 (0, 0)) (pk BK335) k_ hk⟩)); (case aO => exact (by (with_reducible repeat (first | apply Kd.R_alloc | apply Kd.R_drewN | apply Kd.R_drew)); exact HO372.out)); (case aS => exact (below_size (bnow HB))); (case aL => have := LMc77.out; omega); intro v378 w90 ho hb hg hat; rw [← Ny377.out] at ho; have n0_ := Aside0.mk (Kd.R_over' (by (with_reducible repeat (first | apply Kd.R_alloc | apply Kd.R_drewN | apply Kd.R_drew)); exact HO_5.out) (Kd.R_typed (by (with_reducible repeat (first | apply Kd.R_alloc | apply Kd.R_drewN | apply Kd.R_drew)); exact HO372.out)) (by decide) hg); have n1_ := Aside0.mk (Kd.R_over' (by (with_reducible repeat (first | apply Kd.R_alloc | apply Kd.R_drewN | apply Kd.R_drew)); exact HO_6.out) (Kd.R_typed (by (with_reducible repeat (first | apply Kd.R_alloc | apply Kd.R_drewN | apply Kd.R_drew)); exact HO372.out)) (by decide) hg); have n2_ := Aside0.mk (Kd.R_after (ok := (fun k_ => k_ ≠ gb335)) (by (with_reducible repeat (first | apply Kd.R_alloc | apply Kd.R_drewN | apply Kd.R_drew)); exact HO_7.out) hg hat); have n3_ := Aside0.mk (blk_grown (g := gb315) (o := .cells #[.int .i64 a0_0, .int .i64 a0_1, .int .i64 a0_2] 23 (0, 0)) (pk BK315) hg (Kd.R_ne HO372.out BK315.out (by decide))); have n4_ := Aside0.mk (blk_grown (g := gb316) (o := .cells #[.int .i64 a1_0, .int .i64 a1_1, .int .i64 a1_2] 23 (0, 0)) (pk BK316) hg (Kd.R_ne HO372.out BK316.out (by decide))); have n5_ := Aside0.mk (blk_grown (g := gb335) (o := .cells #[.int .i64 ((rd_T37 t317 x8_1).f0), .int .i64 ((rd_T37 t320 x9_2).f0), .int .i64 ((rd_T37 t317 x8_1).f1), .int .i64 ((rd_T37 t320 x9_2).f1)] 25 (0, 0)) (pk BK335) hg (Kd.R_away HO372.out (fun _ hk => hk.2))); have n6_ := Aside0.mk (hb); have n7_ := Aside0.mk ((show Kd.C k25 w90 Ao80 y363.length y363 from by rw [Ny363.out]; exact Kd.C_take (m := (x12_4 : Int).toNat) ((Kd.R_reads' (Kd.R_after (ok := (fun k_ => k_ ≠ gb335)) (by (with_reducible repeat (first | apply Kd.R_alloc | apply Kd.R_drewN | apply Kd.R_drew)); exact HO_7.out) hg hat)).2.2) KL83.out)); have n8_ := Aside0.mk ((show Kd.C k25 w90 A89 y373.length y373 from by rw [Ny373.out, KA89.out]; exact Kd.C_drop (m := (x12_4 : Int).toNat) (c := co80) ((Kd.R_reads' (Kd.R_after (ok := (fun k_ => k_ ≠ gb335)) (by (with_reducible repeat (first | apply Kd.R_alloc | apply Kd.R_drewN | apply Kd.R_drew)); exact HO_7.out) hg hat)).2.2) KL89.out ((Kd.R_reads' (Kd.R_after (ok := (fun k_ => k_ ≠ gb335)) (by (with_reducible repeat (first | apply Kd.R_alloc | apply Kd.R_drewN | apply Kd.R_drew)); exact HO_7.out) hg hat)).2.1))); have n9_ := Aside0.mk (ho); clear HO_5; clear HO_6; clear HO_7; clear BK315; clear BK316; clear BK335; clear HB; clear HR366; clear HR376; clear HO372; have HO_5 := n0_; have HO_6 := n1_; have HO_7 := n2_; have BK315 := n3_; have BK316 := n4_; have BK335 := n5_; have HB := n6_; have HR366 := n7_; have HR376 := n8_; have HO379 := n9_; clear n0_ n1_ n2_ n3_ n4_ n5_ n6_ n7_ n8_ n9_; clear ho hb hg hat))
                                                  go_roundg k4
                                                  case measure => have := HK1.out; have := HK2.out; have := HJ16.out; have := HK4.out; omega
                                                  case rel => exact ⟨(y377), (z380), (by first | rfl | (simp; done) | (simp [*]; done)), H', ⟨by have := HK1.out; have := HK2.out; have := HJ16.out; have := HK4.out; omega⟩, ⟨by (with_reducible repeat (first | apply Kd.R_alloc | apply Kd.R_drewN | apply Kd.R_drew)); exact HO_5.out⟩, ⟨by (with_reducible repeat (first | apply Kd.R_alloc | apply Kd.R_drewN | apply Kd.R_drew)); exact HO_6.out⟩, ⟨by (with_reducible repeat (first | apply Kd.R_alloc | apply Kd.R_drewN | apply Kd.R_drew)); exact Kd.R_mono HO379.out (fun _ hk => trivial)⟩, ⟨pk BK315⟩, ⟨pk BK316⟩, ⟨bnow HB⟩⟩
                                                · rw [if_neg c77] at H
                                                  exact absurd H (by simp)
                                              · rw [if_neg c74] at H
                                                exact absurd H (by simp)
                                            · rw [if_neg c73] at H
                                              exact absurd H (by simp)
                                          · rw [if_neg c72] at H
                                            exact absurd H (by simp)
                                        · rw [if_neg c71] at H
                                          exact absurd H (by simp)
                                · rw [if_neg c35] at H
                                  exact absurd H (by simp)
                              · rw [if_neg c34] at H
                                exact absurd H (by simp)
                            · rw [if_neg c33] at H
                              exact absurd H (by simp)
                          · rw [if_neg c32] at H
                            exact absurd H (by simp)
                  · rw [if_neg c15] at H
                    exact absurd H (by simp)
                · rw [if_neg c14] at H
                  exact absurd H (by simp)
              · rw [if_neg c13] at H
                exact absurd H (by simp)
            · rw [if_neg c12] at H
              have c12b0 : decide (x9_2 < (t320.length : Int)) = false := decide_eq_false c12
              clear c12
              obtain ⟨z323, E910, H⟩ := oc H
              have E91w : (IntKind.i64.wrap (x8_1 + 1)) = z323 := (i64_w _).trans E910
              have H' := Aside0.mk H
              clear H
              obtain ⟨Ao92, co92, eo92⟩ := Kd.R_slice HO_6.out
              subst eo92
              go_wp2
              go_roundg k2
              case measure => have := HK1.out; have := HK2.out; omega
              case rel => exact ⟨(x7_2), (z323), (by first | rfl | (simp; done) | (simp [*]; done)), H', ⟨by have := HK1.out; have := HK2.out; omega⟩, ⟨by (with_reducible repeat (first | apply Kd.R_alloc | apply Kd.R_drewN | apply Kd.R_drew)); exact HO_5.out⟩, ⟨by (with_reducible repeat (first | apply Kd.R_alloc | apply Kd.R_drewN | apply Kd.R_drew)); exact HO_6.out⟩, ⟨by (with_reducible repeat (first | apply Kd.R_alloc | apply Kd.R_drewN | apply Kd.R_drew)); exact HO_7.out⟩, ⟨pk BK315⟩, ⟨pk BK316⟩, ⟨bnow HB⟩⟩
      · rw [if_neg c10] at H
        have c10b0 : decide (x8_1 < (t317.length : Int)) = false := decide_eq_false c10
        clear c10
        obtain rfl := Option.some.inj H
        obtain ⟨Ao93, co93, eo93⟩ := Kd.R_slice HO_5.out
        subst eo93
        go_wp2
        go_ret
        exact ⟨_, by first | rfl | (simp [errW_none, errW_some] <;> rfl) | (simp [*, errW_none, errW_some] <;> rfl), by (with_reducible repeat (first | apply Kd.R_alloc | apply Kd.R_drewN | apply Kd.R_drew)); exact HO_7.out, by repeat (first | (with_reducible first | exact HB.out | apply below_alloc | apply pw_below_drewN | apply below_drew1 | refine below_set ?_ GE315.out | refine below_set ?_ GE316.out) | exact HB.out)⟩
end
section
/-! ### torchonref06_Reduce: function 12 -/
def torchonref06_Reduce.f (k : Nat) (a0_0 : Int) (a0_1 : Int) (a0_2 : Int) : Option (Int × Int × Int × Int × Int × Int × Int × Int) := (torchonref06_Check.f k a0_0 a0_1 a0_2).bind fun t384 => (if t384 = 0 then ((torchonref06_Reduced.f k a0_0 a0_1 a0_2).bind fun bt385 => ((torchonref06_Leading.f k a0_0 a0_1 a0_2 bt385.1 bt385.2.1 bt385.2.2).bind fun t389 => (if 0 < (t389.length : Int) then (some (bt385.1, bt385.2.1, bt385.2.2, (rd_T25 t389 0).f0, (rd_T25 t389 0).f1, (rd_T25 t389 0).f2, (rd_T25 t389 0).f3, 0)) else (none)))) else (some (0, 0, 0, 0, 0, 0, 0, 2)))
theorem torchonref06_Reduce.mono : ∀ a0 a1 a2 k, LeO (torchonref06_Reduce.f k a0 a1 a2) (torchonref06_Reduce.f (k + 1) a0 a1 a2) := by
  intro a0 a1 a2 k
  unfold torchonref06_Reduce.f
  repeat' first
      | (with_reducible exact torchonref06_Check.mono _ _ _ _)
      | (with_reducible exact torchonref06_Leading.mono _ _ _ _ _ _ _)
      | (with_reducible exact torchonref06_Reduced.mono _ _ _ _)
      | (with_reducible exact LeO.refl _)
      | (with_reducible exact LeO.none _)
      | (with_reducible refine LeO.ite ?_ ?_)
      | (with_reducible refine LeO.bind ?_ (fun _ => ?_))
      | exact torchonref06_Check.mono _ _ _ _
      | exact torchonref06_Leading.mono _ _ _ _ _ _ _
      | exact torchonref06_Reduced.mono _ _ _ _
      | exact LeO.none _
      | refine LeO.ite ?_ ?_
      | refine LeO.bind ?_ (fun _ => ?_)
def torchonref06_Reduce.T4 : Bool × List (List Nat × List Nat) := (true, [([], []), ([], []), ([], []), ([1, 2], [1, 2]), ([3], [3]), ([4], [4]), ([0, 3, 0], [0]), ([5, 6, 0, 1, 2, 3, 4, 5, 6], [5]), ([7, 0, 1, 2, 3, 4, 5, 6, 7], [])])
def torchonref06_Reduce.B4 : List Nat := [0, 0, 0, 6, 14, 30, 15, 127, 255]
theorem torchonref06_Reduce.tab4 : rtab .any (opsOf Try.f12 4) = torchonref06_Reduce.T4 := by kernel_rfl
theorem torchonref06_Reduce.bits4 : waitsOk torchonref06_Reduce.T4.2 torchonref06_Reduce.B4 = true := by kernel_rfl
theorem more_ {P : Program} {ops : Array Oper} {Q : Exit → Act → World → Prop} {md : Region.Mode} {S S' : World → Prop} (hSS : ∀ w, S' w → S w) : ∀ (fuel : Nat) (l : Array Bool) (a : Act) (w : World), S' w → wpAnyLast P md ops Q S' [] fuel l a w → wpAnyLast P md ops Q S [] fuel l a w
  | 0, _, _, _, _, h => h
  | fuel + 1, _, _, _, hw, h => ⟨h.1, fun i hi => wpOp_mono (fun a' w' h' => ⟨fun hd _ => hSS _ (h'.1 hd hw), more_ hSS fuel _ a' w' (h'.1 (by simp) hw) h'.2⟩) (h.2 i hi)⟩
set_option maxHeartbeats 8000000 in
set_option maxRecDepth 100000 in
theorem torchonref06_Reduce.calls (k : Nat) (a0_0 : Int) (a0_1 : Int) (a0_2 : Int) (r1 : Int) (r2 : Int) (r3 : Int) (r4 : Int) (r5 : Int) (r6 : Int) (r7 : Int) (r8 : Int) (w : World) (h : torchonref06_Reduce.f k a0_0 a0_1 a0_2 = some (r1, r2, r3, r4, r5, r6, r7, r8)) :
    Calls Try.prog 12 #[.agg #[.int .i64 a0_0, .int .i64 a0_1, .int .i64 a0_2]] w fun e w' => e = .returned (.tuple #[.agg #[.int .i64 r1, .int .i64 r2, .int .i64 r3], .agg #[.int .i64 r4, .int .i64 r5, .int .i64 r6, .int .i64 r7], .int .i64 r8]) ∧ Below w.heap.size w w' := by
  have hu23 := Try.underlying23
  have hu25 := Try.underlying25
  have HB := Aside0.mk (Below.refl w.heap.size w)
  have H : ((torchonref06_Check.f k a0_0 a0_1 a0_2).bind fun t384 => (if t384 = 0 then ((torchonref06_Reduced.f k a0_0 a0_1 a0_2).bind fun bt385 => ((torchonref06_Leading.f k a0_0 a0_1 a0_2 bt385.1 bt385.2.1 bt385.2.2).bind fun t389 => (if 0 < (t389.length : Int) then (some (bt385.1, bt385.2.1, bt385.2.2, (rd_T25 t389 0).f0, (rd_T25 t389 0).f1, (rd_T25 t389 0).f2, (rd_T25 t389 0).f3, 0)) else (none)))) else (some (0, 0, 0, 0, 0, 0, 0, 2)))) = some (r1, r2, r3, r4, r5, r6, r7, r8) := h
  clear h
  obtain ⟨t384, A2, H⟩ := ob H
  by_cases c3 : t384 = 0
  · rw [if_pos c3] at H
    have c3b0 : (t384 == 0) = true := beq_iff_eq.mpr c3
    have c3b1 : (t384 != 0) = false := bne_eq_false_iff_eq.mpr c3
    clear c3
    obtain ⟨⟨t385, t386, t387⟩, A4, H⟩ := ob H
    obtain ⟨t389, A5, H⟩ := ob H
    by_cases c6 : 0 < (t389.length : Int)
    · rw [if_pos c6] at H
      have c6b0 : decide (0 < (t389.length : Int)) = true := decide_eq_true c6
      have c6b1 : decide (0 < t389.length) = true := decide_eq_true (by omega)
      clear c6
      simp only [Option.some.injEq, Prod.mk.injEq] at H
      obtain ⟨rfl, rfl, rfl, rfl, rfl, rfl, rfl, rfl⟩ := H
      go_enter Try.func12, Try.ntmps12
      try go_wp2_with (first | ((with_reducible refine gate_dst (N := 1) rfl ?_); refine bx 1 #[.int .i64 a0_0, .int .i64 a0_1, .int .i64 a0_2] 23 fun gb381 hg w7 BK381 hb => ?_; have GW381 := gw hg HB; have GE381 := gw hg HB; replace HB := bst HB hb; clear hb hg) | ((with_reducible refine gate_dst (N := 2) rfl ?_); refine bx 2 #[.int .i64 0, .int .i64 0, .int .i64 0] 23 fun gb382 hg w8 BK382 hb => ?_; have GW382 := gw hg HB; have GE382 := gw hg HB; have NB381_382 := nlt hg BK381; have NB382_381 := ngt hg BK381; replace BK381 := bb BK381 hb; replace HB := bst HB hb; clear hb hg) | ((with_reducible refine gate_dst (N := 3) rfl ?_); refine bx 3 #[.int .i64 0, .int .i64 0, .int .i64 0, .int .i64 0] 25 fun gb383 hg w9 BK383 hb => ?_; have GW383 := gw hg HB; have GE383 := gw hg HB; have NB381_383 := nlt hg BK381; have NB383_381 := ngt hg BK381; have NB382_383 := nlt hg BK382; have NB383_382 := ngt hg BK382; replace BK381 := bb BK381 hb; replace BK382 := bb BK382 hb; replace HB := bst HB hb; clear hb hg; have hnb10 := NB381_382.out; have hnc10 := NB382_381.out; have hnb11 := NB381_383.out; have hnc11 := NB383_381.out; have ⟨hcz12_0, hcz12_1, hcz12_2, hfz12_0, hfz12_1, hfz12_2⟩ := cf3 BK381) | ((with_reducible refine gate_callee (f := 43) rfl ?_); refine gl 7 Try.func43 (torchonref06_Check.calls k a0_0 a0_1 a0_2 t384 _ A2.out) ?_; rintro e w13 ⟨rfl, hb⟩; refine ⟨_, rfl, ?_⟩; replace BK381 := bb BK381 hb; replace BK382 := bb BK382 hb; replace BK383 := bb BK383 hb; replace HB := bst HB hb; clear hb; have ⟨hcz14_0, hcz14_1, hcz14_2, hfz14_0, hfz14_1, hfz14_2⟩ := cf3 BK381) | ((with_reducible refine gate_callee (f := 44) rfl ?_); refine gl 12 Try.func44 (torchonref06_Reduced.calls k a0_0 a0_1 a0_2 t385 t386 t387 _ A4.out) ?_; rintro e w15 ⟨rfl, hb⟩; refine ⟨_, rfl, ?_⟩; replace BK381 := bb BK381 hb; replace BK382 := bb BK382 hb; replace BK383 := bb BK383 hb; replace HB := bst HB hb; clear hb) | ((with_reducible refine gate_dst (N := 5) rfl ?_); refine bx 5 #[.int .i64 0, .int .i64 0, .int .i64 0] 23 fun gb388 hg w16 BK388 hb => ?_; have GW388 := gw hg HB; have GE388 := gw hg HB; have NB381_388 := nlt hg BK381; have NB388_381 := ngt hg BK381; have NB382_388 := nlt hg BK382; have NB388_382 := ngt hg BK382; have NB383_388 := nlt hg BK383; have NB388_383 := ngt hg BK383; replace BK381 := bb BK381 hb; replace BK382 := bb BK382 hb; replace BK383 := bb BK383 hb; replace HB := bst HB hb; clear hb hg; have hnb17 := NB388_381.out; have hnc17 := NB381_388.out; have hnb18 := NB388_382.out; have hnc18 := NB382_388.out; have hnb19 := NB388_383.out; have hnc19 := NB383_388.out; have ⟨hcz20_0, hcz20_1, hcz20_2, hfz20_0, hfz20_1, hfz20_2⟩ := cf3 BK388) | ((with_reducible refine gate_store (t := 23) (p := 5) rfl ?_); refine sx 23 5 ((((w16.setCell ⟨gb388, 0, none⟩ (.int .i64 t385)).setCell ⟨gb388, 1, none⟩ (.int .i64 t386)).setCell ⟨gb388, 2, none⟩ (.int .i64 t387))) fun w21 hw => ?_; replace BK381 := fw hw BK381; replace BK382 := fw hw BK382; replace BK383 := fw hw BK383; replace BK388 := pw3 hw BK388; replace HB := bw hw HB; clear hw))
      replace BK381 := bd BK381
      replace BK382 := bd BK382
      replace BK383 := bd BK383
      replace BK388 := bd BK388
      replace HB := bdn HB
      refine start_ (n := 9) (S := fun w' => w'.cell? ⟨gb388, 0, none⟩ = some (.int .i64 t385) ∧ w'.cell? ⟨gb388, 1, none⟩ = some (.int .i64 t386) ∧ w'.cell? ⟨gb388, 2, none⟩ = some (.int .i64 t387) ∧ w'.cell? ⟨gb381, 0, none⟩ = some (.int .i64 a0_0) ∧ w'.cell? ⟨gb381, 1, none⟩ = some (.int .i64 a0_1) ∧ w'.cell? ⟨gb381, 2, none⟩ = some (.int .i64 a0_2)) (ds := []) #[false, false, false, false, false, false, false, false, false] (by kernel_rfl) rfl rfl ⟨(blk_cell BK388.out 0).trans rfl, (blk_cell BK388.out 1).trans rfl, (blk_cell BK388.out 2).trans rfl, (blk_cell BK381.out 0).trans rfl, (blk_cell BK381.out 1).trans rfl, (blk_cell BK381.out 2).trans rfl⟩ (fun hHeld => ?_); refine with_tabW torchonref06_Reduce.tab4 torchonref06_Reduce.bits4 (fun HT_ HW_ => ?_)
      generalize w21.drew = w22 at BK381 BK382 BK383 BK388 HB hHeld ⊢
      refine tz 0 13 HT_ HW_ hHeld ?_
      refine tz 1 14 HT_ HW_ hHeld ?_
      refine tz 2 15 HT_ HW_ hHeld ?_
      refine one_ (i := 3) (N := some 16) #[true, true, true, true, false, false, false, false, false] rfl rfl (one_of HT_.out (by kernel_rfl)) (by decide) (fun K hK => ?_)
      refine gs _ Try.func45 (torchonref06_Leading.calls k a0_0 a0_1 a0_2 t385 t386 t387 t389 _ A5.out) ?_
      rintro e w23 ⟨v390, rfl, ho0, hb⟩
      refine ⟨_, rfl, ?_⟩
      have HO391 := Aside0.mk (Kd.R_lower (Kd.R_newB ho0 (g := gb383) (o := .cells #[.int .i64 0, .int .i64 0, .int .i64 0, .int .i64 0] 25 (0, 0)) (pk BK383)) (below_size (bnow HB)))
      replace BK381 := bb BK381 hb
      replace BK382 := bb BK382 hb
      replace BK383 := bb BK383 hb
      replace BK388 := bb BK388 hb
      replace HB := bst HB hb
      (try clear hb)
      (try clear hb2)
      (try clear hk)
      (try clear hi)
      (try clear ho0)
      obtain ⟨Ao24, co24, eo24⟩ := Kd.R_slice HO391.out
      (first | subst eo24 | (injection eo24 with f1_ f2_ f3_; have f4_ := f1_.symm; have f5_ := f3_.symm; clear f1_ f2_ f3_; subst f4_; subst f5_))
      have p392 : 0 ≤ (0 : Int) := (by omega)
      have q392 : 0 < (t389.length : Int) := of_decide_eq_true (by first | (with_reducible assumption) | assumption)
      obtain ⟨ad392, e392, hx392_0, hx392_1, hx392_2, hx392_3⟩ := at_T25 (Kd.R_reads' HO391.out).2.2 0 p392 q392
      cases e392
      have qi392 : (0 < t389.length) = True := eq_true (by omega)
      (try rw [show ((0 : Int)).toNat = 0 from rfl] at hx392_0)
      (try rw [show 0 * 4 = 0 from rfl] at hx392_0)
      (try rw [Addr.add_zero'] at hx392_0)
      (try rw [show ((0 : Int)).toNat = 0 from rfl] at hx392_1)
      (try rw [show 0 * 4 = 0 from rfl] at hx392_1)
      (try rw [Addr.add_zero'] at hx392_1)
      (try rw [show ((0 : Int)).toNat = 0 from rfl] at hx392_2)
      (try rw [show 0 * 4 = 0 from rfl] at hx392_2)
      (try rw [Addr.add_zero'] at hx392_2)
      (try rw [show ((0 : Int)).toNat = 0 from rfl] at hx392_3)
      (try rw [show 0 * 4 = 0 from rfl] at hx392_3)
      (try rw [Addr.add_zero'] at hx392_3)
      replace p392 := eq_true p392
      replace q392 := eq_true q392
      refine hK.out _ _ ⟨(blk_cell BK388.out 0).trans rfl, (blk_cell BK388.out 1).trans rfl, (blk_cell BK388.out 2).trans rfl, (blk_cell BK381.out 0).trans rfl, (blk_cell BK381.out 1).trans rfl, (blk_cell BK381.out 2).trans rfl⟩ (fun hHeld0 => ?_)
      have hHeld : (fun w' : World => w'.cell? ⟨gb388, 0, none⟩ = some (.int .i64 t385) ∧ w'.cell? ⟨gb388, 1, none⟩ = some (.int .i64 t386) ∧ w'.cell? ⟨gb388, 2, none⟩ = some (.int .i64 t387) ∧ w'.cell? ⟨gb381, 0, none⟩ = some (.int .i64 a0_0) ∧ w'.cell? ⟨gb381, 1, none⟩ = some (.int .i64 a0_1) ∧ w'.cell? ⟨gb381, 2, none⟩ = some (.int .i64 a0_2) ∧ w'.cell? ad392 = some (.int .i64 ((rd_T25 t389 0).f0)) ∧ w'.cell? ⟨ad392.block, ad392.off + 1, none⟩ = some (.int .i64 ((rd_T25 t389 0).f1)) ∧ w'.cell? ⟨ad392.block, ad392.off + 2, none⟩ = some (.int .i64 ((rd_T25 t389 0).f2)) ∧ w'.cell? ⟨ad392.block, ad392.off + 3, none⟩ = some (.int .i64 ((rd_T25 t389 0).f3))) _ := ⟨(blk_cell BK388.out 0).trans rfl, (blk_cell BK388.out 1).trans rfl, (blk_cell BK388.out 2).trans rfl, (blk_cell BK381.out 0).trans rfl, (blk_cell BK381.out 1).trans rfl, (blk_cell BK381.out 2).trans rfl, hx392_0, hx392_1, hx392_2, hx392_3⟩
      refine more_ (S' := fun w' : World => w'.cell? ⟨gb388, 0, none⟩ = some (.int .i64 t385) ∧ w'.cell? ⟨gb388, 1, none⟩ = some (.int .i64 t386) ∧ w'.cell? ⟨gb388, 2, none⟩ = some (.int .i64 t387) ∧ w'.cell? ⟨gb381, 0, none⟩ = some (.int .i64 a0_0) ∧ w'.cell? ⟨gb381, 1, none⟩ = some (.int .i64 a0_1) ∧ w'.cell? ⟨gb381, 2, none⟩ = some (.int .i64 a0_2) ∧ w'.cell? ad392 = some (.int .i64 ((rd_T25 t389 0).f0)) ∧ w'.cell? ⟨ad392.block, ad392.off + 1, none⟩ = some (.int .i64 ((rd_T25 t389 0).f1)) ∧ w'.cell? ⟨ad392.block, ad392.off + 2, none⟩ = some (.int .i64 ((rd_T25 t389 0).f2)) ∧ w'.cell? ⟨ad392.block, ad392.off + 3, none⟩ = some (.int .i64 ((rd_T25 t389 0).f3))) (fun _ h => ⟨h.1, h.2.1, h.2.2.1, h.2.2.2.1, h.2.2.2.2.1, h.2.2.2.2.2.1⟩) _ _ _ _ hHeld ?_
      clear hK K
      refine norm_ (a' := ?_) ?_ ?_
      rotate_left
      · show Act.put _ (some 16) _ = _
        simp only [Act.put, List.setIfInBounds_toArray, List.set_cons_zero, List.set_cons_succ, i64_w, i32_w]
        rfl
      refine pz 4 17 HT_ ?_
      refine tz 5 18 HT_ HW_ hHeld ?_
      refine one_ (i := 6) (N := none) #[true, true, true, true, true, true, true, false, false] rfl rfl (one_of HT_.out (by kernel_rfl)) (by decide) (fun K hK => ?_)
      have hs25 : w23.cell? ⟨gb382, 0, none⟩ = some (.int .i64 0) := (blk_cell BK382.out 0).trans rfl
      have hfs25 := blk_frozen BK382.out 0
      have hns25_0 := NB381_382.out
      have hns25_2 := NB383_382.out
      have hns25_3 := NB388_382.out
      have hms25_0 := NB382_381.out
      have hms25_2 := NB382_383.out
      have hms25_3 := NB382_388.out
      have hs26 : w23.cell? ⟨gb382, 1, none⟩ = some (.int .i64 0) := (blk_cell BK382.out 1).trans rfl
      have hfs26 := blk_frozen BK382.out 1
      have hns26_0 := NB381_382.out
      have hns26_2 := NB383_382.out
      have hns26_3 := NB388_382.out
      have hms26_0 := NB382_381.out
      have hms26_2 := NB382_383.out
      have hms26_3 := NB382_388.out
      have hs27 : w23.cell? ⟨gb382, 2, none⟩ = some (.int .i64 0) := (blk_cell BK382.out 2).trans rfl
      have hfs27 := blk_frozen BK382.out 2
      have hns27_0 := NB381_382.out
      have hns27_2 := NB383_382.out
      have hns27_3 := NB388_382.out
      have hms27_0 := NB382_381.out
      have hms27_2 := NB382_383.out
      have hms27_3 := NB382_388.out
      refine skip_ (w1 := ?_) (by rfl) rfl ?_ ?_
      rotate_left
      · go_simp
        rfl
      refine hK.out _ _ ⟨((cell_far (p := ⟨gb382, _, none⟩) NB388_382.out _).trans (((cell_far (p := ⟨gb382, _, none⟩) NB388_382.out _).trans (((cell_far (p := ⟨gb382, _, none⟩) NB388_382.out _).trans (hHeld.1)))))), ((cell_far (p := ⟨gb382, _, none⟩) NB388_382.out _).trans (((cell_far (p := ⟨gb382, _, none⟩) NB388_382.out _).trans (((cell_far (p := ⟨gb382, _, none⟩) NB388_382.out _).trans (hHeld.2.1)))))), ((cell_far (p := ⟨gb382, _, none⟩) NB388_382.out _).trans (((cell_far (p := ⟨gb382, _, none⟩) NB388_382.out _).trans (((cell_far (p := ⟨gb382, _, none⟩) NB388_382.out _).trans (hHeld.2.2.1)))))), ((cell_far (p := ⟨gb382, _, none⟩) NB381_382.out _).trans (((cell_far (p := ⟨gb382, _, none⟩) NB381_382.out _).trans (((cell_far (p := ⟨gb382, _, none⟩) NB381_382.out _).trans (hHeld.2.2.2.1)))))), ((cell_far (p := ⟨gb382, _, none⟩) NB381_382.out _).trans (((cell_far (p := ⟨gb382, _, none⟩) NB381_382.out _).trans (((cell_far (p := ⟨gb382, _, none⟩) NB381_382.out _).trans (hHeld.2.2.2.2.1)))))), ((cell_far (p := ⟨gb382, _, none⟩) NB381_382.out _).trans (((cell_far (p := ⟨gb382, _, none⟩) NB381_382.out _).trans (((cell_far (p := ⟨gb382, _, none⟩) NB381_382.out _).trans (hHeld.2.2.2.2.2.1)))))), ((cell_far (p := ⟨gb382, _, none⟩) (by first | exact Kd.own_blk (Kd.R_ne HO391.out BK382.out (by decide)) | (rw [add_block]; exact Kd.own_blk (Kd.R_ne HO391.out BK382.out (by decide))) | (show (Addr.add _ _).block ≠ _; rw [add_block]; exact Kd.own_blk (Kd.R_ne HO391.out BK382.out (by decide))) | (dsimp only; exact Kd.own_blk (Kd.R_ne HO391.out BK382.out (by decide)))) _).trans (((cell_far (p := ⟨gb382, _, none⟩) (by first | exact Kd.own_blk (Kd.R_ne HO391.out BK382.out (by decide)) | (rw [add_block]; exact Kd.own_blk (Kd.R_ne HO391.out BK382.out (by decide))) | (show (Addr.add _ _).block ≠ _; rw [add_block]; exact Kd.own_blk (Kd.R_ne HO391.out BK382.out (by decide))) | (dsimp only; exact Kd.own_blk (Kd.R_ne HO391.out BK382.out (by decide)))) _).trans (((cell_far (p := ⟨gb382, _, none⟩) (by first | exact Kd.own_blk (Kd.R_ne HO391.out BK382.out (by decide)) | (rw [add_block]; exact Kd.own_blk (Kd.R_ne HO391.out BK382.out (by decide))) | (show (Addr.add _ _).block ≠ _; rw [add_block]; exact Kd.own_blk (Kd.R_ne HO391.out BK382.out (by decide))) | (dsimp only; exact Kd.own_blk (Kd.R_ne HO391.out BK382.out (by decide)))) _).trans (hHeld.2.2.2.2.2.2.1)))))), ((cell_far (p := ⟨gb382, _, none⟩) (by first | exact Kd.own_blk (Kd.R_ne HO391.out BK382.out (by decide)) | (rw [add_block]; exact Kd.own_blk (Kd.R_ne HO391.out BK382.out (by decide))) | (show (Addr.add _ _).block ≠ _; rw [add_block]; exact Kd.own_blk (Kd.R_ne HO391.out BK382.out (by decide))) | (dsimp only; exact Kd.own_blk (Kd.R_ne HO391.out BK382.out (by decide)))) _).trans (((cell_far (p := ⟨gb382, _, none⟩) (by first | exact Kd.own_blk (Kd.R_ne HO391.out BK382.out (by decide)) | (rw [add_block]; exact Kd.own_blk (Kd.R_ne HO391.out BK382.out (by decide))) | (show (Addr.add _ _).block ≠ _; rw [add_block]; exact Kd.own_blk (Kd.R_ne HO391.out BK382.out (by decide))) | (dsimp only; exact Kd.own_blk (Kd.R_ne HO391.out BK382.out (by decide)))) _).trans (((cell_far (p := ⟨gb382, _, none⟩) (by first | exact Kd.own_blk (Kd.R_ne HO391.out BK382.out (by decide)) | (rw [add_block]; exact Kd.own_blk (Kd.R_ne HO391.out BK382.out (by decide))) | (show (Addr.add _ _).block ≠ _; rw [add_block]; exact Kd.own_blk (Kd.R_ne HO391.out BK382.out (by decide))) | (dsimp only; exact Kd.own_blk (Kd.R_ne HO391.out BK382.out (by decide)))) _).trans (hHeld.2.2.2.2.2.2.2.1)))))), ((cell_far (p := ⟨gb382, _, none⟩) (by first | exact Kd.own_blk (Kd.R_ne HO391.out BK382.out (by decide)) | (rw [add_block]; exact Kd.own_blk (Kd.R_ne HO391.out BK382.out (by decide))) | (show (Addr.add _ _).block ≠ _; rw [add_block]; exact Kd.own_blk (Kd.R_ne HO391.out BK382.out (by decide))) | (dsimp only; exact Kd.own_blk (Kd.R_ne HO391.out BK382.out (by decide)))) _).trans (((cell_far (p := ⟨gb382, _, none⟩) (by first | exact Kd.own_blk (Kd.R_ne HO391.out BK382.out (by decide)) | (rw [add_block]; exact Kd.own_blk (Kd.R_ne HO391.out BK382.out (by decide))) | (show (Addr.add _ _).block ≠ _; rw [add_block]; exact Kd.own_blk (Kd.R_ne HO391.out BK382.out (by decide))) | (dsimp only; exact Kd.own_blk (Kd.R_ne HO391.out BK382.out (by decide)))) _).trans (((cell_far (p := ⟨gb382, _, none⟩) (by first | exact Kd.own_blk (Kd.R_ne HO391.out BK382.out (by decide)) | (rw [add_block]; exact Kd.own_blk (Kd.R_ne HO391.out BK382.out (by decide))) | (show (Addr.add _ _).block ≠ _; rw [add_block]; exact Kd.own_blk (Kd.R_ne HO391.out BK382.out (by decide))) | (dsimp only; exact Kd.own_blk (Kd.R_ne HO391.out BK382.out (by decide)))) _).trans (hHeld.2.2.2.2.2.2.2.2.1)))))), ((cell_far (p := ⟨gb382, _, none⟩) (by first | exact Kd.own_blk (Kd.R_ne HO391.out BK382.out (by decide)) | (rw [add_block]; exact Kd.own_blk (Kd.R_ne HO391.out BK382.out (by decide))) | (show (Addr.add _ _).block ≠ _; rw [add_block]; exact Kd.own_blk (Kd.R_ne HO391.out BK382.out (by decide))) | (dsimp only; exact Kd.own_blk (Kd.R_ne HO391.out BK382.out (by decide)))) _).trans (((cell_far (p := ⟨gb382, _, none⟩) (by first | exact Kd.own_blk (Kd.R_ne HO391.out BK382.out (by decide)) | (rw [add_block]; exact Kd.own_blk (Kd.R_ne HO391.out BK382.out (by decide))) | (show (Addr.add _ _).block ≠ _; rw [add_block]; exact Kd.own_blk (Kd.R_ne HO391.out BK382.out (by decide))) | (dsimp only; exact Kd.own_blk (Kd.R_ne HO391.out BK382.out (by decide)))) _).trans (((cell_far (p := ⟨gb382, _, none⟩) (by first | exact Kd.own_blk (Kd.R_ne HO391.out BK382.out (by decide)) | (rw [add_block]; exact Kd.own_blk (Kd.R_ne HO391.out BK382.out (by decide))) | (show (Addr.add _ _).block ≠ _; rw [add_block]; exact Kd.own_blk (Kd.R_ne HO391.out BK382.out (by decide))) | (dsimp only; exact Kd.own_blk (Kd.R_ne HO391.out BK382.out (by decide)))) _).trans (hHeld.2.2.2.2.2.2.2.2.2))))))⟩ (fun hHeld => ?_)
      clear hK K
      refine one_ (i := 7) (N := none) #[true, true, true, true, true, true, true, true, false] rfl rfl (one_of HT_.out (by kernel_rfl)) (by decide) (fun K hK => ?_)
      have hs28 : w23.cell? ⟨gb383, 0, none⟩ = some (.int .i64 0) := (blk_cell BK383.out 0).trans rfl
      have hfs28 := blk_frozen BK383.out 0
      have hns28_0 := NB381_383.out
      have hns28_1 := NB382_383.out
      have hns28_3 := NB388_383.out
      have hms28_0 := NB383_381.out
      have hms28_1 := NB383_382.out
      have hms28_3 := NB383_388.out
      have hs29 : w23.cell? ⟨gb383, 1, none⟩ = some (.int .i64 0) := (blk_cell BK383.out 1).trans rfl
      have hfs29 := blk_frozen BK383.out 1
      have hns29_0 := NB381_383.out
      have hns29_1 := NB382_383.out
      have hns29_3 := NB388_383.out
      have hms29_0 := NB383_381.out
      have hms29_1 := NB383_382.out
      have hms29_3 := NB383_388.out
      have hs30 : w23.cell? ⟨gb383, 2, none⟩ = some (.int .i64 0) := (blk_cell BK383.out 2).trans rfl
      have hfs30 := blk_frozen BK383.out 2
      have hns30_0 := NB381_383.out
      have hns30_1 := NB382_383.out
      have hns30_3 := NB388_383.out
      have hms30_0 := NB383_381.out
      have hms30_1 := NB383_382.out
      have hms30_3 := NB383_388.out
      have hs31 : w23.cell? ⟨gb383, 3, none⟩ = some (.int .i64 0) := (blk_cell BK383.out 3).trans rfl
      have hfs31 := blk_frozen BK383.out 3
      have hns31_0 := NB381_383.out
      have hns31_1 := NB382_383.out
      have hns31_3 := NB388_383.out
      have hms31_0 := NB383_381.out
      have hms31_1 := NB383_382.out
      have hms31_3 := NB383_388.out
      refine skip_ (w1 := ?_) (by rfl) rfl ?_ ?_
      rotate_left
      · go_simp
        rfl
      refine hK.out _ _ ⟨((cell_far (p := ⟨gb383, _, none⟩) NB388_383.out _).trans (((cell_far (p := ⟨gb383, _, none⟩) NB388_383.out _).trans (((cell_far (p := ⟨gb383, _, none⟩) NB388_383.out _).trans (((cell_far (p := ⟨gb383, _, none⟩) NB388_383.out _).trans (hHeld.1)))))))), ((cell_far (p := ⟨gb383, _, none⟩) NB388_383.out _).trans (((cell_far (p := ⟨gb383, _, none⟩) NB388_383.out _).trans (((cell_far (p := ⟨gb383, _, none⟩) NB388_383.out _).trans (((cell_far (p := ⟨gb383, _, none⟩) NB388_383.out _).trans (hHeld.2.1)))))))), ((cell_far (p := ⟨gb383, _, none⟩) NB388_383.out _).trans (((cell_far (p := ⟨gb383, _, none⟩) NB388_383.out _).trans (((cell_far (p := ⟨gb383, _, none⟩) NB388_383.out _).trans (((cell_far (p := ⟨gb383, _, none⟩) NB388_383.out _).trans (hHeld.2.2.1)))))))), ((cell_far (p := ⟨gb383, _, none⟩) NB381_383.out _).trans (((cell_far (p := ⟨gb383, _, none⟩) NB381_383.out _).trans (((cell_far (p := ⟨gb383, _, none⟩) NB381_383.out _).trans (((cell_far (p := ⟨gb383, _, none⟩) NB381_383.out _).trans (hHeld.2.2.2.1)))))))), ((cell_far (p := ⟨gb383, _, none⟩) NB381_383.out _).trans (((cell_far (p := ⟨gb383, _, none⟩) NB381_383.out _).trans (((cell_far (p := ⟨gb383, _, none⟩) NB381_383.out _).trans (((cell_far (p := ⟨gb383, _, none⟩) NB381_383.out _).trans (hHeld.2.2.2.2.1)))))))), ((cell_far (p := ⟨gb383, _, none⟩) NB381_383.out _).trans (((cell_far (p := ⟨gb383, _, none⟩) NB381_383.out _).trans (((cell_far (p := ⟨gb383, _, none⟩) NB381_383.out _).trans (((cell_far (p := ⟨gb383, _, none⟩) NB381_383.out _).trans (hHeld.2.2.2.2.2.1)))))))), ((cell_far (p := ⟨gb383, _, none⟩) (by first | exact Kd.own_blk (Kd.R_away HO391.out (fun _ hk => hk.2)) | (rw [add_block]; exact Kd.own_blk (Kd.R_away HO391.out (fun _ hk => hk.2))) | (show (Addr.add _ _).block ≠ _; rw [add_block]; exact Kd.own_blk (Kd.R_away HO391.out (fun _ hk => hk.2))) | (dsimp only; exact Kd.own_blk (Kd.R_away HO391.out (fun _ hk => hk.2)))) _).trans (((cell_far (p := ⟨gb383, _, none⟩) (by first | exact Kd.own_blk (Kd.R_away HO391.out (fun _ hk => hk.2)) | (rw [add_block]; exact Kd.own_blk (Kd.R_away HO391.out (fun _ hk => hk.2))) | (show (Addr.add _ _).block ≠ _; rw [add_block]; exact Kd.own_blk (Kd.R_away HO391.out (fun _ hk => hk.2))) | (dsimp only; exact Kd.own_blk (Kd.R_away HO391.out (fun _ hk => hk.2)))) _).trans (((cell_far (p := ⟨gb383, _, none⟩) (by first | exact Kd.own_blk (Kd.R_away HO391.out (fun _ hk => hk.2)) | (rw [add_block]; exact Kd.own_blk (Kd.R_away HO391.out (fun _ hk => hk.2))) | (show (Addr.add _ _).block ≠ _; rw [add_block]; exact Kd.own_blk (Kd.R_away HO391.out (fun _ hk => hk.2))) | (dsimp only; exact Kd.own_blk (Kd.R_away HO391.out (fun _ hk => hk.2)))) _).trans (((cell_far (p := ⟨gb383, _, none⟩) (by first | exact Kd.own_blk (Kd.R_away HO391.out (fun _ hk => hk.2)) | (rw [add_block]; exact Kd.own_blk (Kd.R_away HO391.out (fun _ hk => hk.2))) | (show (Addr.add _ _).block ≠ _; rw [add_block]; exact Kd.own_blk (Kd.R_away HO391.out (fun _ hk => hk.2))) | (dsimp only; exact Kd.own_blk (Kd.R_away HO391.out (fun _ hk => hk.2)))) _).trans (hHeld.2.2.2.2.2.2.1)))))))), ((cell_far (p := ⟨gb383, _, none⟩) (by first | exact Kd.own_blk (Kd.R_away HO391.out (fun _ hk => hk.2)) | (rw [add_block]; exact Kd.own_blk (Kd.R_away HO391.out (fun _ hk => hk.2))) | (show (Addr.add _ _).block ≠ _; rw [add_block]; exact Kd.own_blk (Kd.R_away HO391.out (fun _ hk => hk.2))) | (dsimp only; exact Kd.own_blk (Kd.R_away HO391.out (fun _ hk => hk.2)))) _).trans (((cell_far (p := ⟨gb383, _, none⟩) (by first | exact Kd.own_blk (Kd.R_away HO391.out (fun _ hk => hk.2)) | (rw [add_block]; exact Kd.own_blk (Kd.R_away HO391.out (fun _ hk => hk.2))) | (show (Addr.add _ _).block ≠ _; rw [add_block]; exact Kd.own_blk (Kd.R_away HO391.out (fun _ hk => hk.2))) | (dsimp only; exact Kd.own_blk (Kd.R_away HO391.out (fun _ hk => hk.2)))) _).trans (((cell_far (p := ⟨gb383, _, none⟩) (by first | exact Kd.own_blk (Kd.R_away HO391.out (fun _ hk => hk.2)) | (rw [add_block]; exact Kd.own_blk (Kd.R_away HO391.out (fun _ hk => hk.2))) | (show (Addr.add _ _).block ≠ _; rw [add_block]; exact Kd.own_blk (Kd.R_away HO391.out (fun _ hk => hk.2))) | (dsimp only; exact Kd.own_blk (Kd.R_away HO391.out (fun _ hk => hk.2)))) _).trans (((cell_far (p := ⟨gb383, _, none⟩) (by first | exact Kd.own_blk (Kd.R_away HO391.out (fun _ hk => hk.2)) | (rw [add_block]; exact Kd.own_blk (Kd.R_away HO391.out (fun _ hk => hk.2))) | (show (Addr.add _ _).block ≠ _; rw [add_block]; exact Kd.own_blk (Kd.R_away HO391.out (fun _ hk => hk.2))) | (dsimp only; exact Kd.own_blk (Kd.R_away HO391.out (fun _ hk => hk.2)))) _).trans (hHeld.2.2.2.2.2.2.2.1)))))))), ((cell_far (p := ⟨gb383, _, none⟩) (by first | exact Kd.own_blk (Kd.R_away HO391.out (fun _ hk => hk.2)) | (rw [add_block]; exact Kd.own_blk (Kd.R_away HO391.out (fun _ hk => hk.2))) | (show (Addr.add _ _).block ≠ _; rw [add_block]; exact Kd.own_blk (Kd.R_away HO391.out (fun _ hk => hk.2))) | (dsimp only; exact Kd.own_blk (Kd.R_away HO391.out (fun _ hk => hk.2)))) _).trans (((cell_far (p := ⟨gb383, _, none⟩) (by first | exact Kd.own_blk (Kd.R_away HO391.out (fun _ hk => hk.2)) | (rw [add_block]; exact Kd.own_blk (Kd.R_away HO391.out (fun _ hk => hk.2))) | (show (Addr.add _ _).block ≠ _; rw [add_block]; exact Kd.own_blk (Kd.R_away HO391.out (fun _ hk => hk.2))) | (dsimp only; exact Kd.own_blk (Kd.R_away HO391.out (fun _ hk => hk.2)))) _).trans (((cell_far (p := ⟨gb383, _, none⟩) (by first | exact Kd.own_blk (Kd.R_away HO391.out (fun _ hk => hk.2)) | (rw [add_block]; exact Kd.own_blk (Kd.R_away HO391.out (fun _ hk => hk.2))) | (show (Addr.add _ _).block ≠ _; rw [add_block]; exact Kd.own_blk (Kd.R_away HO391.out (fun _ hk => hk.2))) | (dsimp only; exact Kd.own_blk (Kd.R_away HO391.out (fun _ hk => hk.2)))) _).trans (((cell_far (p := ⟨gb383, _, none⟩) (by first | exact Kd.own_blk (Kd.R_away HO391.out (fun _ hk => hk.2)) | (rw [add_block]; exact Kd.own_blk (Kd.R_away HO391.out (fun _ hk => hk.2))) | (show (Addr.add _ _).block ≠ _; rw [add_block]; exact Kd.own_blk (Kd.R_away HO391.out (fun _ hk => hk.2))) | (dsimp only; exact Kd.own_blk (Kd.R_away HO391.out (fun _ hk => hk.2)))) _).trans (hHeld.2.2.2.2.2.2.2.2.1)))))))), ((cell_far (p := ⟨gb383, _, none⟩) (by first | exact Kd.own_blk (Kd.R_away HO391.out (fun _ hk => hk.2)) | (rw [add_block]; exact Kd.own_blk (Kd.R_away HO391.out (fun _ hk => hk.2))) | (show (Addr.add _ _).block ≠ _; rw [add_block]; exact Kd.own_blk (Kd.R_away HO391.out (fun _ hk => hk.2))) | (dsimp only; exact Kd.own_blk (Kd.R_away HO391.out (fun _ hk => hk.2)))) _).trans (((cell_far (p := ⟨gb383, _, none⟩) (by first | exact Kd.own_blk (Kd.R_away HO391.out (fun _ hk => hk.2)) | (rw [add_block]; exact Kd.own_blk (Kd.R_away HO391.out (fun _ hk => hk.2))) | (show (Addr.add _ _).block ≠ _; rw [add_block]; exact Kd.own_blk (Kd.R_away HO391.out (fun _ hk => hk.2))) | (dsimp only; exact Kd.own_blk (Kd.R_away HO391.out (fun _ hk => hk.2)))) _).trans (((cell_far (p := ⟨gb383, _, none⟩) (by first | exact Kd.own_blk (Kd.R_away HO391.out (fun _ hk => hk.2)) | (rw [add_block]; exact Kd.own_blk (Kd.R_away HO391.out (fun _ hk => hk.2))) | (show (Addr.add _ _).block ≠ _; rw [add_block]; exact Kd.own_blk (Kd.R_away HO391.out (fun _ hk => hk.2))) | (dsimp only; exact Kd.own_blk (Kd.R_away HO391.out (fun _ hk => hk.2)))) _).trans (((cell_far (p := ⟨gb383, _, none⟩) (by first | exact Kd.own_blk (Kd.R_away HO391.out (fun _ hk => hk.2)) | (rw [add_block]; exact Kd.own_blk (Kd.R_away HO391.out (fun _ hk => hk.2))) | (show (Addr.add _ _).block ≠ _; rw [add_block]; exact Kd.own_blk (Kd.R_away HO391.out (fun _ hk => hk.2))) | (dsimp only; exact Kd.own_blk (Kd.R_away HO391.out (fun _ hk => hk.2)))) _).trans (hHeld.2.2.2.2.2.2.2.2.2))))))))⟩ (fun hHeld => ?_)
      clear hK K
      refine pz 8 4 HT_ ?_
      refine done_ (done_of HT_.out (by kernel_rfl)) ?_
      try go_wp2
      refine bodyPost_ret (results_list (rs := [.cell 2 23, .cell 3 25, .tmp 4]) rfl (by simp) (.cell gb382 23 #[.int .i64 t385, .int .i64 t386, .int .i64 t387] (0, 0) _ rfl (by (with_reducible repeat (first | refine blk_drewN ?_ _ | refine blk_drew ?_ | refine blk_alloc ?_ _)); refine blk_far ?_ NB382_383.out _; (with_reducible repeat (first | refine blk_drewN ?_ _ | refine blk_drew ?_ | refine blk_alloc ?_ _)); refine blk_far ?_ NB382_383.out _; (with_reducible repeat (first | refine blk_drewN ?_ _ | refine blk_drew ?_ | refine blk_alloc ?_ _)); refine blk_far ?_ NB382_383.out _; (with_reducible repeat (first | refine blk_drewN ?_ _ | refine blk_drew ?_ | refine blk_alloc ?_ _)); refine blk_far ?_ NB382_383.out _; (with_reducible repeat (first | refine blk_drewN ?_ _ | refine blk_drew ?_ | refine blk_alloc ?_ _)); refine blk_put (cs := #[.int .i64 t385, .int .i64 t386, .int .i64 0]) ?_ 2 _ rfl; (with_reducible repeat (first | refine blk_drewN ?_ _ | refine blk_drew ?_ | refine blk_alloc ?_ _)); refine blk_put (cs := #[.int .i64 t385, .int .i64 0, .int .i64 0]) ?_ 1 _ rfl; (with_reducible repeat (first | refine blk_drewN ?_ _ | refine blk_drew ?_ | refine blk_alloc ?_ _)); refine blk_put (cs := #[.int .i64 0, .int .i64 0, .int .i64 0]) ?_ 0 _ rfl; (with_reducible repeat (first | refine blk_drewN ?_ _ | refine blk_drew ?_ | refine blk_alloc ?_ _)); exact BK382.out) Try.underlying23 rfl (by kernel_rfl) (.cell gb383 25 #[.int .i64 ((rd_T25 t389 0).f0), .int .i64 ((rd_T25 t389 0).f1), .int .i64 ((rd_T25 t389 0).f2), .int .i64 ((rd_T25 t389 0).f3)] (0, 0) _ rfl (by (with_reducible repeat (first | refine blk_drewN ?_ _ | refine blk_drew ?_ | refine blk_alloc ?_ _)); refine blk_put (cs := #[.int .i64 ((rd_T25 t389 0).f0), .int .i64 ((rd_T25 t389 0).f1), .int .i64 ((rd_T25 t389 0).f2), .int .i64 0]) ?_ 3 _ rfl; (with_reducible repeat (first | refine blk_drewN ?_ _ | refine blk_drew ?_ | refine blk_alloc ?_ _)); refine blk_put (cs := #[.int .i64 ((rd_T25 t389 0).f0), .int .i64 ((rd_T25 t389 0).f1), .int .i64 0, .int .i64 0]) ?_ 2 _ rfl; (with_reducible repeat (first | refine blk_drewN ?_ _ | refine blk_drew ?_ | refine blk_alloc ?_ _)); refine blk_put (cs := #[.int .i64 ((rd_T25 t389 0).f0), .int .i64 0, .int .i64 0, .int .i64 0]) ?_ 1 _ rfl; (with_reducible repeat (first | refine blk_drewN ?_ _ | refine blk_drew ?_ | refine blk_alloc ?_ _)); refine blk_put (cs := #[.int .i64 0, .int .i64 0, .int .i64 0, .int .i64 0]) ?_ 0 _ rfl; (with_reducible repeat (first | refine blk_drewN ?_ _ | refine blk_drew ?_ | refine blk_alloc ?_ _)); refine blk_far ?_ NB383_382.out _; (with_reducible repeat (first | refine blk_drewN ?_ _ | refine blk_drew ?_ | refine blk_alloc ?_ _)); refine blk_far ?_ NB383_382.out _; (with_reducible repeat (first | refine blk_drewN ?_ _ | refine blk_drew ?_ | refine blk_alloc ?_ _)); refine blk_far ?_ NB383_382.out _; (with_reducible repeat (first | refine blk_drewN ?_ _ | refine blk_drew ?_ | refine blk_alloc ?_ _)); exact BK383.out) Try.underlying25 rfl (by kernel_rfl) (.tmp .nil)))) rfl ?_
      exact rt HB
    · rw [if_neg c6] at H
      exact absurd H (by simp)
  · rw [if_neg c3] at H
    have c3b0 : (t384 == 0) = false := beq_eq_false_iff_ne.mpr c3
    have c3b1 : (t384 != 0) = true := bne_iff_ne.mpr c3
    simp only [Option.some.injEq, Prod.mk.injEq] at H
    obtain ⟨rfl, rfl, rfl, rfl, rfl, rfl, rfl, rfl⟩ := H
    go_enter Try.func12, Try.ntmps12
    go_wp2_with (first | ((with_reducible refine gate_dst (N := 1) rfl ?_); refine bx 1 #[.int .i64 a0_0, .int .i64 a0_1, .int .i64 a0_2] 23 fun gb381 hg w32 BK381 hb => ?_; have GW381 := gw hg HB; have GE381 := gw hg HB; replace HB := bst HB hb; clear hb hg) | ((with_reducible refine gate_dst (N := 2) rfl ?_); refine bx 2 #[.int .i64 0, .int .i64 0, .int .i64 0] 23 fun gb382 hg w33 BK382 hb => ?_; have GW382 := gw hg HB; have GE382 := gw hg HB; have NB381_382 := nlt hg BK381; have NB382_381 := ngt hg BK381; replace BK381 := bb BK381 hb; replace HB := bst HB hb; clear hb hg) | ((with_reducible refine gate_dst (N := 3) rfl ?_); refine bx 3 #[.int .i64 0, .int .i64 0, .int .i64 0, .int .i64 0] 25 fun gb383 hg w34 BK383 hb => ?_; have GW383 := gw hg HB; have GE383 := gw hg HB; have NB381_383 := nlt hg BK381; have NB383_381 := ngt hg BK381; have NB382_383 := nlt hg BK382; have NB383_382 := ngt hg BK382; replace BK381 := bb BK381 hb; replace BK382 := bb BK382 hb; replace HB := bst HB hb; clear hb hg; have hnb35 := NB381_382.out; have hnc35 := NB382_381.out; have hnb36 := NB381_383.out; have hnc36 := NB383_381.out; have ⟨hcz37_0, hcz37_1, hcz37_2, hfz37_0, hfz37_1, hfz37_2⟩ := cf3 BK381) | ((with_reducible refine gate_callee (f := 43) rfl ?_); refine gl 7 Try.func43 (torchonref06_Check.calls k a0_0 a0_1 a0_2 t384 _ A2.out) ?_; rintro e w38 ⟨rfl, hb⟩; refine ⟨_, rfl, ?_⟩; replace BK381 := bb BK381 hb; replace BK382 := bb BK382 hb; replace BK383 := bb BK383 hb; replace HB := bst HB hb; clear hb; have hnb39 := NB382_383.out; have hnc39 := NB383_382.out; have ⟨hcz40_0, hcz40_1, hcz40_2, hfz40_0, hfz40_1, hfz40_2⟩ := cf3 BK382) | ((with_reducible refine gate_store (t := 23) (p := 2) rfl ?_); refine sx 23 2 ((((w38.setCell ⟨gb382, 0, none⟩ (.int .i64 0)).setCell ⟨gb382, 1, none⟩ (.int .i64 0)).setCell ⟨gb382, 2, none⟩ (.int .i64 0))) fun w41 hw => ?_; replace BK381 := fw hw BK381; replace BK382 := pw3 hw BK382; replace BK383 := fw hw BK383; replace HB := bw hw HB; clear hw; have ⟨hcz42_0, hcz42_1, hcz42_2, hcz42_3, hfz42_0, hfz42_1, hfz42_2, hfz42_3⟩ := cf4 BK383) | ((with_reducible refine gate_store (t := 25) (p := 3) rfl ?_); refine sx 25 3 (((((w41.setCell ⟨gb383, 0, none⟩ (.int .i64 0)).setCell ⟨gb383, 1, none⟩ (.int .i64 0)).setCell ⟨gb383, 2, none⟩ (.int .i64 0)).setCell ⟨gb383, 3, none⟩ (.int .i64 0))) fun w43 hw => ?_; replace BK381 := fw hw BK381; replace BK382 := fw hw BK382; replace BK383 := pw4 hw BK383; replace HB := bw hw HB; clear hw))
    refine bodyPost_ret (results_list (rs := [.cell 2 23, .cell 3 25, .tmp 4]) rfl (by simp) (.cell gb382 23 #[.int .i64 0, .int .i64 0, .int .i64 0] (0, 0) _ rfl (pk BK382) Try.underlying23 rfl (by kernel_rfl) (.cell gb383 25 #[.int .i64 0, .int .i64 0, .int .i64 0, .int .i64 0] (0, 0) _ rfl (pk BK383) Try.underlying25 rfl (by kernel_rfl) (.tmp .nil)))) rfl ?_
    exact rt HB
end
section
theorem eqA37 (d : Nat) (w : World) (x0 y0 : Int) (x1 y1 : Int) :
    (Op.equalIn (d + 2) 37 (.agg #[.int .i64 x0, .int .i64 x1]) (.agg #[.int .i64 y0, .int .i64 y1])).run Try.prog w = .ok (x0 == y0 && (x1 == y1)) w := by
  refine eqA_of Try.underlying37 (by kernel_rfl) ?_
  refine eqf_cons (by rfl) (by go_simp; rfl) (by go_simp; rfl) (by go_simp) ?_
  exact eqf_last (by rfl) (by go_simp; rfl) (by go_simp; rfl) (by go_simp)
end
section
/-! ### torchonlaw06_mat: function 17 -/
def torchonlaw06_mat.f (a0 : Int) (a1 : Int) (a2 : Int) (a3 : Int) : Option (Int × Int × Int × Int) := some (a0, a1, a2, a3)
set_option maxHeartbeats 8000000 in
set_option maxRecDepth 100000 in
theorem torchonlaw06_mat.calls (a0 : Int) (a1 : Int) (a2 : Int) (a3 : Int) (r1 : Int) (r2 : Int) (r3 : Int) (r4 : Int) (w : World) (h : torchonlaw06_mat.f a0 a1 a2 a3 = some (r1, r2, r3, r4)) :
    Calls Try.prog 17 #[.int .i64 a0, .int .i64 a1, .int .i64 a2, .int .i64 a3] w fun e w' => e = .returned (.agg #[.int .i64 r1, .int .i64 r2, .int .i64 r3, .int .i64 r4]) ∧ Below w.heap.size w w' := by
  have hu25 := Try.underlying25
  have HB := Aside0.mk (Below.refl w.heap.size w)
  have H : (some (a0, a1, a2, a3)) = some (r1, r2, r3, r4) := h
  clear h
  simp only [Option.some.injEq, Prod.mk.injEq] at H
  obtain ⟨rfl, rfl, rfl, rfl⟩ := H
  go_enter Try.func17, Try.ntmps17
  go_wp2_with (first | ((with_reducible refine gate_dst (N := 8) rfl ?_); refine bx 8 #[.int .i64 0, .int .i64 0, .int .i64 0, .int .i64 0] 25 fun gb393 hg w5 BK393 hb => ?_; have GW393 := gw hg HB; have GE393 := gw hg HB; replace HB := bst HB hb; clear hb hg; have ⟨hcz6_0, hcz6_1, hcz6_2, hcz6_3, hfz6_0, hfz6_1, hfz6_2, hfz6_3⟩ := cf4 BK393) | ((with_reducible refine gate_store (t := 25) (p := 8) rfl ?_); refine sx 25 8 (((((w5.setCell ⟨gb393, 0, none⟩ (.int .i64 a0)).setCell ⟨gb393, 1, none⟩ (.int .i64 a1)).setCell ⟨gb393, 2, none⟩ (.int .i64 a2)).setCell ⟨gb393, 3, none⟩ (.int .i64 a3))) fun w7 hw => ?_; replace BK393 := pw4 hw BK393; replace HB := bw hw HB; clear hw))
  refine bodyPost_ret (results_cell_row rfl _ _ gb393 25 #[.int .i64 a0, .int .i64 a1, .int .i64 a2, .int .i64 a3] (0, 0) _ rfl (pk BK393) Try.underlying25 rfl (by kernel_rfl)) rfl ?_
  exact rt HB
end
section
/-! ### grids_point_1: function 77 -/
def grids_point_1.f (a0_0 : Int) (a0_1 : Int) : Option (Bool) := (grids_outside.f a0_0 1000000).bind fun t395 => (if t395 = true then (some true) else ((grids_outside.f a0_1 1000000).bind fun t396 => (some t396)))
set_option maxHeartbeats 8000000 in
set_option maxRecDepth 100000 in
theorem grids_point_1.calls (a0_0 : Int) (a0_1 : Int) (r : Bool) (w : World) (h : grids_point_1.f a0_0 a0_1 = some r) :
    Calls Try.prog 77 #[.agg #[.int .i64 a0_0, .int .i64 a0_1]] w fun e w' => e = .returned (.bool r) ∧ Below w.heap.size w w' := by
  have hu37 := Try.underlying37
  have HB := Aside0.mk (Below.refl w.heap.size w)
  have H : ((grids_outside.f a0_0 1000000).bind fun t395 => (if t395 = true then (some true) else ((grids_outside.f a0_1 1000000).bind fun t396 => (some t396)))) = some r := h
  clear h
  obtain ⟨t395, A2, H⟩ := ob H
  by_cases c3 : t395 = true
  · subst c3
    have H1 : (some true) = some r := by rw [if_pos rfl] at H; exact H
    clear H
    have H := H1
    clear H1
    obtain rfl := Option.some.inj H
    go_enter Try.func77, Try.ntmps77
    go_wp2_with (first | ((with_reducible refine gate_dst (N := 1) rfl ?_); refine bx 1 #[.int .i64 a0_0, .int .i64 a0_1] 37 fun gb394 hg w4 BK394 hb => ?_; have GW394 := gw hg HB; have GE394 := gw hg HB; replace HB := bst HB hb; clear hb hg; have ⟨hcz5_0, hcz5_1, hfz5_0, hfz5_1⟩ := cf2 BK394) | ((with_reducible refine gate_callee (f := 46) rfl ?_); refine goesL_ (some 5) rfl rfl Try.func46 (by kernel_rfl) rfl #[.int .i64 a0_0, .int .i64 1000000] rfl am ?_; (with_reducible refine (grids_outside.calls a0_0 1000000 true _ A2.out).mono ?_); rintro e w' ⟨rfl, ⟨nd, rfl⟩⟩; refine ⟨_, rfl, ?_⟩))
    go_ret
    exact rt HB
  · replace c3 := Bool.eq_false_iff.mpr c3
    subst c3
    have H1 : ((grids_outside.f a0_1 1000000).bind fun t396 => (some t396)) = some r := by rw [if_neg (show ¬ (false = true) by decide)] at H; exact H
    clear H
    have H := H1
    clear H1
    obtain ⟨t396, A6, H⟩ := ob H
    obtain rfl := Option.some.inj H
    go_enter Try.func77, Try.ntmps77
    go_wp2_with (first | ((with_reducible refine gate_dst (N := 1) rfl ?_); refine bx 1 #[.int .i64 a0_0, .int .i64 a0_1] 37 fun gb394 hg w7 BK394 hb => ?_; have GW394 := gw hg HB; have GE394 := gw hg HB; replace HB := bst HB hb; clear hb hg; have ⟨hcz8_0, hcz8_1, hfz8_0, hfz8_1⟩ := cf2 BK394) | ((with_reducible refine gate_callee (f := 46) rfl ?_); refine goesL_ (some 5) rfl rfl Try.func46 (by kernel_rfl) rfl #[.int .i64 a0_0, .int .i64 1000000] rfl am ?_; (with_reducible refine (grids_outside.calls a0_0 1000000 false _ A2.out).mono ?_); rintro e w' ⟨rfl, ⟨nd, rfl⟩⟩; refine ⟨_, rfl, ?_⟩) | (go_at_call 46; (with_reducible refine (grids_outside.calls a0_1 1000000 t396 _ A6.out).mono ?_); rintro e w' ⟨rfl, ⟨nd, rfl⟩⟩))
    go_ret
    exact rt HB
end
section
/-! ### api_GrPoint_84: function 84 -/
def api_GrPoint_84.l0 : Nat → List (S37) → Int → Int → Option (Int)
  | 0, _, _, _ => none
  | k + 1, x0, x7, x8 => if x8 < x7 then (if 0 ≤ x8 then (if x8 < (x0.length : Int) then ((grids_point_1.f ((rd_T37 x0 x8).f0) ((rd_T37 x0 x8).f1)).bind fun t398 => (if t398 = true then (some x8) else ((some (wrap64 (x8 + 1))).bind fun z399 => (api_GrPoint_84.l0 k x0 x7 z399)))) else (none)) else (none)) else (some (-1))
def api_GrPoint_84.f (k : Nat) (l0 : List (S37))  : Option (Int) := api_GrPoint_84.l0 k l0 (l0.length : Int) 0
theorem api_GrPoint_84.mono_l : ∀ k, (∀ y0 y1 y2, LeO (api_GrPoint_84.l0 k y0 y1 y2) (api_GrPoint_84.l0 (k + 1) y0 y1 y2))
  | 0 => fun _ _ _ r h => by simp [api_GrPoint_84.l0] at h
  | k + 1 => by
    have ih0 := api_GrPoint_84.mono_l k
    · intro y0 y1 y2
      unfold api_GrPoint_84.l0
      repeat' first
      | (with_reducible exact ih0 _ _ _)
      | (with_reducible exact LeO.refl _)
      | (with_reducible exact LeO.none _)
      | (with_reducible refine LeO.ite ?_ ?_)
      | (with_reducible refine LeO.bind ?_ (fun _ => ?_))
      | exact ih0 _ _ _
      | exact LeO.none _
      | refine LeO.ite ?_ ?_
      | refine LeO.bind ?_ (fun _ => ?_)
theorem api_GrPoint_84.mono : ∀ a0 k, LeO (api_GrPoint_84.f k a0) (api_GrPoint_84.f (k + 1) a0) := by
  intro a0 k
  have ih0 := api_GrPoint_84.mono_l k
  unfold api_GrPoint_84.f
  repeat' first
      | (with_reducible exact ih0 _ _ _)
      | (with_reducible exact LeO.refl _)
      | (with_reducible exact LeO.none _)
      | (with_reducible refine LeO.ite ?_ ?_)
      | (with_reducible refine LeO.bind ?_ (fun _ => ?_))
      | exact ih0 _ _ _
      | exact LeO.none _
      | refine LeO.ite ?_ ?_
      | refine LeO.bind ?_ (fun _ => ?_)
set_option maxHeartbeats 8000000 in
set_option maxRecDepth 100000 in
theorem api_GrPoint_84.calls (k : Nat) (A0 : Option Addr) (c0 : Nat) (l0 : List (S37))  (r : Int) (w : World) (hr0 : Kd.C k37 w A0 l0.length l0) (hc0 : l0.length ≤ c0) (h : api_GrPoint_84.f k l0 = some r) :
    Calls Try.prog 84 #[.slice A0 l0.length c0, .func (.func 77) #[] #[]] w fun e w' => e = .returned (.int .i64 r) ∧ Below w.heap.size w w' := by
  have hu37 := Try.underlying37
  have HR0 := Aside0.mk hr0
  have HC0 := Aside0.mk hc0
  clear hr0 hc0
  have HB := Aside0.mk (Below.refl w.heap.size w)
  have H : (api_GrPoint_84.l0 k l0 (l0.length : Int) 0) = some r := h
  clear h
  have H' := Aside0.mk H
  clear H
  go_enter Try.func84, Try.ntmps84
  go_wp2
  go_loopg [8] k (fun kq v8 w' => ∃ (x8_1 : Int), v8 = .int .i64 x8_1 ∧ Aside0 (api_GrPoint_84.l0 kq l0 (l0.length : Int) x8_1 = some r) ∧ Aside0 (kq ≤ k) ∧ Aside0 (Below w.heap.size w w'))
  case atStart => exact ⟨(0), (by first | rfl | (simp; done) | (simp [*]; done)), H', ⟨Nat.le_refl _⟩, ⟨bnow HB⟩⟩
  case round =>
    clear H'
    try clear p2
    obtain ⟨x8_1, rfl, HA, HK1, HB⟩ := hrel
    cases gk with
    | zero => exact absurd HA.out (by simp [api_GrPoint_84.l0])
    | succ k1 =>
      have H := HA.out
      clear HA
      simp only [api_GrPoint_84.l0] at H
      by_cases c3 : x8_1 < (l0.length : Int)
      · rw [if_pos c3] at H
        have c3b0 : decide (x8_1 < (l0.length : Int)) = true := decide_eq_true c3
        clear c3
        by_cases c4 : 0 ≤ x8_1
        · rw [if_pos c4] at H
          have c4b0 : decide (0 ≤ x8_1) = true := decide_eq_true c4
          clear c4
          by_cases c5 : x8_1 < (l0.length : Int)
          · rw [if_pos c5] at H
            have c5b0 : decide (x8_1 < (l0.length : Int)) = true := decide_eq_true c5
            clear c5
            obtain ⟨t398, A6, H⟩ := ob H
            by_cases c7 : t398 = true
            · subst c7
              have H1 : (some x8_1) = some r := by rw [if_pos rfl] at H; exact H
              clear H
              have H := H1
              clear H1
              obtain rfl := Option.some.inj H
              have p397 : 0 ≤ (x8_1 : Int) := of_decide_eq_true (by first | (with_reducible assumption) | assumption)
              have q397 : x8_1 < (l0.length : Int) := of_decide_eq_true (by first | (with_reducible assumption) | assumption)
              obtain ⟨ad397, e397, hx397_0, hx397_1⟩ := at_T37 HR0.out x8_1 p397 q397
              cases e397
              replace hx397_0 := (HB.out.cell (World.block_lt_of_cell? w _ hx397_0)).trans hx397_0
              replace hx397_1 := (HB.out.cell (World.block_lt_of_cell? w _ hx397_1)).trans hx397_1
              replace p397 := eq_true p397
              replace q397 := eq_true q397
              go_wp2_with (first | (go_at_call 77; (with_reducible refine (grids_point_1.calls ((rd_T37 l0 x8_1).f0) ((rd_T37 l0 x8_1).f1) true _ A6.out).mono ?_); rintro e w8 ⟨rfl, hb⟩; replace HB := bst HB hb; clear hb))
              go_ret
              exact rt HB
            · replace c7 := Bool.eq_false_iff.mpr c7
              subst c7
              have H1 : ((some (wrap64 (x8_1 + 1))).bind fun z399 => (api_GrPoint_84.l0 k1 l0 (l0.length : Int) z399)) = some r := by rw [if_neg (show ¬ (false = true) by decide)] at H; exact H
              clear H
              have H := H1
              clear H1
              obtain ⟨z399, E90, H⟩ := oc H
              have E9w : (IntKind.i64.wrap (x8_1 + 1)) = z399 := (i64_w _).trans E90
              have H' := Aside0.mk H
              clear H
              have p397 : 0 ≤ (x8_1 : Int) := of_decide_eq_true (by first | (with_reducible assumption) | assumption)
              have q397 : x8_1 < (l0.length : Int) := of_decide_eq_true (by first | (with_reducible assumption) | assumption)
              obtain ⟨ad397, e397, hx397_0, hx397_1⟩ := at_T37 HR0.out x8_1 p397 q397
              cases e397
              replace hx397_0 := (HB.out.cell (World.block_lt_of_cell? w _ hx397_0)).trans hx397_0
              replace hx397_1 := (HB.out.cell (World.block_lt_of_cell? w _ hx397_1)).trans hx397_1
              replace p397 := eq_true p397
              replace q397 := eq_true q397
              go_wp2_with (first | (go_at_call 77; (with_reducible refine (grids_point_1.calls ((rd_T37 l0 x8_1).f0) ((rd_T37 l0 x8_1).f1) false _ A6.out).mono ?_); rintro e w10 ⟨rfl, hb⟩; replace HB := bst HB hb; clear hb))
              go_roundg k1
              case measure => have := HK1.out; omega
              case rel => exact ⟨(z399), (by first | rfl | (simp; done) | (simp [*]; done)), H', ⟨by have := HK1.out; omega⟩, ⟨bnow HB⟩⟩
          · rw [if_neg c5] at H
            exact absurd H (by simp)
        · rw [if_neg c4] at H
          exact absurd H (by simp)
      · rw [if_neg c3] at H
        have c3b0 : decide (x8_1 < (l0.length : Int)) = false := decide_eq_false c3
        clear c3
        obtain rfl := Option.some.inj H
        go_wp2
        go_ret
        exact rt HB
end
section
/-! ### api_GrPoint_76: function 76 -/
def api_GrPoint_76.f (k : Nat) (l0 : List (S37))  : Option (Bool) := (api_GrPoint_84.f k l0).bind fun t400 => (some (decide (t400 ≥ 0)))
theorem api_GrPoint_76.mono : ∀ a0 k, LeO (api_GrPoint_76.f k a0) (api_GrPoint_76.f (k + 1) a0) := by
  intro a0 k
  unfold api_GrPoint_76.f
  repeat' first
      | (with_reducible exact api_GrPoint_84.mono _ _)
      | (with_reducible exact LeO.refl _)
      | (with_reducible exact LeO.none _)
      | (with_reducible refine LeO.ite ?_ ?_)
      | (with_reducible refine LeO.bind ?_ (fun _ => ?_))
      | exact api_GrPoint_84.mono _ _
      | exact LeO.none _
      | refine LeO.ite ?_ ?_
      | refine LeO.bind ?_ (fun _ => ?_)
set_option maxHeartbeats 8000000 in
set_option maxRecDepth 100000 in
theorem api_GrPoint_76.calls (k : Nat) (A0 : Option Addr) (c0 : Nat) (l0 : List (S37))  (r : Bool) (w : World) (hr0 : Kd.C k37 w A0 l0.length l0) (hc0 : l0.length ≤ c0) (h : api_GrPoint_76.f k l0 = some r) :
    Calls Try.prog 76 #[.slice A0 l0.length c0, .func (.func 77) #[] #[]] w fun e w' => e = .returned (.bool r) ∧ Below w.heap.size w w' := by
  have HR0 := Aside0.mk hr0
  have HC0 := Aside0.mk hc0
  clear hr0 hc0
  have HB := Aside0.mk (Below.refl w.heap.size w)
  have H : ((api_GrPoint_84.f k l0).bind fun t400 => (some (decide (t400 ≥ 0)))) = some r := h
  clear h
  obtain ⟨t400, A3, H⟩ := ob H
  obtain rfl := Option.some.inj H
  go_enter Try.func76, Try.ntmps76
  go_wp2_with (first | ((with_reducible refine gate_callee (f := 84) rfl ?_); refine goesL_ (some 7) rfl rfl Try.func84 (by kernel_rfl) rfl #[.slice A0 l0.length c0, .func (.func 77) #[] #[]] rfl am ?_; (with_reducible refine (api_GrPoint_84.calls k _ _ l0  t400 _ ?side1 ?side2 A3.out).mono ?_); (case side1 => repeat (first | exact HR0.out | (with_reducible refine Kd.C_alloc ?_ _) | (with_reducible refine Kd.C_drewN ?_ _) | (with_reducible refine Kd.C_drew ?_))); (case side2 => exact HC0.out); rintro e w4 ⟨rfl, hb⟩; refine ⟨_, rfl, ?_⟩; replace HB := bst HB hb; clear hb))
  go_ret
  exact rt HB
end
section
/-! ### grids_point: function 49 -/
def grids_point.f (k : Nat) (l0 : List (S37)) : Option (Bool) := (api_GrPoint_76.f k l0).bind fun t401 => (some (!t401))
theorem grids_point.mono : ∀ a0 k, LeO (grids_point.f k a0) (grids_point.f (k + 1) a0) := by
  intro a0 k
  unfold grids_point.f
  repeat' first
      | (with_reducible exact api_GrPoint_76.mono _ _)
      | (with_reducible exact LeO.refl _)
      | (with_reducible exact LeO.none _)
      | (with_reducible refine LeO.ite ?_ ?_)
      | (with_reducible refine LeO.bind ?_ (fun _ => ?_))
      | exact api_GrPoint_76.mono _ _
      | exact LeO.none _
      | refine LeO.ite ?_ ?_
      | refine LeO.bind ?_ (fun _ => ?_)
set_option maxHeartbeats 8000000 in
set_option maxRecDepth 100000 in
theorem grids_point.calls (k : Nat) (A0 : Option Addr) (c0 : Nat) (l0 : List (S37)) (r : Bool) (w : World) (hr0 : Kd.C k37 w A0 l0.length l0) (hc0 : l0.length ≤ c0) (h : grids_point.f k l0 = some r) :
    Calls Try.prog 49 #[.slice A0 l0.length c0] w fun e w' => e = .returned (.bool r) ∧ Below w.heap.size w w' := by
  have HR0 := Aside0.mk hr0
  have HC0 := Aside0.mk hc0
  clear hr0 hc0
  have HB := Aside0.mk (Below.refl w.heap.size w)
  have H : ((api_GrPoint_76.f k l0).bind fun t401 => (some (!t401))) = some r := h
  clear h
  obtain ⟨t401, A2, H⟩ := ob H
  obtain rfl := Option.some.inj H
  go_enter Try.func49, Try.ntmps49
  go_wp2_with (first | ((with_reducible refine gate_callee (f := 76) rfl ?_); refine goesL_ (some 4) rfl rfl Try.func76 (by kernel_rfl) rfl #[.slice A0 l0.length c0, .func (.func 77) #[] #[]] rfl am ?_; (with_reducible refine (api_GrPoint_76.calls k _ _ l0  t401 _ ?side1 ?side2 A2.out).mono ?_); (case side1 => repeat (first | exact HR0.out | (with_reducible refine Kd.C_alloc ?_ _) | (with_reducible refine Kd.C_drewN ?_ _) | (with_reducible refine Kd.C_drew ?_))); (case side2 => exact HC0.out); rintro e w3 ⟨rfl, hb⟩; refine ⟨_, rfl, ?_⟩; replace HB := bst HB hb; clear hb))
  go_ret
  exact rt HB
end
end Go.Proofs.Ytmcajdepoohlhaa.G
